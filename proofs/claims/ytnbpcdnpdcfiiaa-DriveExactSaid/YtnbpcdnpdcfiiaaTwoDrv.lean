/- The program's drive and the page's, side by side. -/
import Derived.Test.YtnbpcdnpdcfiiaaRefDrvL
namespace Go.Proofs.Ytnbpcdnpdcfiiaa
open Go.RowKit

/-- A tape of one's own whose row lies in Z. -/
theorem MedR.rowIn {F : Nat → TypeId → Prop} {Z : Nat → Prop} {w w' : World} {B : Nat} {M : Med} {a : Option Addr} {k c : Nat} {cs : List CellV} (h : MedR w B M a k c cs) (hz : RowIn Z a k c) (hm : Mod F w w') (hC : ∀ b, F b 73 → ¬ Z b) (hU : ∀ b, ¬ F b 5) : MedR w' B M a k c cs := by
  refine ⟨⟨?_, fun x hx => (h.own.dat x hx).mod hm fun b _ _ => hU b, h.own.apart⟩, h.len, h.pls⟩
  have hr := h.own.row
  rw [h.len] at hr ⊢
  obtain ⟨hl, h0 | ⟨g, cur, ha, hb, hh, rest⟩⟩ := hr
  · exact ⟨hl, .inl h0⟩
  · rcases hz g ha with h0 | hzg
    · exact ⟨hl, .inl h0⟩
    · exact ⟨hl, .inr ⟨g, cur, ha, hb, hm.keep hh (fun hf => hC g hf hzg), rest⟩⟩
/-- Both drives; none of their rows lies in the hole from lo to hi. -/
structure TwoD (B lo hi : Nat) (w : World) (d g rd q : Nat) (M : Med) (at_ : Int) (s : PS) (M2 : Med) (at2 : Int) (s2 : PS) : Prop where
  ex : ∃ K Z : Nat → Prop, (∀ b, K b → b < w.heap.size ∧ ¬ (lo ≤ b ∧ b < hi)) ∧ (∀ b, Z b → b < w.heap.size ∧ ¬ (lo ≤ b ∧ b < hi)) ∧ (∀ b, Z b → ¬ K b) ∧ DrvP B K w d g M at_ s ∧ RDrvP B Z w rd q M2 at2 s2
def TDs : List TypeId := [107, 119, 60, 73, 109, 41]
/-- What the two may write. -/
abbrev TDF (B : Nat) : Nat → TypeId → Prop := fun b T => B ≤ b ∧ T ∈ TDs
theorem VF.tdf {B : Nat} {K : Nat → Prop} {w w' : World} (h : Mod (VF B K) w w') : Mod (TDF B) w w' := h.mono fun b T _ hf => ⟨hf.1, by
  rcases hf.2 with h | ⟨_, h⟩ <;> (revert h; simp only [PT, TT, TDs, List.mem_cons, List.not_mem_nil, or_false]; rintro (h | h) <;> simp [h])⟩
theorem RVF.tdf {B : Nat} {w w' : World} (h : Mod (RVF B) w w') : Mod (TDF B) w w' := h.mono fun b T _ hf => ⟨hf.1, by
  rcases hf.2 with h | h <;> simp [TDs, h]⟩
theorem RDrvP.ext {B : Nat} {Z : Nat → Prop} {w w' : World} {rd q : Nat} {M : Med} {at_ : Int} {s : PS} (h : RDrvP B Z w rd q M at_ s) (hb : Below w.heap.size w w') : RDrvP B Z w' rd q M at_ s := by
  obtain ⟨⟨a, k, c, cs, h1, h2⟩, h3⟩ := h
  exact ⟨⟨a, k, c, cs, h1.ext hb, h2⟩, h3.ext hb⟩
theorem RDrvP.reZ {B : Nat} {Z Z' : Nat → Prop} {w : World} {rd q : Nat} {M : Med} {at_ : Int} {s : PS} (h : RDrvP B Z w rd q M at_ s) (hZ : ∀ b, Z b → Z' b) : RDrvP B Z' w rd q M at_ s := by
  obtain ⟨⟨a, k, c, cs, h1, h2⟩, h3⟩ := h
  exact ⟨⟨a, k, c, cs, h1, h2.mono hZ⟩, h3⟩
theorem RDrvP.low {B : Nat} {Z : Nat → Prop} {w : World} {rd q : Nat} {M : Med} {at_ : Int} {s : PS} (h : RDrvP B Z w rd q M at_ s) : B ≤ w.heap.size := Nat.le_of_lt (Nat.lt_of_le_of_lt h.2.lt.1 h.2.lt.2)

/-- A tape of one's own whose rows lie in Z, when others are written. -/
theorem MedR.rowsIn {F : Nat → TypeId → Prop} {Z : Nat → Prop} {w w' : World} {B : Nat} {M : Med} {a : Option Addr} {k c : Nat} {cs : List CellV} (h : MedR w B M a k c cs) (hz : RowIn Z a k c) (hu : ∀ x ∈ cs, RowIn Z x.d.a x.d.l.length x.d.c) (hm : Mod F w w') (hF : ∀ b T, F b T → ¬ Z b) : MedR w' B M a k c cs := by
  refine ⟨⟨?_, fun x hx => ?_, h.own.apart⟩, h.len, h.pls⟩
  · have hr := h.own.row
    rw [h.len] at hr ⊢
    obtain ⟨hl, h0 | ⟨g, cur, ha, hb, hh, rest⟩⟩ := hr
    · exact ⟨hl, .inl h0⟩
    · rcases hz g ha with h0 | hzg
      · exact ⟨hl, .inl h0⟩
      · exact ⟨hl, .inr ⟨g, cur, ha, hb, hm.keep hh (fun hf => hF _ _ hf hzg), rest⟩⟩
  · obtain ⟨hl, h0 | ⟨g, cur, ha, hb, hh, rest⟩⟩ := h.own.dat x hx
    · exact ⟨hl, .inl h0⟩
    · rcases hu x hx g ha with h0 | hzg
      · exact ⟨hl, .inl h0⟩
      · exact ⟨hl, .inr ⟨g, cur, ha, hb, hm.keep hh (fun hf => hF _ _ hf hzg), rest⟩⟩
variable {B lo hi : Nat} {w w' : World} {d g rd q : Nat} {M : Med} {at_ : Int} {s : PS} {M2 : Med} {at2 : Int} {s2 : PS}
theorem TwoD.ext (h : TwoD B lo hi w d g rd q M at_ s M2 at2 s2) (hb : Below w.heap.size w w') : TwoD B lo hi w' d g rd q M at_ s M2 at2 s2 := by
  obtain ⟨K, Z, h1, h2, h3, h4, h5⟩ := h
  exact ⟨K, Z, fun b hb' => ⟨Nat.lt_of_lt_of_le (h1 b hb').1 hb.size, (h1 b hb').2⟩, fun b hb' => ⟨Nat.lt_of_lt_of_le (h2 b hb').1 hb.size, (h2 b hb').2⟩, h3, h4.ext hb, h5.ext hb⟩
theorem TwoD.hole (h : TwoD B lo hi w d g rd q M at_ s M2 at2 s2) {lo' : Nat} (hi' : Nat) (hl : w.heap.size ≤ lo') : TwoD B lo' hi' w d g rd q M at_ s M2 at2 s2 := by
  obtain ⟨K, Z, h1, h2, h3, h4, h5⟩ := h
  exact ⟨K, Z, fun b hb' => ⟨(h1 b hb').1, fun h => by have := (h1 b hb').1; omega⟩, fun b hb' => ⟨(h2 b hb').1, fun h => by have := (h2 b hb').1; omega⟩, h3, h4, h5⟩
theorem TwoD.whole (h : TwoD B lo hi w d g rd q M at_ s M2 at2 s2) : TwoD B 0 0 w d g rd q M at_ s M2 at2 s2 := by
  obtain ⟨K, Z, h1, h2, h3, h4, h5⟩ := h
  exact ⟨K, Z, fun b hb' => ⟨(h1 b hb').1, fun h => by omega⟩, fun b hb' => ⟨(h2 b hb').1, fun h => by omega⟩, h3, h4, h5⟩
theorem TwoD.low (h : TwoD B lo hi w d g rd q M at_ s M2 at2 s2) : B ≤ w.heap.size := by
  obtain ⟨K, Z, h1, h2, h3, h4, h5⟩ := h
  exact h4.low
theorem rd_keep {F : Nat → TypeId → Prop} {Z : Nat → Prop} (h5 : RDrvP B Z w rd q M2 at2 s2) (hM : Mod F w w') (hno : ∀ b T, F b T → T ≠ 41 ∧ T ≠ 109 ∧ T ≠ 4) (hZ : ∀ b, F b 73 → ¬ Z b) (hU : ∀ b, ¬ F b 5) : RDrvP B Z w' rd q M2 at2 s2 := by
  obtain ⟨⟨a, k, c, cs, hr, hz⟩, hp⟩ := h5
  exact ⟨⟨a, k, c, cs, ⟨hr.low, hM.keep hr.obj fun hf => (hno _ _ hf).1 rfl, hr.r.rowIn hz.1 hM hZ hU, hr.cap⟩, hz⟩, hp.mod hM fun b T hf => (hno b T hf).2⟩
theorem vf_no {K : Nat → Prop} : ∀ b T, VF B K b T → T ≠ 41 ∧ T ≠ 109 ∧ T ≠ 4 := by
  rintro b T ⟨_, h | ⟨_, h⟩⟩
  · simp only [PT, List.mem_cons, List.not_mem_nil, or_false] at h
    rcases h with rfl | rfl <;> decide
  · simp only [TT, List.mem_cons, List.not_mem_nil, or_false] at h
    rcases h with rfl | rfl <;> decide
/-- The program's drive does something. -/
theorem TwoD.real (h : TwoD B lo hi w d g rd q M at_ s M2 at2 s2) (hh : hi ≤ w.heap.size) {P : Program} {f : FuncId} {args : Array Value} {R : Ending → World → Prop} {M' : Med} {at' : Int} {s' : PS}
    (op : ∀ K, DrvP B K w d g M at_ s → Up B K w → Calls P f args w fun e w' => R e w' ∧ DrvP B K w' d g M' at' s' ∧ Mod (VF B K) w w') : Calls P f args w fun e w' => R e w' ∧ TwoD B lo hi w' d g rd q M' at' s' M2 at2 s2 ∧ Mod (TDF B) w w' := by
  obtain ⟨K, Z, h1, h2, h3, h4, h5⟩ := h
  have hd : DrvP B (fun b => K b ∨ w.heap.size ≤ b) w d g M at_ s := h4.rek fun b _ _ hk => .inl hk
  refine (op _ hd ⟨h4.low, fun b hb => .inr hb⟩).mono ?_
  rintro e w' ⟨hR, hd', hM⟩
  refine ⟨hR, ⟨fun b => (K b ∨ w.heap.size ≤ b) ∧ b < w'.heap.size, Z, fun b hb => ⟨hb.2, fun hx => ?_⟩, fun b hb => ⟨Nat.lt_of_lt_of_le (h2 b hb).1 hM.size, (h2 b hb).2⟩, fun b hz hk => ?_, hd'.rek fun b _ hb hk => ⟨hk, hb⟩, ?_⟩, VF.tdf hM⟩
  · rcases hb.1 with h | h
    · exact (h1 b h).2 hx
    · omega
  · rcases hk.1 with h | h
    · exact h3 b hz h
    · have := (h2 b hz).1; omega
  · refine rd_keep h5 hM vf_no (fun b hf hzb => ?_) fun b => VF_no_u8 b
    rcases hf.2 with h | ⟨h, _⟩
    · revert h; decide
    · rcases h with h | h
      · exact h3 b hzb h
      · have := (h2 b hzb).1; omega
/-- The program's drive does something, and takes no new rows: any hole behind. -/
theorem TwoD.real0 (h : TwoD B lo hi w d g rd q M at_ s M2 at2 s2) {P : Program} {f : FuncId} {args : Array Value} {R : Ending → World → Prop} {M' : Med} {at' : Int} {s' : PS}
    (op : ∀ K, DrvP B K w d g M at_ s → Calls P f args w fun e w' => R e w' ∧ DrvP B K w' d g M' at' s' ∧ Mod (VF B K) w w') : Calls P f args w fun e w' => R e w' ∧ TwoD B lo hi w' d g rd q M' at' s' M2 at2 s2 ∧ Mod (TDF B) w w' := by
  obtain ⟨K, Z, h1, h2, h3, h4, h5⟩ := h
  refine (op _ h4).mono ?_
  rintro e w' ⟨hR, hd', hM⟩
  refine ⟨hR, ⟨K, Z, fun b hb => ⟨Nat.lt_of_lt_of_le (h1 b hb).1 hM.size, (h1 b hb).2⟩, fun b hb => ⟨Nat.lt_of_lt_of_le (h2 b hb).1 hM.size, (h2 b hb).2⟩, h3, hd', ?_⟩, VF.tdf hM⟩
  refine rd_keep h5 hM vf_no (fun b hf hzb => ?_) fun b => VF_no_u8 b
  rcases hf.2 with h | ⟨h, _⟩
  · revert h; decide
  · exact h3 b hzb h
theorem TwoD.real0h (h : TwoD B lo hi w d g rd q M at_ s M2 at2 s2) {P : Program} {f : FuncId} {args : Array Value} {R : Ending → World → Prop} {M' : Med} {at' : Int} {s' : PS}
    (op : ∀ K, DrvP B K w d g M at_ s → Calls P f args w fun e w' => R e w' ∧ DrvP B K w' d g M' at' s' ∧ Mod (VF B K) w w') : Calls P f args w fun e w' => R e w' ∧ (∀ hi', TwoD B w.heap.size hi' w' d g rd q M' at' s' M2 at2 s2) ∧ Mod (TDF B) w w' := by
  obtain ⟨K, Z, h1, h2, h3, h4, h5⟩ := h
  refine (op _ h4).mono ?_
  rintro e w' ⟨hR, hd', hM⟩
  refine ⟨hR, fun hi' => ⟨K, Z, fun b hb => ⟨Nat.lt_of_lt_of_le (h1 b hb).1 hM.size, fun hx => by have := (h1 b hb).1; omega⟩, fun b hb => ⟨Nat.lt_of_lt_of_le (h2 b hb).1 hM.size, fun hx => by have := (h2 b hb).1; omega⟩, h3, hd', ?_⟩, VF.tdf hM⟩
  refine rd_keep h5 hM vf_no (fun b hf hzb => ?_) fun b => VF_no_u8 b
  rcases hf.2 with h | ⟨h, _⟩
  · revert h; decide
  · exact h3 b hzb h
theorem drv_rkeep {K : Nat → Prop} (h4 : DrvP B K w d g M at_ s) (hM : Mod (RVF B) w w') : DrvP B K w' d g M at_ s := by
  have hno : ∀ b T, RVF B b T → T ≠ 60 ∧ T ≠ 73 ∧ T ≠ 5 ∧ T ≠ 107 ∧ T ≠ 119 ∧ T ≠ 4 := by
    rintro b T ⟨_, rfl | rfl⟩ <;> decide
  obtain ⟨⟨a, k, c, cs, hr⟩, hp⟩ := h4
  exact ⟨⟨a, k, c, cs, hr.mod hM fun b T hf => ⟨(hno b T hf).1, (hno b T hf).2.1, (hno b T hf).2.2.1⟩⟩, hp.mod hM fun b T hf => ⟨(hno b T hf).2.2.2.1, (hno b T hf).2.2.2.2.1, (hno b T hf).2.2.2.2.2⟩⟩
/-- The page's drive does something. -/
theorem TwoD.ref (h : TwoD B lo hi w d g rd q M at_ s M2 at2 s2) (hh : hi ≤ w.heap.size) {P : Program} {f : FuncId} {args : Array Value} {R : Ending → World → Prop} {M' : Med} {at' : Int} {s' : PS}
    (op : ∀ Z, RDrvP B Z w rd q M2 at2 s2 → Calls P f args w fun e w' => R e w' ∧ RDrvP B (fun b => Z b ∨ w.heap.size ≤ b ∧ b < w'.heap.size) w' rd q M' at' s' ∧ Mod (RVF B) w w') : Calls P f args w fun e w' => R e w' ∧ TwoD B lo hi w' d g rd q M at_ s M' at' s' ∧ Mod (TDF B) w w' := by
  obtain ⟨K, Z, h1, h2, h3, h4, h5⟩ := h
  refine (op Z h5).mono ?_
  rintro e w' ⟨hR, hd', hM⟩
  refine ⟨hR, ⟨K, _, fun b hb => ⟨Nat.lt_of_lt_of_le (h1 b hb).1 hM.size, (h1 b hb).2⟩, fun b hb => ?_, fun b hz hk => ?_, drv_rkeep h4 hM, hd'⟩, RVF.tdf hM⟩
  · rcases hb with h | h
    · exact ⟨Nat.lt_of_lt_of_le (h2 b h).1 hM.size, (h2 b h).2⟩
    · exact ⟨h.2, fun hx => by omega⟩
  · rcases hz with h | h
    · exact h3 b h hk
    · have := (h1 b hk).1; omega
/-- The page's drive does something, and takes no new rows. -/
theorem TwoD.ref0 (h : TwoD B lo hi w d g rd q M at_ s M2 at2 s2) {P : Program} {f : FuncId} {args : Array Value} {R : Ending → World → Prop} {M' : Med} {at' : Int} {s' : PS}
    (op : ∀ Z, RDrvP B Z w rd q M2 at2 s2 → Calls P f args w fun e w' => R e w' ∧ RDrvP B Z w' rd q M' at' s' ∧ Mod (RVF B) w w') : Calls P f args w fun e w' => R e w' ∧ TwoD B lo hi w' d g rd q M at_ s M' at' s' ∧ Mod (TDF B) w w' := by
  obtain ⟨K, Z, h1, h2, h3, h4, h5⟩ := h
  refine (op Z h5).mono ?_
  rintro e w' ⟨hR, hd', hM⟩
  exact ⟨hR, ⟨K, Z, fun b hb => ⟨Nat.lt_of_lt_of_le (h1 b hb).1 hM.size, (h1 b hb).2⟩, fun b hb => ⟨Nat.lt_of_lt_of_le (h2 b hb).1 hM.size, (h2 b hb).2⟩, h3, drv_rkeep h4 hM, hd'⟩, RVF.tdf hM⟩
/-- What lies in the hole is written. -/
theorem TwoD.spoil {F : Nat → TypeId → Prop} (h : TwoD B lo hi w d g rd q M at_ s M2 at2 s2) (hm : Mod F w w') (hF : ∀ b T, F b T → (lo ≤ b ∧ b < hi) ∧ (T = 5 ∨ T = 73)) : TwoD B lo hi w' d g rd q M at_ s M2 at2 s2 := by
  obtain ⟨K, Z, h1, h2, h3, ⟨⟨a, k, c, cs, h4⟩, hp⟩, ⟨⟨a2, k2, c2, cs2, h5, hz⟩, hp2⟩⟩ := h
  have hno : ∀ b T, F b T → T ≠ 60 ∧ T ≠ 41 ∧ T ≠ 109 ∧ T ≠ 107 ∧ T ≠ 119 ∧ T ≠ 4 := by
    intro b T hf
    rcases (hF b T hf).2 with rfl | rfl <;> decide
  refine ⟨K, Z, fun b hb => ⟨Nat.lt_of_lt_of_le (h1 b hb).1 hm.size, (h1 b hb).2⟩, fun b hb => ⟨Nat.lt_of_lt_of_le (h2 b hb).1 hm.size, (h2 b hb).2⟩, h3, ⟨⟨a, k, c, cs, ?_⟩, hp.mod hm fun b T hf => ⟨(hno b T hf).2.2.2.1, (hno b T hf).2.2.2.2.1, (hno b T hf).2.2.2.2.2⟩⟩, ⟨⟨a2, k2, c2, cs2, ⟨h5.low, hm.keep h5.obj fun hf => (hno _ _ hf).2.1 rfl, ?_, h5.cap⟩, hz⟩, hp2.mod hm fun b T hf => ⟨(hno b T hf).2.2.1, (hno b T hf).2.2.2.2.2⟩⟩⟩
  · exact ⟨h4.low, h4.kd, hm.keep h4.obj fun hf => (hno _ _ hf).1 rfl, h4.r.rowsIn h4.kr h4.du hm fun b T hf hk => (h1 b hk).2 (hF b T hf).1, h4.cap, h4.kr, h4.du⟩
  · exact h5.r.rowsIn hz.1 hz.2 hm fun b T hf hk => (h2 b hk).2 (hF b T hf).1
theorem drv_start {K : Nat → Prop} (hd : DrvP B K w d g M at_ s) (hl0 : 0 ≤ s.life) (hl1 : s.life ≤ 4611686018427387904) :
    Calls Try.prog 30 #[.pointer (some ⟨g, 0, none⟩)] w fun e w' => e = .returned (.tuple #[]) ∧ DrvP B K w' d g M at_ s.start ∧ Mod (VF B K) w w' := by
  obtain ⟨⟨a, k, c, cs, h⟩, hp⟩ := hd
  refine (start_at hp rfl hl0 hl1).mono ?_
  rintro e w2 ⟨rfl, hp2, hm⟩
  exact ⟨rfl, ⟨⟨a, k, c, cs, h.pf hm⟩, hp2⟩, PF.vf hm⟩
theorem drv_cut {K : Nat → Prop} (t : Int) (hd : DrvP B K w d g M at_ s) :
    Calls Try.prog 32 #[.pointer (some ⟨g, 0, none⟩), .slice none 0 0, .int .i64 t] w fun e w' => e = .returned (.tuple #[]) ∧ DrvP B K w' d g M at_ (s.cut [] t) ∧ Mod (VF B K) w w' := by
  have hB := hd.low
  obtain ⟨⟨a, k, c, cs, h⟩, hp⟩ := hd
  refine (cut_nil hB hp rfl).mono ?_
  rintro e w2 ⟨rfl, hp2, hm⟩
  exact ⟨rfl, ⟨⟨a, k, c, cs, h.pf hm⟩, hp2⟩, PF.vf hm⟩
theorem rdrv_start {Z : Nat → Prop} (hd : RDrvP B Z w rd q M at_ s) (hl0 : 0 ≤ s.life) (hl1 : s.life ≤ 4611686018427387904) :
    Calls Try.prog 31 #[.pointer (some ⟨q, 0, none⟩)] w fun e w' => e = .returned (.tuple #[]) ∧ RDrvP B Z w' rd q M at_ s.start ∧ Mod (RVF B) w w' := by
  obtain ⟨⟨a, k, c, cs, h, hz⟩, hp⟩ := hd
  refine (rpow_start B q s w hp hl0 hl1).mono ?_
  rintro e w2 ⟨rfl, hp2, hm⟩
  exact ⟨rfl, ⟨⟨a, k, c, cs, h.rpf hm, hz⟩, hp2⟩, RPF.rvf hm⟩
theorem rdrv_cut {Z : Nat → Prop} (t : Int) (hd : RDrvP B Z w rd q M at_ s) :
    Calls Try.prog 33 #[.pointer (some ⟨q, 0, none⟩), .slice none 0 0, .int .i64 t] w fun e w' => e = .returned (.tuple #[]) ∧ RDrvP B Z w' rd q M at_ (s.cut [] t) ∧ Mod (RVF B) w w' := by
  have hB := hd.low
  obtain ⟨⟨a, k, c, cs, h, hz⟩, hp⟩ := hd
  refine (rpow_cut B q s none 0 0 [] t w hB hp (Src.nil _ _) rfl (by decide)).mono ?_
  rintro e w2 ⟨rfl, hp2, hm⟩
  exact ⟨rfl, ⟨⟨a, k, c, cs, h.rpf hm, hz⟩, hp2⟩, RPF.rvf hm⟩
theorem rdrv_trip {Z : Nat → Prop} (n t : Int) (hd : RDrvP B Z w rd q M at_ s) (hn : n ≤ 9223372036854775807) :
    Calls Try.prog 29 #[.pointer (some ⟨q, 0, none⟩), .int .i64 n, .slice none 0 0, .int .i64 t] w fun e w' => e = .returned (.tuple #[]) ∧ RDrvP B Z w' rd q M at_ (s.arm n [] t) ∧ Mod (RVF B) w w' := by
  have hB := hd.low
  obtain ⟨⟨a, k, c, cs, h, hz⟩, hp⟩ := hd
  refine (rpow_arm B q s none 0 0 [] n t w hB hp (Src.nil _ _) rfl (by decide) hn).mono ?_
  rintro e w2 ⟨rfl, hp2, hm⟩
  exact ⟨rfl, ⟨⟨a, k, c, cs, h.rpf hm, hz⟩, hp2⟩, RPF.rvf hm⟩
theorem cut_life0 (t : Int) : (s.cut [] t).life = s.life := by unfold PS.cut; split <;> rfl
theorem start_life0 : s.start.life = s.life ∨ s.start.life = s.life + 1 := by
  unfold PS.start
  split
  · exact .inr rfl
  · exact .inl rfl
theorem TwoD.realP (h : TwoD B lo hi w d g rd q M at_ s M2 at2 s2) : ∃ K, DrvP B K w d g M at_ s := by
  obtain ⟨K, Z, h1, h2, h3, h4, h5⟩ := h
  exact ⟨K, h4⟩
theorem TwoD.refP (h : TwoD B lo hi w d g rd q M at_ s M2 at2 s2) : ∃ Z, RDrvP B Z w rd q M2 at2 s2 := by
  obtain ⟨K, Z, h1, h2, h3, h4, h5⟩ := h
  exact ⟨Z, h5⟩
end Go.Proofs.Ytnbpcdnpdcfiiaa
