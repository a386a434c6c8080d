/- The program's disk and the page's, side by side. -/
import Derived.Test.YtclkkhpnnbkfmaaRefDkNew
import Derived.Test.YtclkkhpnnbkfmaaRefDkRead
import Derived.Test.YtclkkhpnnbkfmaaDiskWakesR
import Derived.Test.YtclkkhpnnbkfmaaSpoilIn
namespace Go.Proofs.Ytclkkhpnnbkfmaa
open Go.RowKit
variable {R : Nat}

theorem RS.ok.write {d : RS} {n : Nat} (h : d.ok n) (p : PS) (i : Int) (b : List Byte) : (d.write p i b).2.1.ok n := by
  have hw := h.wake p
  unfold RS.write
  split
  · exact h
  · split
    · next hi =>
      split
      · exact hw
      · next hb =>
        refine ⟨hw.safe, hw.torn, fun x hx => ?_, hw.bytes⟩
        rcases List.mem_append.1 hx with hx | hx
        · exact hw.loose x hx
        · simp only [List.mem_singleton] at hx
          subst hx
          have := h.safe
          exact ⟨by simp only; omega, by simpa using hb⟩
    · exact hw
theorem applyAll_bytes : ∀ (l : List (Nat × List Byte)) (u : List (List Byte) × List Bool), (∀ x ∈ l, x.2.length = 256) → (∀ x ∈ u.1, x.length = 256) → ∀ x ∈ (applyAll l u).1, x.length = 256
  | [], _, _, h => h
  | y :: r, u, hl, h => by
    rw [applyAll]
    refine applyAll_bytes r _ (fun z hz => hl z (by simp [hz])) fun x hx => ?_
    rcases List.mem_or_eq_of_mem_set hx with hx | rfl
    · exact h x hx
    · exact hl y (by simp)
theorem RS.ok.sync {d : RS} {n : Nat} (h : d.ok n) (p : PS) : (d.sync p).2.1.ok n := by
  have hw := h.wake p
  unfold RS.sync
  split
  · exact h
  · split
    · have := applyAll_len (d.wake p).loose ((d.wake p).safe, (d.wake p).torn) hw.safe hw.torn
      exact ⟨this.1, this.2, by simp, applyAll_bytes _ _ (fun x hx => (hw.loose x hx).2) hw.bytes⟩
    · exact hw
theorem RS.ok.erase {d : RS} {n : Nat} (h : d.ok n) (p : PS) : (d.erase p).2.ok n := by
  unfold RS.erase
  split
  · exact h
  · exact ⟨by simp [h.safe], by simp [h.safe], by simp, fun x hx => by rw [List.eq_of_mem_replicate hx]; exact List.length_replicate ..⟩
theorem RS.loose_wake (d : RS) (p : PS) : (d.wake p).loose.length ≤ d.loose.length := by unfold RS.wake; split <;> simp
theorem RS.loose_write (d : RS) (p : PS) (i : Int) (b : List Byte) : (d.write p i b).2.1.loose.length ≤ d.loose.length + 1 := by
  have := d.loose_wake p
  unfold RS.write
  split
  · simp
  · split
    · split
      · simp only; omega
      · simp only [List.length_append, List.length_singleton]; omega
    · simp only; omega
theorem RS.loose_sync (d : RS) (p : PS) : (d.sync p).2.1.loose.length ≤ d.loose.length := by
  have := d.loose_wake p
  unfold RS.sync
  split
  · simp
  · split
    · simp
    · exact this
theorem RS.loose_erase (d : RS) (p : PS) : (d.erase p).2.loose.length ≤ d.loose.length := by
  unfold RS.erase
  split <;> simp
theorem RS.new_ok (life : Int) (n : Nat) : (RS.new life n).ok n := ⟨by simp [RS.new], by simp [RS.new], by simp [RS.new], fun x hx => by
  rw [List.eq_of_mem_replicate (show x ∈ List.replicate n zeros256 from hx)]; exact List.length_replicate ..⟩

theorem rdk_base {K : Nat → Prop} {B B' : Nat} {w : World} {r q tb : Nat} {d : RS} (h : RDk K B w r q tb d) (hB : B' ≤ B) : RDk K B' w r q tb d := by
  obtain ⟨sa, sc, ss, tc, la, lc, ls, hc, rest⟩ := h
  exact ⟨sa, sc, ss, tc, la, lc, ls, ⟨Nat.le_trans hB hc.low, hc.obj, hc.safe.mono hB, hc.torn.mono hB, hc.loose.mono hB, hc.rows, hc.wrs, hc.lnil⟩, rest⟩
/-- Both disks; none of their bytes lies in the hole from lo to hi. -/
structure TwoDk (R B lo hi : Nat) (w : World) (g pg r q tb n : Nat) (d : DS) (p : PS) (e : RS) (p2 : PS) (m : Nat) : Prop where
  ex : ∃ K Z : Nat → Prop, (∀ b, K b → b < w.heap.size ∧ ¬ (lo ≤ b ∧ b < hi)) ∧ (∀ b, Z b → b < w.heap.size ∧ ¬ (lo ≤ b ∧ b < hi)) ∧ DW R K B w g pg n d p m ∧ RDk Z B w r q tb e ∧ RPow R B w q p2
  rok : e.ok n
  few : e.loose.length ≤ m
  low : B ≤ tb
  tbR : tb < R
/-- What the two may write. -/
abbrev TKF (B tb : Nat) : Nat → TypeId → Prop := fun b T => B ≤ b ∧ (T ∈ DT ∨ T ∈ RDT ∨ b = tb ∧ T = 4)
theorem DF.tkf {B tb : Nat} {w w' : World} (h : Mod (DF B) w w') : Mod (TKF B tb) w w' := h.mono fun b T _ hf => ⟨hf.1, .inl hf.2⟩
theorem RDF.tkf {B tb : Nat} {w w' : World} (h : Mod (RDF B tb) w w') : Mod (TKF B tb) w w' := h.mono fun b T _ hf => ⟨hf.1, .inr hf.2⟩
theorem TKF_no8 {B tb : Nat} (b : Nat) : ¬ TKF B tb b 5 := by rintro ⟨_, h | h | ⟨_, h⟩⟩ <;> revert h <;> decide
theorem TKF_noA {B tb : Nat} (b : Nat) : ¬ TKF B tb b 112 := by rintro ⟨_, h | h | ⟨_, h⟩⟩ <;> revert h <;> decide
theorem no_rdt {T : TypeId} (h : T ∈ DT) : T ≠ 138 ∧ T ≠ 165 ∧ T ≠ 50 ∧ T ≠ 169 ∧ T ≠ 4 := by
  simp only [DT, List.mem_cons, List.not_mem_nil, or_false] at h
  rcases h with rfl | rfl | rfl | rfl | rfl <;> decide
theorem no_dt {T : TypeId} (h : T ∈ RDT) : T ≠ 120 ∧ T ≠ 149 ∧ T ≠ 161 ∧ T ≠ 167 ∧ T ≠ 172 ∧ T ≠ 4 := by
  simp only [RDT, List.mem_cons, List.not_mem_nil, or_false] at h
  rcases h with rfl | rfl | rfl | rfl <;> decide
variable {B lo hi : Nat} {w w' : World} {g pg r q tb n m : Nat} {d : DS} {p : PS} {e : RS} {p2 : PS}
theorem dw_rkeep {K : Nat → Prop} (h : DW R K B w g pg n d p m) (hm : Mod (RDF B tb) w w') (ht : tb < R) : DW R K B w' g pg n d p m :=
  ⟨h.disk.mod hm (fun b T hf => by
      rcases hf.2 with h | ⟨_, rfl⟩
      · exact ⟨(no_dt h).2.2.1, (no_dt h).2.2.2.1, (no_dt h).2.2.2.2.1⟩
      · decide) fun b _ _ => no_rdf_u8 b, h.pow.modR hm (fun b T hf => by
      rcases hf.2 with h | ⟨rfl, rfl⟩
      · exact ⟨(no_dt h).1, (no_dt h).2.1, fun h2 => absurd h2 (no_dt h).2.2.2.2.2⟩
      · exact ⟨by decide, by decide, fun _ => ht⟩), h.ok, Nat.le_trans h.base hm.size, h.pend⟩
theorem rdk_dkeep {Z : Nat → Prop} (h : RDk Z B w r q tb e) (hm : Mod (DF B) w w') : RDk Z B w' r q tb e := h.mod hm (fun b T hf => ⟨(no_rdt hf.2).2.1, (no_rdt hf.2).2.2.1, (no_rdt hf.2).2.2.2.1, (no_rdt hf.2).2.2.2.2⟩) fun b _ _ => DF_no_u8 b
theorem rpow_dkeep (h : RPow R B w q p2) (hm : Mod (DF B) w w') : RPow R B w' q p2 := h.mod hm fun b T hf => ⟨(no_rdt hf.2).1, (no_rdt hf.2).2.2.2.2⟩
theorem TwoDk.ext (h : TwoDk R B lo hi w g pg r q tb n d p e p2 m) (hb : Below w.heap.size w w') : TwoDk R B lo hi w' g pg r q tb n d p e p2 m := by
  obtain ⟨⟨K, Z, h1, h2, h3, h4, h5⟩, r1, r2, r3, r4⟩ := h
  exact ⟨⟨K, Z, fun b hb' => ⟨Nat.lt_of_lt_of_le (h1 b hb').1 hb.size, (h1 b hb').2⟩, fun b hb' => ⟨Nat.lt_of_lt_of_le (h2 b hb').1 hb.size, (h2 b hb').2⟩, h3.ext hb, h4.ext hb, h5.ext hb⟩, r1, r2, r3, r4⟩
theorem TwoDk.hole (h : TwoDk R B lo hi w g pg r q tb n d p e p2 m) {lo' : Nat} (hi' : Nat) (hl : w.heap.size ≤ lo') : TwoDk R B lo' hi' w g pg r q tb n d p e p2 m := by
  obtain ⟨⟨K, Z, h1, h2, h3⟩, r1, r2, r3, r4⟩ := h
  exact ⟨⟨K, Z, fun b hb' => ⟨(h1 b hb').1, fun h => by have := (h1 b hb').1; omega⟩, fun b hb' => ⟨(h2 b hb').1, fun h => by have := (h2 b hb').1; omega⟩, h3⟩, r1, r2, r3, r4⟩
theorem TwoDk.whole (h : TwoDk R B lo hi w g pg r q tb n d p e p2 m) : TwoDk R B 0 0 w g pg r q tb n d p e p2 m := by
  obtain ⟨⟨K, Z, h1, h2, h3⟩, r1, r2, r3, r4⟩ := h
  exact ⟨⟨K, Z, fun b hb' => ⟨(h1 b hb').1, fun h => by omega⟩, fun b hb' => ⟨(h2 b hb').1, fun h => by omega⟩, h3⟩, r1, r2, r3, r4⟩
theorem TwoDk.base (h : TwoDk R B lo hi w g pg r q tb n d p e p2 m) : max B R ≤ w.heap.size := by
  obtain ⟨⟨K, Z, h1, h2, h3, _⟩, _⟩ := h
  exact h3.base
theorem TwoDk.mono (h : TwoDk R B lo hi w g pg r q tb n d p e p2 m) {m' : Nat} (hm : m ≤ m') : TwoDk R B lo hi w g pg r q tb n d p e p2 m' := by
  obtain ⟨⟨K, Z, h1, h2, h3, h4⟩, r1, r2, r3, r4⟩ := h
  exact ⟨⟨K, Z, h1, h2, h3.mono (fun _ _ h => h) hm, h4⟩, r1, Nat.le_trans r2 hm, r3, r4⟩
theorem TwoDk.low2 (h : TwoDk R B lo hi w g pg r q tb n d p e p2 m) : B ≤ pg ∧ pg < w.heap.size := by
  obtain ⟨⟨K, Z, h1, h2, h3, _⟩, _⟩ := h
  obtain ⟨_, _, _, hc, _⟩ := h3.pow
  exact ⟨hc.1, heap_lt hc.2⟩
/-- The program's disk, or power, does something, and takes no new bytes: any hole behind. -/
theorem TwoDk.real0 (h : TwoDk R B lo hi w g pg r q tb n d p e p2 m) {P : Program} {f : FuncId} {args : Array Value} {X : Ending → World → Prop} {d' : DS} {p' : PS}
    (op : ∀ K, DW R K B w g pg n d p m → Calls P f args w fun x w' => X x w' ∧ DW R K B w' g pg n d' p' m ∧ Mod (DF B) w w') : Calls P f args w fun x w' => X x w' ∧ (∀ hi', TwoDk R B w.heap.size hi' w' g pg r q tb n d' p' e p2 m) ∧ Mod (TKF B tb) w w' := by
  obtain ⟨⟨K, Z, h1, h2, h3, h4, h5⟩, r1, r2, r3, r4⟩ := h
  refine (op _ h3).mono ?_
  rintro x w' ⟨hR, hd', hM⟩
  exact ⟨hR, fun hi' => ⟨⟨K, Z, fun b hb => ⟨Nat.lt_of_lt_of_le (h1 b hb).1 hM.size, fun hx => by have := (h1 b hb).1; omega⟩, fun b hb => ⟨Nat.lt_of_lt_of_le (h2 b hb).1 hM.size, fun hx => by have := (h2 b hb).1; omega⟩, hd', rdk_dkeep h4 hM, rpow_dkeep h5 hM⟩, r1, r2, r3, r4⟩, DF.tkf hM⟩
/-- The program's disk takes new bytes, behind the hole. -/
theorem TwoDk.real (h : TwoDk R B lo hi w g pg r q tb n d p e p2 m) (hh : hi ≤ w.heap.size) {P : Program} {f : FuncId} {args : Array Value} {X : Ending → World → Prop} {d' : DS} {p' : PS}
    (op : ∀ K, DW R K B w g pg n d p m → Calls P f args w fun x w' => X x w' ∧ DW R (fun b => K b ∨ w.heap.size ≤ b) B w' g pg n d' p' (m + 1) ∧ Mod (DF B) w w') : Calls P f args w fun x w' => X x w' ∧ TwoDk R B lo hi w' g pg r q tb n d' p' e p2 (m + 1) ∧ Mod (TKF B tb) w w' := by
  obtain ⟨⟨K, Z, h1, h2, h3, h4, h5⟩, r1, r2, r3, r4⟩ := h
  refine (op _ h3).mono ?_
  rintro x w' ⟨hR, hd', hM⟩
  refine ⟨hR, ⟨⟨fun b => (K b ∨ w.heap.size ≤ b) ∧ b < w'.heap.size, Z, fun b hb => ⟨hb.2, fun hx => ?_⟩, fun b hb => ⟨Nat.lt_of_lt_of_le (h2 b hb).1 hM.size, (h2 b hb).2⟩, hd'.mono (fun b hb hk => ⟨hk, hb⟩) (Nat.le_refl _), rdk_dkeep h4 hM, rpow_dkeep h5 hM⟩, r1, Nat.le_succ_of_le r2, r3, r4⟩, DF.tkf hM⟩
  rcases hb.1 with h | h
  · exact (h1 b h).2 hx
  · omega
/-- The page's disk, or power, does something; what bytes it takes lie behind the hole. -/
theorem TwoDk.ref (h : TwoDk R B lo hi w g pg r q tb n d p e p2 m) (hh : hi ≤ w.heap.size) {P : Program} {f : FuncId} {args : Array Value} {X : Ending → World → Prop} {e' : RS} {p' : PS} (hok : e'.ok n) (hfew : e'.loose.length ≤ m)
    (op : ∀ Z, RDk Z B w r q tb e → RPow R B w q p2 → Calls P f args w fun x w' => X x w' ∧ RDk (fun b => Z b ∨ w.heap.size ≤ b) B w' r q tb e' ∧ RPow R B w' q p' ∧ Mod (RDF B tb) w w') : Calls P f args w fun x w' => X x w' ∧ TwoDk R B lo hi w' g pg r q tb n d p e' p' m ∧ Mod (TKF B tb) w w' := by
  obtain ⟨⟨K, Z, h1, h2, h3, h4, h5⟩, r1, r2, r3, r4⟩ := h
  refine (op _ h4 h5).mono ?_
  rintro x w' ⟨hR, hd', hp', hM⟩
  refine ⟨hR, ⟨⟨K, fun b => (Z b ∨ w.heap.size ≤ b) ∧ b < w'.heap.size, fun b hb => ⟨Nat.lt_of_lt_of_le (h1 b hb).1 hM.size, (h1 b hb).2⟩, fun b hb => ⟨hb.2, fun hx => ?_⟩, dw_rkeep h3 hM r4, hd'.mono fun b hb hk => ⟨hk, hb⟩, hp'⟩, hok, hfew, r3, r4⟩, RDF.tkf hM⟩
  rcases hb.1 with h | h
  · exact (h2 b h).2 hx
  · omega
/-- The page's power does something. -/
theorem TwoDk.refp (h : TwoDk R B lo hi w g pg r q tb n d p e p2 m) {P : Program} {f : FuncId} {args : Array Value} {X : Ending → World → Prop} {p' : PS}
    (op : RPow R B w q p2 → Calls P f args w fun x w' => X x w' ∧ RPow R B w' q p' ∧ Mod (RPF B) w w') : Calls P f args w fun x w' => X x w' ∧ TwoDk R B lo hi w' g pg r q tb n d p e p' m ∧ Mod (TKF B tb) w w' := by
  obtain ⟨⟨K, Z, h1, h2, h3, h4, h5⟩, r1, r2, r3, r4⟩ := h
  refine (op h5).mono ?_
  rintro x w' ⟨hR, hp', hM⟩
  have hM2 : Mod (RDF B tb) w w' := RPF.rdf hM
  exact ⟨hR, ⟨⟨K, Z, fun b hb => ⟨Nat.lt_of_lt_of_le (h1 b hb).1 hM.size, (h1 b hb).2⟩, fun b hb => ⟨Nat.lt_of_lt_of_le (h2 b hb).1 hM.size, (h2 b hb).2⟩, dw_rkeep h3 hM2 r4, h4.rpf hM, hp'⟩, r1, r2, r3, r4⟩, RDF.tkf hM2⟩
/-- Bytes in the hole are written. -/
theorem TwoDk.spoil {F : Nat → TypeId → Prop} (h : TwoDk R B lo hi w g pg r q tb n d p e p2 m) (hm : Mod F w w') (hF : ∀ b T, F b T → (lo ≤ b ∧ b < hi) ∧ T = 5) : TwoDk R B lo hi w' g pg r q tb n d p e p2 m := by
  obtain ⟨⟨K, Z, h1, h2, h3, h4, h5⟩, r1, r2, r3, r4⟩ := h
  refine ⟨⟨K, Z, fun b hb => ⟨Nat.lt_of_lt_of_le (h1 b hb).1 hm.size, (h1 b hb).2⟩, fun b hb => ⟨Nat.lt_of_lt_of_le (h2 b hb).1 hm.size, (h2 b hb).2⟩, ⟨h3.disk.mod hm (fun b T hf => ?_) (fun b _ hk hf => (h1 b hk).2 (hF _ _ hf).1), h3.pow.mod hm fun b T hf => ?_, h3.ok, Nat.le_trans h3.base hm.size, h3.pend⟩, h4.mod hm (fun b T hf => ?_) (fun b _ hk hf => (h2 b hk).2 (hF _ _ hf).1), h5.mod hm fun b T hf => ?_⟩, r1, r2, r3, r4⟩
  all_goals (rw [(hF _ _ hf).2]; decide)
end Go.Proofs.Ytclkkhpnnbkfmaa
