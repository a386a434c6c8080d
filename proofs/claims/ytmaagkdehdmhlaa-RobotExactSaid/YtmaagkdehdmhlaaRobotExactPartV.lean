/- Several texts of this claim, one behind the other: RefDrvL, TwoDrv. -/
import Derived.Test.YtmaagkdehdmhlaaRefDrvM
/- The page's drive's Locate. -/
namespace Go.Proofs.Ytmaagkdehdmhlaa
open Go.RowKit

theorem take_succ_any {l : List CellP} {j : Nat} (h : j < l.length) : (l.take (j + 1)).any isMark = ((l.take j).any isMark || isMark l[j]) := by
  rw [List.take_succ_eq_append_getElem h, List.any_append]
  simp

set_option maxRecDepth 100000 in
set_option maxHeartbeats 8000000 in
theorem rdrv_locate {B : Nat} {Z : Nat → Prop} {rd q : Nat} {M : Med} {at_ : Int} (n block E at' : Int) (s : PS) (w : World) (hd : RDrvP B Z w rd q M at_ s) (hk : M.cells.length ≤ 90000) (hn1 : n ≤ 9223372036854775807) (hb0 : block ≤ 9223372036854775807) (hr : (if s.off then (5, at_) else M.locate n block at_) = (E, at')) :
    Calls Try.prog 32 #[.pointer (some ⟨rd, 0, none⟩), .int .i64 n, .int .i64 block] w fun e w' => e = .returned (.int .i64 E) ∧ RDrvP B Z w' rd q M at' s ∧ Mod (RVF B rd) w w' := by
  obtain ⟨⟨a, k, c, cs, h, hz⟩, hpw⟩ := hd
  have hkl : M.cells.length = k := h.r.size
  have H := Lib.hid h
  have HP := Lib.hid hpw
  have HZ := Lib.hid hz
  have HR := Lib.hid hr
  obtain ⟨d0, d1, d2, d3⟩ := h.cells
  have hlr := heap_lt h.obj
  have hpw0 := hpw
  obtain ⟨armed, ta, tn, tc, tear, ka, kc, hq⟩ := hpw0
  have p0 := cell_of_row _ q 0 _ _ _ hq.obj
  clear h hpw hz hr hq d3
  go_enter Try.func32, Try.ntmps32
  have fail : ∀ w' : World, Below w.heap.size w w' → RDrvP B Z w' rd q M at_ s ∧ Mod (RVF B rd) w w' := fun w' hb => ⟨⟨⟨a, k, c, cs, H.out.ext hb, HZ.out⟩, HP.out.ext hb⟩, bmod hb _⟩
  have HFail := Lib.hid fail
  clear fail
  cases hoff : s.off with
  | true =>
    rw [hoff] at p0
    have hl := HR.out
    rw [if_pos hoff] at hl
    simp only [Prod.mk.injEq] at hl
    obtain ⟨rfl, rfl⟩ := hl
    clear hoff
    go_wp2
    go_ret
    exact ⟨rfl, HFail.out _ (Below.refl _ _)⟩
  | false =>
    rw [hoff] at p0
    have hl := HR.out
    rw [if_neg (by rw [hoff]; decide)] at hl
    have HL := Lib.hid hl
    clear hl HR hoff
    by_cases hneg : n < 0 ∨ block < 0
    · have hl := HL.out
      unfold Med.locate at hl
      rw [if_pos hneg] at hl
      simp only [Prod.mk.injEq] at hl
      obtain ⟨rfl, rfl⟩ := hl
      by_cases h1 : n < 0
      · clear hneg HL
        go_wp2
        go_ret
        exact ⟨rfl, HFail.out _ (Below.refl _ _)⟩
      · have h2 : block < 0 := by omega
        clear hneg HL
        go_wp2
        go_ret
        exact ⟨rfl, HFail.out _ (Below.refl _ _)⟩
    · have hn0 : ¬ n < 0 := by omega
      have hbl : ¬ block < 0 := by omega
      obtain ⟨bk, rfl⟩ : ∃ bk : Nat, block = (bk : Int) := ⟨block.toNat, by omega⟩
      obtain ⟨⟨R, Eb⟩, hbh⟩ : ∃ x, x = M.behind n := ⟨_, rfl⟩
      have hl := HL.out
      unfold Med.locate at hl
      rw [if_neg hneg, ← hbh] at hl
      have hbb := M.behind_bound n
      rw [← hbh] at hbb
      dsimp only at hl hbb
      rw [hkl] at hl hbb
      have Hl := Lib.hid hl
      have Hbb := Lib.hid hbb
      have Hbh := Lib.hid hbh.symm
      clear hneg hl HL hbh hbb
      go_wp2_with fail
      refine (reffile_any M.cap a c k cs n R Eb w H.out.r.mat H.out.r.len.symm (by omega) (by omega) hn1 (by rw [H.out.r.of]; exact Hbh.out)).mono ?_
      rintro e w2 ⟨rfl, hb2⟩
      have H2 := Lib.hid (H.out.ext hb2)
      have HB2 := Lib.hid hb2
      obtain ⟨d0, d1, d2, d3⟩ := H2.out.cells
      have f3 := frozen_of_row _ rd 3 _ _ H2.out.obj
      have hlr2 := heap_lt H2.out.obj
      clear hb2 p0
      rcases Hbb.out with ⟨rfl, hR0, hR1⟩ | ⟨rfl, rfl⟩
      · obtain ⟨r, rfl⟩ : ∃ r : Nat, R = (r : Int) := ⟨R.toNat, by omega⟩
        have hw1 : IntKind.i64.wrap ((k : Int) - (r : Int)) = (k : Int) - (r : Int) := by rw [IntKind.wrap_i64]; omega
        by_cases hbr : (k : Int) - (r : Int) < (bk : Int)
        · have hl := Hl.out
          rw [if_pos (.inr hbr)] at hl
          simp only [Prod.mk.injEq] at hl
          obtain ⟨rfl, rfl⟩ := hl
          clear Hl Hbb Hbh
          go_wp2_with fail
          go_ret
          exact ⟨rfl, HFail.out _ HB2.out⟩
        · have hl := Hl.out
          rw [if_neg (by simp; omega), Int.toNat_natCast, Int.toNat_natCast] at hl
          have Hl2 := Lib.hid hl
          have hw2 : IntKind.i64.wrap ((r : Int) + (bk : Int)) = (r : Int) + (bk : Int) := by rw [IntKind.wrap_i64]; omega
          clear hl Hl Hbb Hbh
          go_wp2_with fail
          go_loopw [9] (fun i wx => ∃ (j : Nat) (wr : World), wr = wx ∧ j ≤ bk ∧ i = .int .i64 ((r + j : Nat) : Int) ∧ Below w2.heap.size w2 wr ∧ ((M.cells.drop r).take j).any isMark = false) (fun i _ => r + bk - (intOf i).toNat)
          case atStart => exact ⟨0, _, rfl, by omega, by simp, Below.refl _ _, by simp⟩
          case round =>
            obtain ⟨j, wr, hwr, hj, rfl, hbw, hany⟩ := hrel
            subst hwr
            have H3 := Lib.hid (H2.out.ext hbw)
            have HBw := Lib.hid (bthen HB2.out hbw (Nat.le_refl _))
            have Hany := Lib.hid hany
            obtain ⟨d0, d1, d2, d3⟩ := H3.out.cells
            have f3 := frozen_of_row _ rd 3 _ _ H3.out.obj
            have hlr3 := heap_lt H3.out.obj
            clear hany
            by_cases hlt : j < bk
            · have hjk : r + j < cs.length := by rw [H.out.r.len]; omega
              obtain ⟨x, o, rfl, hlx, hat⟩ := H3.out.r.mat.src.elem CellV.len (by decide) hjk
              have q0 : wr.cell? ⟨x, o + (r + j) * 3, none⟩ = some (.int .i64 cs[r + j].kind) := hat (r + j) hjk 0 _ rfl
              have hjm : j < (M.cells.drop r).length := by rw [List.length_drop]; omega
              have hpl : (M.cells.drop r)[j].kind = cs[r + j].kind := by
                have h1 : M.cells[r + j]? = some (cs[r + j].pl) := by rw [← H.out.r.pls]; exact pls_get hjk
                have h2 : (M.cells.drop r)[j]? = M.cells[r + j]? := by rw [List.getElem?_drop]
                rw [List.getElem?_eq_getElem hjm, h1] at h2
                have h3 := Option.some.inj h2
                rw [h3]
                rfl
              have hsu := take_succ_any hjm
              have him : isMark (M.cells.drop r)[j] = decide (cs[r + j].kind = 2) := by unfold isMark; rw [hpl]
              rw [him] at hsu
              have Hsu := Lib.hid hsu
              generalize cs[r + j].kind = kd at *
              have hrjk : r + j < k := by omega
              clear hat hpl hsu him
              by_cases hm : kd = 2
              · subst hm
                have hl := Hl2.out
                have hall : ((M.cells.drop r).take bk).any isMark = true := by
                  rw [List.any_eq_true]
                  have h1 := Hsu.out
                  rw [show decide ((2 : Int) = 2) = true from rfl, Bool.or_true, List.any_eq_true] at h1
                  obtain ⟨y, hy, hym⟩ := h1
                  refine ⟨y, ?_, hym⟩
                  have hy2 : y ∈ ((M.cells.drop r).take bk).take (j + 1) := by
                    rw [List.take_take, Nat.min_eq_left (by omega)]
                    exact hy
                  exact List.mem_of_mem_take hy2
                rw [hall, if_pos rfl] at hl
                simp only [Prod.mk.injEq] at hl
                obtain ⟨rfl, rfl⟩ := hl
                clear Hl2 hall
                go_wp2_with fail
                go_ret
                exact ⟨rfl, HFail.out _ HBw.out⟩
              · have hm' : (kd == 2) = false := by simpa using hm
                have Hn : Hid (((M.cells.drop r).take (j + 1)).any isMark = false) := Lib.hid (by rw [Hsu.out, Hany.out]; simpa using hm)
                clear Hsu
                go_wp2_with fail
                go_roundw
                case rel => exact ⟨j + 1, _, rfl, by omega, by go_num, hbw, Hn.out⟩
                case measure => simp [intOf]; omega
            · obtain rfl : j = bk := by omega
              have hl := Hl2.out
              rw [Hany.out, if_neg (by decide)] at hl
              simp only [Prod.mk.injEq] at hl
              obtain ⟨rfl, rfl⟩ := hl
              have hg := heap_setCell_same wr rd 3 _ _ (.int .i64 ((r : Int) + (j : Int))) H3.out.obj
              have hm := (Mod.refl (fun b T => b = rd ∧ T = 63) wr).setCell H3.out.obj ⟨rfl, rfl⟩ 3 (.int .i64 ((r : Int) + (j : Int)))
              have HF := Lib.hid (H3.out.put hm hg H3.out.r H3.out.cap)
              have HPF := Lib.hid ((HP.out.ext HBw.out).mod hm fun b T hf => ⟨by rw [hf.2]; decide, by rw [hf.2]; decide⟩)
              have HMF := Lib.hid ((bmod HBw.out (RVF B rd)).trans (hm.mono fun b T _ hf => ⟨by rw [hf.1]; exact H.out.low, .inr ⟨hf.1, hf.2⟩⟩))
              clear Hl2 hg hm
              go_wp2_with fail
              go_ret
              exact ⟨rfl, ⟨⟨a, k, c, cs, HF.out, HZ.out⟩, HPF.out⟩, HMF.out⟩
      · have hl := Hl.out
        rw [if_pos (.inl (by decide))] at hl
        simp only [Prod.mk.injEq] at hl
        obtain ⟨rfl, rfl⟩ := hl
        clear Hl Hbb Hbh
        go_wp2_with fail
        go_ret
        exact ⟨rfl, HFail.out _ HB2.out⟩
end Go.Proofs.Ytmaagkdehdmhlaa

/- The program's drive and the page's, side by side. -/
namespace Go.Proofs.Ytmaagkdehdmhlaa
open Go.RowKit

/-- A tape of one's own whose row lies in Z. -/
theorem MedR.rowIn {F : Nat → TypeId → Prop} {Z : Nat → Prop} {w w' : World} {B : Nat} {M : Med} {a : Option Addr} {k c : Nat} {cs : List CellV} (h : MedR w B M a k c cs) (hz : RowIn Z a k c) (hm : Mod F w w') (hC : ∀ b, F b 42 → ¬ Z b) (hU : ∀ b, ¬ F b 5) : MedR w' B M a k c cs := by
  refine ⟨⟨?_, fun x hx => (h.own.dat x hx).mod hm fun b _ _ => hU b, h.own.apart⟩, h.len, h.pls⟩
  have hr := h.own.row
  rw [h.len] at hr ⊢
  obtain ⟨hl, h0 | ⟨g, cur, ha, hb, hh, rest⟩⟩ := hr
  · exact ⟨hl, .inl h0⟩
  · rcases hz g ha with h0 | hzg
    · exact ⟨hl, .inl h0⟩
    · exact ⟨hl, .inr ⟨g, cur, ha, hb, hm.keep hh (fun hf => hC g hf hzg), rest⟩⟩
/-- Both drives; none of their rows lies in the hole from lo to hi. -/
structure TwoD (B lo hi : Nat) (w : World) (d g rd q : Nat) (M : Med) (at_ : Int) (s : PS) (M2 : Med) (at2 : Int) (s2 : PS) : Prop where
  ex : ∃ K Z : Nat → Prop, (∀ b, K b → b < w.heap.size ∧ ¬ (lo ≤ b ∧ b < hi)) ∧ (∀ b, Z b → b < w.heap.size ∧ ¬ (lo ≤ b ∧ b < hi)) ∧ (∀ b, Z b → ¬ K b) ∧ DrvP B K w d g M at_ s ∧ RDrvP B Z w rd q M2 at2 s2
def TDs : List TypeId := [82, 97, 61, 42, 84, 63]
/-- What the two may write. -/
abbrev TDF (B : Nat) : Nat → TypeId → Prop := fun b T => B ≤ b ∧ T ∈ TDs
theorem VF.tdf {B : Nat} {K : Nat → Prop} {w w' : World} (h : Mod (VF B K) w w') : Mod (TDF B) w w' := h.mono fun b T _ hf => ⟨hf.1, by
  rcases hf.2 with h | ⟨_, h⟩ <;> (revert h; simp only [PT, TT, TDs, List.mem_cons, List.not_mem_nil, or_false]; rintro (h | h) <;> simp [h])⟩
theorem RVF.tdf {B rd : Nat} {w w' : World} (h : Mod (RVF B rd) w w') : Mod (TDF B) w w' := h.mono fun b T _ hf => ⟨hf.1, by
  rcases hf.2 with h | ⟨_, h⟩ <;> simp [TDs, h]⟩
theorem RDrvP.ext {B : Nat} {Z : Nat → Prop} {w w' : World} {rd q : Nat} {M : Med} {at_ : Int} {s : PS} (h : RDrvP B Z w rd q M at_ s) (hb : Below w.heap.size w w') : RDrvP B Z w' rd q M at_ s := by
  obtain ⟨⟨a, k, c, cs, h1, h2⟩, h3⟩ := h
  exact ⟨⟨a, k, c, cs, h1.ext hb, h2⟩, h3.ext hb⟩
theorem RDrvP.reZ {B : Nat} {Z Z' : Nat → Prop} {w : World} {rd q : Nat} {M : Med} {at_ : Int} {s : PS} (h : RDrvP B Z w rd q M at_ s) (hZ : ∀ b, Z b → Z' b) : RDrvP B Z' w rd q M at_ s := by
  obtain ⟨⟨a, k, c, cs, h1, h2⟩, h3⟩ := h
  exact ⟨⟨a, k, c, cs, h1, h2.mono hZ⟩, h3⟩
theorem RDrvP.low {B : Nat} {Z : Nat → Prop} {w : World} {rd q : Nat} {M : Med} {at_ : Int} {s : PS} (h : RDrvP B Z w rd q M at_ s) : B ≤ w.heap.size := Nat.le_of_lt (Nat.lt_of_le_of_lt h.2.lt.1 h.2.lt.2)

/-- A tape of one's own whose rows lie in Z, when others are written. -/
theorem MedR.rowsIn {F : Nat → TypeId → Prop} {Z : Nat → Prop} {w w' : World} {B : Nat} {M : Med} {a : Option Addr} {k c : Nat} {cs : List CellV} (h : MedR w B M a k c cs) (hz : RowIn Z a k c) (hu : ∀ x ∈ cs, RowIn Z x.d.a x.d.l.length x.d.c) (hm : Mod F w w') (hF : ∀ b T, F b T → ¬ Z b) : MedR w' B M a k c cs := by
  refine ⟨⟨?_, fun x hx => ?_, h.own.apart⟩, h.len, h.pls⟩
  · have hr := h.own.row
    rw [h.len] at hr ⊢
    obtain ⟨hl, h0 | ⟨g, cur, ha, hb, hh, rest⟩⟩ := hr
    · exact ⟨hl, .inl h0⟩
    · rcases hz g ha with h0 | hzg
      · exact ⟨hl, .inl h0⟩
      · exact ⟨hl, .inr ⟨g, cur, ha, hb, hm.keep hh (fun hf => hF _ _ hf hzg), rest⟩⟩
  · obtain ⟨hl, h0 | ⟨g, cur, ha, hb, hh, rest⟩⟩ := h.own.dat x hx
    · exact ⟨hl, .inl h0⟩
    · rcases hu x hx g ha with h0 | hzg
      · exact ⟨hl, .inl h0⟩
      · exact ⟨hl, .inr ⟨g, cur, ha, hb, hm.keep hh (fun hf => hF _ _ hf hzg), rest⟩⟩
variable {B lo hi : Nat} {w w' : World} {d g rd q : Nat} {M : Med} {at_ : Int} {s : PS} {M2 : Med} {at2 : Int} {s2 : PS}
theorem TwoD.ext (h : TwoD B lo hi w d g rd q M at_ s M2 at2 s2) (hb : Below w.heap.size w w') : TwoD B lo hi w' d g rd q M at_ s M2 at2 s2 := by
  obtain ⟨K, Z, h1, h2, h3, h4, h5⟩ := h
  exact ⟨K, Z, fun b hb' => ⟨Nat.lt_of_lt_of_le (h1 b hb').1 hb.size, (h1 b hb').2⟩, fun b hb' => ⟨Nat.lt_of_lt_of_le (h2 b hb').1 hb.size, (h2 b hb').2⟩, h3, h4.ext hb, h5.ext hb⟩
theorem TwoD.hole (h : TwoD B lo hi w d g rd q M at_ s M2 at2 s2) {lo' : Nat} (hi' : Nat) (hl : w.heap.size ≤ lo') : TwoD B lo' hi' w d g rd q M at_ s M2 at2 s2 := by
  obtain ⟨K, Z, h1, h2, h3, h4, h5⟩ := h
  exact ⟨K, Z, fun b hb' => ⟨(h1 b hb').1, fun h => by have := (h1 b hb').1; omega⟩, fun b hb' => ⟨(h2 b hb').1, fun h => by have := (h2 b hb').1; omega⟩, h3, h4, h5⟩
theorem TwoD.whole (h : TwoD B lo hi w d g rd q M at_ s M2 at2 s2) : TwoD B 0 0 w d g rd q M at_ s M2 at2 s2 := by
  obtain ⟨K, Z, h1, h2, h3, h4, h5⟩ := h
  exact ⟨K, Z, fun b hb' => ⟨(h1 b hb').1, fun h => by omega⟩, fun b hb' => ⟨(h2 b hb').1, fun h => by omega⟩, h3, h4, h5⟩
theorem TwoD.low (h : TwoD B lo hi w d g rd q M at_ s M2 at2 s2) : B ≤ w.heap.size := by
  obtain ⟨K, Z, h1, h2, h3, h4, h5⟩ := h
  exact h4.low
theorem rd_keep {F : Nat → TypeId → Prop} {Z : Nat → Prop} (h5 : RDrvP B Z w rd q M2 at2 s2) (hM : Mod F w w') (hno : ∀ b T, F b T → T ≠ 63 ∧ T ≠ 84 ∧ T ≠ 4) (hZ : ∀ b, F b 42 → ¬ Z b) (hU : ∀ b, ¬ F b 5) : RDrvP B Z w' rd q M2 at2 s2 := by
  obtain ⟨⟨a, k, c, cs, hr, hz⟩, hp⟩ := h5
  exact ⟨⟨a, k, c, cs, ⟨hr.low, hM.keep hr.obj fun hf => (hno _ _ hf).1 rfl, hr.r.rowIn hz.1 hM hZ hU, hr.cap⟩, hz⟩, hp.mod hM fun b T hf => (hno b T hf).2⟩
theorem vf_no {K : Nat → Prop} : ∀ b T, VF B K b T → T ≠ 63 ∧ T ≠ 84 ∧ T ≠ 4 := by
  rintro b T ⟨_, h | ⟨_, h⟩⟩
  · simp only [PT, List.mem_cons, List.not_mem_nil, or_false] at h
    rcases h with rfl | rfl <;> decide
  · simp only [TT, List.mem_cons, List.not_mem_nil, or_false] at h
    rcases h with rfl | rfl <;> decide
/-- The program's drive does something. -/
theorem TwoD.real (h : TwoD B lo hi w d g rd q M at_ s M2 at2 s2) (hh : hi ≤ w.heap.size) {P : Program} {f : FuncId} {args : Array Value} {R : Ending → World → Prop} {M' : Med} {at' : Int} {s' : PS}
    (op : ∀ K, DrvP B K w d g M at_ s → Up B K w → Calls P f args w fun e w' => R e w' ∧ DrvP B K w' d g M' at' s' ∧ Mod (VF B K) w w') : Calls P f args w fun e w' => R e w' ∧ TwoD B lo hi w' d g rd q M' at' s' M2 at2 s2 ∧ Mod (TDF B) w w' := by
  obtain ⟨K, Z, h1, h2, h3, h4, h5⟩ := h
  have hd : DrvP B (fun b => K b ∨ w.heap.size ≤ b) w d g M at_ s := h4.rek fun b _ _ hk => .inl hk
  refine (op _ hd ⟨h4.low, fun b hb => .inr hb⟩).mono ?_
  rintro e w' ⟨hR, hd', hM⟩
  refine ⟨hR, ⟨fun b => (K b ∨ w.heap.size ≤ b) ∧ b < w'.heap.size, Z, fun b hb => ⟨hb.2, fun hx => ?_⟩, fun b hb => ⟨Nat.lt_of_lt_of_le (h2 b hb).1 hM.size, (h2 b hb).2⟩, fun b hz hk => ?_, hd'.rek fun b _ hb hk => ⟨hk, hb⟩, ?_⟩, VF.tdf hM⟩
  · rcases hb.1 with h | h
    · exact (h1 b h).2 hx
    · omega
  · rcases hk.1 with h | h
    · exact h3 b hz h
    · have := (h2 b hz).1; omega
  · refine rd_keep h5 hM vf_no (fun b hf hzb => ?_) fun b => VF_no_u8 b
    rcases hf.2 with h | ⟨h, _⟩
    · revert h; decide
    · rcases h with h | h
      · exact h3 b hzb h
      · have := (h2 b hzb).1; omega
/-- The program's drive does something, and takes no new rows: any hole behind. -/
theorem TwoD.real0 (h : TwoD B lo hi w d g rd q M at_ s M2 at2 s2) {P : Program} {f : FuncId} {args : Array Value} {R : Ending → World → Prop} {M' : Med} {at' : Int} {s' : PS}
    (op : ∀ K, DrvP B K w d g M at_ s → Calls P f args w fun e w' => R e w' ∧ DrvP B K w' d g M' at' s' ∧ Mod (VF B K) w w') : Calls P f args w fun e w' => R e w' ∧ TwoD B lo hi w' d g rd q M' at' s' M2 at2 s2 ∧ Mod (TDF B) w w' := by
  obtain ⟨K, Z, h1, h2, h3, h4, h5⟩ := h
  refine (op _ h4).mono ?_
  rintro e w' ⟨hR, hd', hM⟩
  refine ⟨hR, ⟨K, Z, fun b hb => ⟨Nat.lt_of_lt_of_le (h1 b hb).1 hM.size, (h1 b hb).2⟩, fun b hb => ⟨Nat.lt_of_lt_of_le (h2 b hb).1 hM.size, (h2 b hb).2⟩, h3, hd', ?_⟩, VF.tdf hM⟩
  refine rd_keep h5 hM vf_no (fun b hf hzb => ?_) fun b => VF_no_u8 b
  rcases hf.2 with h | ⟨h, _⟩
  · revert h; decide
  · exact h3 b hzb h
theorem TwoD.real0h (h : TwoD B lo hi w d g rd q M at_ s M2 at2 s2) {P : Program} {f : FuncId} {args : Array Value} {R : Ending → World → Prop} {M' : Med} {at' : Int} {s' : PS}
    (op : ∀ K, DrvP B K w d g M at_ s → Calls P f args w fun e w' => R e w' ∧ DrvP B K w' d g M' at' s' ∧ Mod (VF B K) w w') : Calls P f args w fun e w' => R e w' ∧ (∀ hi', TwoD B w.heap.size hi' w' d g rd q M' at' s' M2 at2 s2) ∧ Mod (TDF B) w w' := by
  obtain ⟨K, Z, h1, h2, h3, h4, h5⟩ := h
  refine (op _ h4).mono ?_
  rintro e w' ⟨hR, hd', hM⟩
  refine ⟨hR, fun hi' => ⟨K, Z, fun b hb => ⟨Nat.lt_of_lt_of_le (h1 b hb).1 hM.size, fun hx => by have := (h1 b hb).1; omega⟩, fun b hb => ⟨Nat.lt_of_lt_of_le (h2 b hb).1 hM.size, fun hx => by have := (h2 b hb).1; omega⟩, h3, hd', ?_⟩, VF.tdf hM⟩
  refine rd_keep h5 hM vf_no (fun b hf hzb => ?_) fun b => VF_no_u8 b
  rcases hf.2 with h | ⟨h, _⟩
  · revert h; decide
  · exact h3 b hzb h
theorem drv_rkeep {K : Nat → Prop} (h4 : DrvP B K w d g M at_ s) (hM : Mod (RVF B rd) w w') : DrvP B K w' d g M at_ s := by
  have hno : ∀ b T, RVF B rd b T → T ≠ 61 ∧ T ≠ 42 ∧ T ≠ 5 ∧ T ≠ 82 ∧ T ≠ 97 ∧ T ≠ 4 := by
    rintro b T ⟨_, rfl | ⟨_, rfl⟩⟩ <;> decide
  obtain ⟨⟨a, k, c, cs, hr⟩, hp⟩ := h4
  exact ⟨⟨a, k, c, cs, hr.mod hM fun b T hf => ⟨(hno b T hf).1, (hno b T hf).2.1, (hno b T hf).2.2.1⟩⟩, hp.mod hM fun b T hf => ⟨(hno b T hf).2.2.2.1, (hno b T hf).2.2.2.2.1, (hno b T hf).2.2.2.2.2⟩⟩
/-- The page's drive does something. -/
theorem TwoD.ref (h : TwoD B lo hi w d g rd q M at_ s M2 at2 s2) (hh : hi ≤ w.heap.size) {P : Program} {f : FuncId} {args : Array Value} {R : Ending → World → Prop} {M' : Med} {at' : Int} {s' : PS}
    (op : ∀ Z, RDrvP B Z w rd q M2 at2 s2 → Calls P f args w fun e w' => R e w' ∧ RDrvP B (fun b => Z b ∨ w.heap.size ≤ b ∧ b < w'.heap.size) w' rd q M' at' s' ∧ Mod (RVF B rd) w w') : Calls P f args w fun e w' => R e w' ∧ TwoD B lo hi w' d g rd q M at_ s M' at' s' ∧ Mod (TDF B) w w' := by
  obtain ⟨K, Z, h1, h2, h3, h4, h5⟩ := h
  refine (op Z h5).mono ?_
  rintro e w' ⟨hR, hd', hM⟩
  refine ⟨hR, ⟨K, _, fun b hb => ⟨Nat.lt_of_lt_of_le (h1 b hb).1 hM.size, (h1 b hb).2⟩, fun b hb => ?_, fun b hz hk => ?_, drv_rkeep h4 hM, hd'⟩, RVF.tdf hM⟩
  · rcases hb with h | h
    · exact ⟨Nat.lt_of_lt_of_le (h2 b h).1 hM.size, (h2 b h).2⟩
    · exact ⟨h.2, fun hx => by omega⟩
  · rcases hz with h | h
    · exact h3 b h hk
    · have := (h1 b hk).1; omega
/-- The page's drive does something, and takes no new rows. -/
theorem TwoD.ref0 (h : TwoD B lo hi w d g rd q M at_ s M2 at2 s2) {P : Program} {f : FuncId} {args : Array Value} {R : Ending → World → Prop} {M' : Med} {at' : Int} {s' : PS}
    (op : ∀ Z, RDrvP B Z w rd q M2 at2 s2 → Calls P f args w fun e w' => R e w' ∧ RDrvP B Z w' rd q M' at' s' ∧ Mod (RVF B rd) w w') : Calls P f args w fun e w' => R e w' ∧ TwoD B lo hi w' d g rd q M at_ s M' at' s' ∧ Mod (TDF B) w w' := by
  obtain ⟨K, Z, h1, h2, h3, h4, h5⟩ := h
  refine (op Z h5).mono ?_
  rintro e w' ⟨hR, hd', hM⟩
  exact ⟨hR, ⟨K, Z, fun b hb => ⟨Nat.lt_of_lt_of_le (h1 b hb).1 hM.size, (h1 b hb).2⟩, fun b hb => ⟨Nat.lt_of_lt_of_le (h2 b hb).1 hM.size, (h2 b hb).2⟩, h3, drv_rkeep h4 hM, hd'⟩, RVF.tdf hM⟩
/-- What lies in the hole is written. -/
theorem TwoD.spoil {F : Nat → TypeId → Prop} (h : TwoD B lo hi w d g rd q M at_ s M2 at2 s2) (hm : Mod F w w') (hF : ∀ b T, F b T → (lo ≤ b ∧ b < hi) ∧ (T = 5 ∨ T = 42)) : TwoD B lo hi w' d g rd q M at_ s M2 at2 s2 := by
  obtain ⟨K, Z, h1, h2, h3, ⟨⟨a, k, c, cs, h4⟩, hp⟩, ⟨⟨a2, k2, c2, cs2, h5, hz⟩, hp2⟩⟩ := h
  have hno : ∀ b T, F b T → T ≠ 61 ∧ T ≠ 63 ∧ T ≠ 84 ∧ T ≠ 82 ∧ T ≠ 97 ∧ T ≠ 4 := by
    intro b T hf
    rcases (hF b T hf).2 with rfl | rfl <;> decide
  refine ⟨K, Z, fun b hb => ⟨Nat.lt_of_lt_of_le (h1 b hb).1 hm.size, (h1 b hb).2⟩, fun b hb => ⟨Nat.lt_of_lt_of_le (h2 b hb).1 hm.size, (h2 b hb).2⟩, h3, ⟨⟨a, k, c, cs, ?_⟩, hp.mod hm fun b T hf => ⟨(hno b T hf).2.2.2.1, (hno b T hf).2.2.2.2.1, (hno b T hf).2.2.2.2.2⟩⟩, ⟨⟨a2, k2, c2, cs2, ⟨h5.low, hm.keep h5.obj fun hf => (hno _ _ hf).2.1 rfl, ?_, h5.cap⟩, hz⟩, hp2.mod hm fun b T hf => ⟨(hno b T hf).2.2.1, (hno b T hf).2.2.2.2.2⟩⟩⟩
  · exact ⟨h4.low, h4.kd, hm.keep h4.obj fun hf => (hno _ _ hf).1 rfl, h4.r.rowsIn h4.kr h4.du hm fun b T hf hk => (h1 b hk).2 (hF b T hf).1, h4.cap, h4.kr, h4.du⟩
  · exact h5.r.rowsIn hz.1 hz.2 hm fun b T hf hk => (h2 b hk).2 (hF b T hf).1
theorem drv_start {K : Nat → Prop} (hd : DrvP B K w d g M at_ s) (hl0 : 0 ≤ s.life) (hl1 : s.life ≤ 4611686018427387904) :
    Calls Try.prog 20 #[.pointer (some ⟨g, 0, none⟩)] w fun e w' => e = .returned (.tuple #[]) ∧ DrvP B K w' d g M at_ s.start ∧ Mod (VF B K) w w' := by
  obtain ⟨⟨a, k, c, cs, h⟩, hp⟩ := hd
  refine (start_at hp rfl hl0 hl1).mono ?_
  rintro e w2 ⟨rfl, hp2, hm⟩
  exact ⟨rfl, ⟨⟨a, k, c, cs, h.pf hm⟩, hp2⟩, PF.vf hm⟩
theorem drv_cut {K : Nat → Prop} (t : Int) (hd : DrvP B K w d g M at_ s) :
    Calls Try.prog 18 #[.pointer (some ⟨g, 0, none⟩), .slice none 0 0, .int .i64 t] w fun e w' => e = .returned (.tuple #[]) ∧ DrvP B K w' d g M at_ (s.cut [] t) ∧ Mod (VF B K) w w' := by
  have hB := hd.low
  obtain ⟨⟨a, k, c, cs, h⟩, hp⟩ := hd
  refine (cut_nil hB hp rfl).mono ?_
  rintro e w2 ⟨rfl, hp2, hm⟩
  exact ⟨rfl, ⟨⟨a, k, c, cs, h.pf hm⟩, hp2⟩, PF.vf hm⟩
theorem rdrv_start {Z : Nat → Prop} (hd : RDrvP B Z w rd q M at_ s) (hl0 : 0 ≤ s.life) (hl1 : s.life ≤ 4611686018427387904) :
    Calls Try.prog 21 #[.pointer (some ⟨q, 0, none⟩)] w fun e w' => e = .returned (.tuple #[]) ∧ RDrvP B Z w' rd q M at_ s.start ∧ Mod (RVF B rd) w w' := by
  obtain ⟨⟨a, k, c, cs, h, hz⟩, hp⟩ := hd
  refine (rpow_start B q s w hp hl0 hl1).mono ?_
  rintro e w2 ⟨rfl, hp2, hm⟩
  exact ⟨rfl, ⟨⟨a, k, c, cs, h.rpf hm, hz⟩, hp2⟩, RPF.rvf hm⟩
theorem rdrv_cut {Z : Nat → Prop} (t : Int) (hd : RDrvP B Z w rd q M at_ s) :
    Calls Try.prog 19 #[.pointer (some ⟨q, 0, none⟩), .slice none 0 0, .int .i64 t] w fun e w' => e = .returned (.tuple #[]) ∧ RDrvP B Z w' rd q M at_ (s.cut [] t) ∧ Mod (RVF B rd) w w' := by
  have hB := hd.low
  obtain ⟨⟨a, k, c, cs, h, hz⟩, hp⟩ := hd
  refine (rpow_cut B q s none 0 0 [] t w hB hp (Src.nil _ _) rfl (by decide)).mono ?_
  rintro e w2 ⟨rfl, hp2, hm⟩
  exact ⟨rfl, ⟨⟨a, k, c, cs, h.rpf hm, hz⟩, hp2⟩, RPF.rvf hm⟩
theorem rdrv_trip {Z : Nat → Prop} (n t : Int) (hd : RDrvP B Z w rd q M at_ s) (hn : n ≤ 9223372036854775807) :
    Calls Try.prog 23 #[.pointer (some ⟨q, 0, none⟩), .int .i64 n, .slice none 0 0, .int .i64 t] w fun e w' => e = .returned (.tuple #[]) ∧ RDrvP B Z w' rd q M at_ (s.arm n [] t) ∧ Mod (RVF B rd) w w' := by
  have hB := hd.low
  obtain ⟨⟨a, k, c, cs, h, hz⟩, hp⟩ := hd
  refine (rpow_arm B q s none 0 0 [] n t w hB hp (Src.nil _ _) rfl (by decide) hn).mono ?_
  rintro e w2 ⟨rfl, hp2, hm⟩
  exact ⟨rfl, ⟨⟨a, k, c, cs, h.rpf hm, hz⟩, hp2⟩, RPF.rvf hm⟩
theorem cut_life0 (t : Int) : (s.cut [] t).life = s.life := by unfold PS.cut; split <;> rfl
theorem start_life0 : s.start.life = s.life ∨ s.start.life = s.life + 1 := by
  unfold PS.start
  split
  · exact .inr rfl
  · exact .inl rfl
theorem TwoD.realP (h : TwoD B lo hi w d g rd q M at_ s M2 at2 s2) : ∃ K, DrvP B K w d g M at_ s := by
  obtain ⟨K, Z, h1, h2, h3, h4, h5⟩ := h
  exact ⟨K, h4⟩
theorem TwoD.refP (h : TwoD B lo hi w d g rd q M at_ s M2 at2 s2) : ∃ Z, RDrvP B Z w rd q M2 at2 s2 := by
  obtain ⟨K, Z, h1, h2, h3, h4, h5⟩ := h
  exact ⟨Z, h5⟩
end Go.Proofs.Ytmaagkdehdmhlaa
