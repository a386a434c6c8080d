/- The page's drive's Locate. -/
import Derived.Test.YtnbpcdnpdcfiiaaRefDrvM
namespace Go.Proofs.Ytnbpcdnpdcfiiaa
open Go.RowKit

theorem take_succ_any {l : List CellP} {j : Nat} (h : j < l.length) : (l.take (j + 1)).any isMark = ((l.take j).any isMark || isMark l[j]) := by
  rw [List.take_succ_eq_append_getElem h, List.any_append]
  simp

set_option maxRecDepth 100000 in
set_option maxHeartbeats 8000000 in
theorem rdrv_locate {B : Nat} {Z : Nat → Prop} {rd q : Nat} {M : Med} {at_ : Int} (n block E at' : Int) (s : PS) (w : World) (hd : RDrvP B Z w rd q M at_ s) (hk : M.cells.length ≤ 90000) (hn1 : n ≤ 9223372036854775807) (hb0 : block ≤ 9223372036854775807) (hr : (if s.off then (5, at_) else M.locate n block at_) = (E, at')) :
    Calls Try.prog 27 #[.pointer (some ⟨rd, 0, none⟩), .int .i64 n, .int .i64 block] w fun e w' => e = .returned (.int .i64 E) ∧ RDrvP B Z w' rd q M at' s ∧ Mod (RVF B) w w' := by
  obtain ⟨⟨a, k, c, cs, h, hz⟩, hpw⟩ := hd
  have hkl : M.cells.length = k := h.r.size
  have H := Lib.hid h
  have HP := Lib.hid hpw
  have HZ := Lib.hid hz
  have HR := Lib.hid hr
  obtain ⟨d0, d1, d2, d3⟩ := h.cells
  have hlr := heap_lt h.obj
  have hpw0 := hpw
  obtain ⟨armed, ta, tn, tc, tear, ka, kc, hq⟩ := hpw0
  have p0 := cell_of_row _ q 0 _ _ _ hq.obj
  clear h hpw hz hr hq d3
  go_enter Try.func27, Try.ntmps27
  have fail : ∀ w' : World, Below w.heap.size w w' → RDrvP B Z w' rd q M at_ s ∧ Mod (RVF B) w w' := fun w' hb => ⟨⟨⟨a, k, c, cs, H.out.ext hb, HZ.out⟩, HP.out.ext hb⟩, bmod hb _⟩
  have HFail := Lib.hid fail
  clear fail
  cases hoff : s.off with
  | true =>
    rw [hoff] at p0
    have hl := HR.out
    rw [if_pos hoff] at hl
    simp only [Prod.mk.injEq] at hl
    obtain ⟨rfl, rfl⟩ := hl
    clear hoff
    go_wp2
    go_ret
    exact ⟨rfl, HFail.out _ (Below.refl _ _)⟩
  | false =>
    rw [hoff] at p0
    have hl := HR.out
    rw [if_neg (by rw [hoff]; decide)] at hl
    have HL := Lib.hid hl
    clear hl HR hoff
    by_cases hneg : n < 0 ∨ block < 0
    · have hl := HL.out
      unfold Med.locate at hl
      rw [if_pos hneg] at hl
      simp only [Prod.mk.injEq] at hl
      obtain ⟨rfl, rfl⟩ := hl
      by_cases h1 : n < 0
      · clear hneg HL
        go_wp2
        go_ret
        exact ⟨rfl, HFail.out _ (Below.refl _ _)⟩
      · have h2 : block < 0 := by omega
        clear hneg HL
        go_wp2
        go_ret
        exact ⟨rfl, HFail.out _ (Below.refl _ _)⟩
    · have hn0 : ¬ n < 0 := by omega
      have hbl : ¬ block < 0 := by omega
      obtain ⟨bk, rfl⟩ : ∃ bk : Nat, block = (bk : Int) := ⟨block.toNat, by omega⟩
      obtain ⟨⟨R, Eb⟩, hbh⟩ : ∃ x, x = M.behind n := ⟨_, rfl⟩
      have hl := HL.out
      unfold Med.locate at hl
      rw [if_neg hneg, ← hbh] at hl
      have hbb := M.behind_bound n
      rw [← hbh] at hbb
      dsimp only at hl hbb
      rw [hkl] at hl hbb
      have Hl := Lib.hid hl
      have Hbb := Lib.hid hbb
      have Hbh := Lib.hid hbh.symm
      clear hneg hl HL hbh hbb
      go_wp2_with fail
      refine (reffile_any M.cap a c k cs n R Eb w H.out.r.mat H.out.r.len.symm (by omega) (by omega) hn1 (by rw [H.out.r.of]; exact Hbh.out)).mono ?_
      rintro e w2 ⟨rfl, hb2⟩
      have H2 := Lib.hid (H.out.ext hb2)
      have HB2 := Lib.hid hb2
      obtain ⟨d0, d1, d2, d3⟩ := H2.out.cells
      have f3 := frozen_of_row _ rd 3 _ _ H2.out.obj
      have hlr2 := heap_lt H2.out.obj
      clear hb2 p0
      rcases Hbb.out with ⟨rfl, hR0, hR1⟩ | ⟨rfl, rfl⟩
      · obtain ⟨r, rfl⟩ : ∃ r : Nat, R = (r : Int) := ⟨R.toNat, by omega⟩
        have hw1 : IntKind.i64.wrap ((k : Int) - (r : Int)) = (k : Int) - (r : Int) := by rw [IntKind.wrap_i64]; omega
        by_cases hbr : (k : Int) - (r : Int) < (bk : Int)
        · have hl := Hl.out
          rw [if_pos (.inr hbr)] at hl
          simp only [Prod.mk.injEq] at hl
          obtain ⟨rfl, rfl⟩ := hl
          clear Hl Hbb Hbh
          go_wp2_with fail
          go_ret
          exact ⟨rfl, HFail.out _ HB2.out⟩
        · have hl := Hl.out
          rw [if_neg (by simp; omega), Int.toNat_natCast, Int.toNat_natCast] at hl
          have Hl2 := Lib.hid hl
          have hw2 : IntKind.i64.wrap ((r : Int) + (bk : Int)) = (r : Int) + (bk : Int) := by rw [IntKind.wrap_i64]; omega
          clear hl Hl Hbb Hbh
          go_wp2_with fail
          go_loopw [9] (fun i wx => ∃ (j : Nat) (wr : World), wr = wx ∧ j ≤ bk ∧ i = .int .i64 ((r + j : Nat) : Int) ∧ Below w2.heap.size w2 wr ∧ ((M.cells.drop r).take j).any isMark = false) (fun i _ => r + bk - (intOf i).toNat)
          case atStart => exact ⟨0, _, rfl, by omega, by simp, Below.refl _ _, by simp⟩
          case round =>
            obtain ⟨j, wr, hwr, hj, rfl, hbw, hany⟩ := hrel
            subst hwr
            have H3 := Lib.hid (H2.out.ext hbw)
            have HBw := Lib.hid (bthen HB2.out hbw (Nat.le_refl _))
            have Hany := Lib.hid hany
            obtain ⟨d0, d1, d2, d3⟩ := H3.out.cells
            have f3 := frozen_of_row _ rd 3 _ _ H3.out.obj
            have hlr3 := heap_lt H3.out.obj
            clear hany
            by_cases hlt : j < bk
            · have hjk : r + j < cs.length := by rw [H.out.r.len]; omega
              obtain ⟨x, o, rfl, hlx, hat⟩ := H3.out.r.mat.src.elem CellV.len (by decide) hjk
              have q0 : wr.cell? ⟨x, o + (r + j) * 3, none⟩ = some (.int .i64 cs[r + j].kind) := hat (r + j) hjk 0 _ rfl
              have hjm : j < (M.cells.drop r).length := by rw [List.length_drop]; omega
              have hpl : (M.cells.drop r)[j].kind = cs[r + j].kind := by
                have h1 : M.cells[r + j]? = some (cs[r + j].pl) := by rw [← H.out.r.pls]; exact pls_get hjk
                have h2 : (M.cells.drop r)[j]? = M.cells[r + j]? := by rw [List.getElem?_drop]
                rw [List.getElem?_eq_getElem hjm, h1] at h2
                have h3 := Option.some.inj h2
                rw [h3]
                rfl
              have hsu := take_succ_any hjm
              have him : isMark (M.cells.drop r)[j] = decide (cs[r + j].kind = 2) := by unfold isMark; rw [hpl]
              rw [him] at hsu
              have Hsu := Lib.hid hsu
              generalize cs[r + j].kind = kd at *
              have hrjk : r + j < k := by omega
              clear hat hpl hsu him
              by_cases hm : kd = 2
              · subst hm
                have hl := Hl2.out
                have hall : ((M.cells.drop r).take bk).any isMark = true := by
                  rw [List.any_eq_true]
                  have h1 := Hsu.out
                  rw [show decide ((2 : Int) = 2) = true from rfl, Bool.or_true, List.any_eq_true] at h1
                  obtain ⟨y, hy, hym⟩ := h1
                  refine ⟨y, ?_, hym⟩
                  have hy2 : y ∈ ((M.cells.drop r).take bk).take (j + 1) := by
                    rw [List.take_take, Nat.min_eq_left (by omega)]
                    exact hy
                  exact List.mem_of_mem_take hy2
                rw [hall, if_pos rfl] at hl
                simp only [Prod.mk.injEq] at hl
                obtain ⟨rfl, rfl⟩ := hl
                clear Hl2 hall
                go_wp2_with fail
                go_ret
                exact ⟨rfl, HFail.out _ HBw.out⟩
              · have hm' : (kd == 2) = false := by simpa using hm
                have Hn : Hid (((M.cells.drop r).take (j + 1)).any isMark = false) := Lib.hid (by rw [Hsu.out, Hany.out]; simpa using hm)
                clear Hsu
                go_wp2_with fail
                go_roundw
                case rel => exact ⟨j + 1, _, rfl, by omega, by go_num, hbw, Hn.out⟩
                case measure => simp [intOf]; omega
            · obtain rfl : j = bk := by omega
              have hl := Hl2.out
              rw [Hany.out, if_neg (by decide)] at hl
              simp only [Prod.mk.injEq] at hl
              obtain ⟨rfl, rfl⟩ := hl
              have hg := heap_setCell_same wr rd 3 _ _ (.int .i64 ((r : Int) + (j : Int))) H3.out.obj
              have hm := (Mod.refl (fun b T => b = rd ∧ T = 41) wr).setCell H3.out.obj ⟨rfl, rfl⟩ 3 (.int .i64 ((r : Int) + (j : Int)))
              have HF := Lib.hid (H3.out.put hm hg H3.out.r H3.out.cap)
              have HPF := Lib.hid ((HP.out.ext HBw.out).mod hm fun b T hf => ⟨by rw [hf.2]; decide, by rw [hf.2]; decide⟩)
              have HMF := Lib.hid ((bmod HBw.out (RVF B)).trans (hm.mono fun b T _ hf => ⟨by rw [hf.1]; exact H.out.low, .inr hf.2⟩))
              clear Hl2 hg hm
              go_wp2_with fail
              go_ret
              exact ⟨rfl, ⟨⟨a, k, c, cs, HF.out, HZ.out⟩, HPF.out⟩, HMF.out⟩
      · have hl := Hl.out
        rw [if_pos (.inl (by decide))] at hl
        simp only [Prod.mk.injEq] at hl
        obtain ⟨rfl, rfl⟩ := hl
        clear Hl Hbb Hbh
        go_wp2_with fail
        go_ret
        exact ⟨rfl, HFail.out _ HB2.out⟩
end Go.Proofs.Ytnbpcdnpdcfiiaa
