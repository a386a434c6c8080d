/- drive.Drive's Write. -/
import Derived.Test.YtmaagkdehdmhlaaRobotExactPartJ
namespace Go.Proofs.Ytmaagkdehdmhlaa
open Go.RowKit

variable {B : Nat} {K : Nat → Prop} {w w' : World} {d g : Nat} {M : Med} {at_ : Int} {a : Option Addr} {k c : Nat} {cs : List CellV}
def dvWrite (s : PS) (M : Med) (p : Nat) (b : List Byte) : Int × PS × Med × Int :=
  if s.off then (5, s, M, p) else if M.wrong (p : Int) b.length true ≠ 0 then (M.wrong (p : Int) b.length true, s, M, p) else if s.spend.1 then (0, s.spend.2, M.lay p ⟨1, b, false⟩, (p : Int) + 1) else if 0 ≤ s.spend.2.torn then (5, s.spend.2, M.lay p ⟨3, b.take s.spend.2.torn.toNat, false⟩, p) else (5, s.spend.2, M, p)

set_option maxRecDepth 100000 in
set_option maxHeartbeats 4000000 in
theorem drv_write (p : Nat) (ab : Option Addr) (m cb : Nat) (l : List Byte) (s s' : PS) (E : Int) (M' : Med) (at' : Int) (w : World) (hd : DrvP B K w d g M (p : Int) s) (hB : Up B K w) (hp : p ≤ M.cells.length) (hk : M.cells.length ≤ 90000) (hsb : ∀ w', Mod (VF B K) w w' → Src w' ab (bvs l)) (hm : m = l.length) (hm2 : m ≤ 140737488355328) (hmc : m ≤ cb) (hr : dvWrite s M p l = (E, s', M', at')) :
    Calls Try.prog 27 #[.pointer (some ⟨d, 0, none⟩), .slice ab m cb] w fun e w' => e = .returned (.int .i64 E) ∧ DrvP B K w' d g M' at' s' ∧ Mod (VF B K) w w' := by
  obtain ⟨⟨a, k, c, cs, h⟩, hpw⟩ := hd
  have hpk : p ≤ k := by rw [← h.r.size]; exact hp
  have hk : k ≤ 90000 := by rw [← h.r.size]; exact hk
  have H := Lib.hid h
  have HR := Lib.hid hr
  have HP := Lib.hid hpw
  have HS := Lib.hid hsb
  have Hm := Lib.hid hm
  have hdl := heap_lt h.obj
  obtain ⟨d0, d1, d2, d3⟩ := h.cells
  clear h hpw hr hp hsb hm d0 d1 d2
  go_enter Try.func27, Try.ntmps27
  go_wp2_with fail
  cases hoff : s.off with
  | true =>
    have hl := HR.out
    unfold dvWrite at hl
    rw [if_pos hoff] at hl
    simp only [Prod.mk.injEq] at hl
    obtain ⟨rfl, rfl, rfl, rfl⟩ := hl
    refine (off_at HP.out hoff).mono ?_
    rintro e w2 ⟨rfl, rfl⟩
    go_wp2
    go_ret
    exact ⟨rfl, ⟨⟨a, k, c, cs, H.out⟩, HP.out⟩, Mod.refl _ _⟩
  | false =>
    obtain ⟨⟨r, s1⟩, hsp⟩ : ∃ x, x = s.spend := ⟨_, rfl⟩
    obtain ⟨Wr, hWr⟩ : ∃ x, x = M.wrong (p : Int) m true := ⟨_, rfl⟩
    have hl := HR.out
    unfold dvWrite at hl
    rw [if_neg (by rw [hoff]; decide), ← hsp, ← Hm.out, ← hWr] at hl
    have HL := Lib.hid hl
    have Hsp := Lib.hid hsp.symm
    have HWr := Lib.hid hWr.symm
    clear hl hsp HR hWr
    refine (off_at HP.out hoff).mono ?_
    rintro e w2 ⟨rfl, rfl⟩
    obtain ⟨d0, d1, d2, d3'⟩ := H.out.cells
    clear hoff d3'
    go_wp2_with fail
    refine wp_region_sp (by kernel_rfl) [Sp.eq (.pointer (some ⟨d, 0, none⟩)), Sp.eq (.pointer (some ⟨d, 0, none⟩)), Sp.eq (.pointer (some ⟨d, 0, none⟩)), Sp.eq (.pointer (some ⟨d, 0, none⟩)), Sp.eq (.agg #[.int .i64 M.cap, .slice a k c]), Sp.eq (.pointer (some ⟨d, 0, none⟩)), Sp.eq (.pointer (some ⟨d, 0, none⟩)), Sp.eq (.pointer (some ⟨d, 0, none⟩)), Sp.eq (.pointer (some ⟨d, 2, none⟩)), Sp.eq (.int .i64 (p : Int)), Sp.eq (.slice ab m cb), Sp.eq (.int .i64 Wr), Sp.eq (.int .i64 Wr)] (by kernel_rfl) ?_ ?_
    · refine stepsOk_cons ?_ (stepsOk_cons ?_ (stepsOk_cons ?_ (stepsOk_cons ?_ (stepsOk_cons ?_ (stepsOk_cons ?_ (stepsOk_cons ?_ (stepsOk_cons ?_ (stepsOk_cons ?_ (stepsOk_cons ?_ (stepsOk_cons ?_ (stepsOk_cons ?_ (stepsOk_cons ?_ (stepsOk_nil)))))))))))))
      · intro ρ w' E
        have e0 : ρ (.tmp 0) = .pointer (some ⟨d, 0, none⟩) := E.out 0 rfl
        refine step_plain rfl ?_
        exact op_move (.inl rfl) e0 ⟨Below.refl _ _, rfl⟩
      · intro ρ w' E
        have e12 : ρ (.tmp 12) = .pointer (some ⟨d, 0, none⟩) := E.pre 0 rfl
        refine step_plain rfl ?_
        refine op_val (v := .pointer (some ⟨d, 0, none⟩)) (w' := w') ?_ ⟨Below.refl _ _, rfl⟩
        have hcon := E.con
        clear E
        go_simp
      · intro ρ w' E
        have e13 : ρ (.tmp 13) = .pointer (some ⟨d, 0, none⟩) := E.pre 1 rfl
        refine step_plain rfl ?_
        refine op_val (v := .pointer (some ⟨d, 0, none⟩)) (w' := w') ?_ ⟨Below.refl _ _, rfl⟩
        have hcon := E.con
        clear E
        go_simp
      · intro ρ w' E
        have e14 : ρ (.tmp 14) = .pointer (some ⟨d, 0, none⟩) := E.pre 2 rfl
        refine step_plain rfl ?_
        refine op_val (v := .pointer (some ⟨d, 0, none⟩)) (w' := w') ?_ ⟨Below.refl _ _, rfl⟩
        have hcon := E.con
        clear E
        go_simp
      · intro ρ w' E
        have e15 : ρ (.tmp 15) = .pointer (some ⟨d, 0, none⟩) := E.pre 3 rfl
        refine step_plain rfl ?_
        refine op_val (v := .agg #[.int .i64 M.cap, .slice a k c]) (w' := w') ?_ ⟨Below.refl _ _, rfl⟩
        have k0 := (World.cell?_of_block (w := w) (E.below.block _ hdl)).trans d0
        have k1 := (World.cell?_of_block (w := w) (E.below.block _ hdl)).trans d1
        have hcon := E.con
        clear E d0 d1 d2
        go_simp
      · intro ρ w' E
        have e0 : ρ (.tmp 0) = .pointer (some ⟨d, 0, none⟩) := E.out 0 rfl
        refine step_plain rfl ?_
        exact op_move (.inl rfl) e0 ⟨Below.refl _ _, rfl⟩
      · intro ρ w' E
        have e17 : ρ (.tmp 17) = .pointer (some ⟨d, 0, none⟩) := E.pre 5 rfl
        refine step_plain rfl ?_
        refine op_val (v := .pointer (some ⟨d, 0, none⟩)) (w' := w') ?_ ⟨Below.refl _ _, rfl⟩
        have hcon := E.con
        clear E
        go_simp
      · intro ρ w' E
        have e18 : ρ (.tmp 18) = .pointer (some ⟨d, 0, none⟩) := E.pre 6 rfl
        refine step_plain rfl ?_
        refine op_val (v := .pointer (some ⟨d, 0, none⟩)) (w' := w') ?_ ⟨Below.refl _ _, rfl⟩
        have hcon := E.con
        clear E
        go_simp
      · intro ρ w' E
        have e19 : ρ (.tmp 19) = .pointer (some ⟨d, 0, none⟩) := E.pre 7 rfl
        refine step_plain rfl ?_
        refine op_val (v := .pointer (some ⟨d, 2, none⟩)) (w' := w') ?_ ⟨Below.refl _ _, rfl⟩
        have hcon := E.con
        clear E
        go_simp
      · intro ρ w' E
        have e20 : ρ (.tmp 20) = .pointer (some ⟨d, 2, none⟩) := E.pre 8 rfl
        refine step_plain rfl ?_
        refine op_val (v := .int .i64 (p : Int)) (w' := w') ?_ ⟨Below.refl _ _, rfl⟩
        have hk := (World.cell?_of_block (w := w) (E.below.block _ hdl)).trans d2
        have hcon := E.con
        clear E d0 d1 d2
        go_simp
      · intro ρ w' E
        have e1 : ρ (.tmp 1) = .slice ab m cb := E.out 1 rfl
        refine step_plain rfl ?_
        exact op_move (.inl rfl) e1 ⟨Below.refl _ _, rfl⟩
      · intro ρ w' E
        have e16 : ρ (.tmp 16) = .agg #[.int .i64 M.cap, .slice a k c] := E.pre 4 rfl
        have e21 : ρ (.tmp 21) = .int .i64 (p : Int) := E.pre 9 rfl
        have e22 : ρ (.tmp 22) = .slice ab m cb := E.pre 10 rfl
        refine step_plain rfl ?_
        refine op_call (f := 51) (args := #[.agg #[.int .i64 M.cap, .slice a k c], .int .i64 (p : Int), .slice ab m cb, .bool true]) (w' := w') (by have hcon := E.con; have hfn := E.fn; clear E; go_simp) ?_
        refine (wrong_any M.cap a c k M (p : Int) ab cb m true Wr w' rfl H.out.r.size HWr.out).mono ?_
        rintro e wz ⟨rfl, hbz⟩
        exact ⟨_, rfl, hbz, rfl⟩
      · intro ρ w' E
        have e23 : ρ (.tmp 23) = .int .i64 Wr := E.pre 11 rfl
        refine step_plain rfl ?_
        exact op_move (.inr rfl) e23 ⟨Below.refl _ _, rfl⟩
    · intro σ w2 hb hall
      have h3 : σ 5 = .int .i64 Wr := by obtain ⟨_, _, _, _, _, _, _, _, _, _, _, _, h, _⟩ := hall; exact h
      clear hall
      simp only [upd, updL, dstsOf', elemB, List.filterMap_cons, List.filterMap_nil, Nat.reduceAdd, Nat.reduceBEq, Bool.or_false, Bool.false_or, Bool.or_true, Bool.true_or, cond_true, cond_false, Nat.zero_add, h3]
      have H2 := Lib.hid (H.out.ext hb)
      have HP2 := Lib.hid (HP.out.ext hb)
      have HM2 : Hid (Mod (VF B K) w w2) := Lib.hid (bmod hb _)
      have hB2 := hB.grow hb.size
      clear hb d0 d1 d2 d3 H HP h3
      by_cases hW : Wr = 0
      · subst hW
        have hl := HL.out
        rw [if_neg (by decide)] at hl
        have HL2 := Lib.hid hl
        obtain ⟨d0, d1, d2, d3⟩ := H2.out.cells
        clear hl HL d0 d1 d2
        go_wp2_with fail
        refine (spend_at hB2.le HP2.out Hsp.out).mono ?_
        rintro e w3 ⟨rfl, hp3, hm3⟩
        have H3 := Lib.hid (H2.out.pf hm3)
        have HP3 := Lib.hid hp3
        have HM3 := Lib.hid (HM2.out.trans (PF.vf (K := K) hm3))
        have HS3 := Lib.hid (HS.out w3 HM3.out)
        have hB3 := hB2.grow hm3.size
        clear hp3 hm3 d3 HP2 H2 HM2
        obtain ⟨d0, d1, d2, d3⟩ := H3.out.cells
        cases r with
        | true =>
          have hl := HL2.out
          simp only [if_true, Prod.mk.injEq] at hl
          obtain ⟨rfl, rfl, rfl, rfl⟩ := hl
          clear d0 d1 d2
          go_wp2_with fail
          refine (drv_lay p 1 ab m cb l w3 H3.out hB3 hpk hk HS3.out Hm.out hm2).mono ?_
          rintro e w4 ⟨rfl, a4, c4, cs4, h4, hm4⟩
          obtain ⟨h5, hm5⟩ := h4.set2 ((p : Int) + 1)
          obtain ⟨e0, e1, e2, e3⟩ := h4.cells
          have hfz := frozen_of_row w4 d 2 _ _ h4.obj
          have HF : Hid (DrvP B K (w4.setCell ⟨d, 2, none⟩ (.int .i64 ((p : Int) + 1))) d g (M.lay p ⟨1, l, false⟩) ((p : Int) + 1) s1) := Lib.hid ⟨⟨_, _, _, _, h5⟩, (HP3.out.tf hm4).tf hm5⟩
          have HMF := Lib.hid ((HM3.out.trans (TF.vf hm4)).trans (TF.vf hm5))
          clear h4 hm4 h5 hm5 d3 e0 e1 e3
          go_wp2
          go_ret
          exact ⟨rfl, HF.out, HMF.out⟩
        | false =>
          have hl := HL2.out
          simp only [Bool.false_eq_true, if_false] at hl
          have HL3 := Lib.hid hl
          clear hl HL2 d0 d1 d2
          go_wp2_with fail
          by_cases ht : 0 ≤ s1.torn
          · obtain ⟨tn, htn⟩ := Int.eq_ofNat_of_zero_le ht
            obtain ⟨kk, hkk⟩ : ∃ k : Nat, k = min tn m := ⟨_, rfl⟩
            have hkm : kk ≤ m := by omega
            have hkc : kk ≤ cb := by omega
            have Hkk : Hid (min (tn : Int) (m : Int) = (kk : Int)) := Lib.hid (by omega)
            have hl := HL3.out
            rw [if_pos ht, htn, Int.toNat_natCast, show l.take tn = l.take kk by
              rw [hkk, Hm.out]
              by_cases h : tn ≤ l.length
              · rw [Nat.min_eq_left h]
              · rw [Nat.min_eq_right (by omega), List.take_length, List.take_of_length_le (by omega)]] at hl
            simp only [Prod.mk.injEq] at hl
            obtain ⟨rfl, rfl, rfl, rfl⟩ := hl
            refine (torn_at HP3.out htn).mono ?_
            rintro e w4 ⟨rfl, rfl⟩
            clear htn hkk ht
            go_wp2_with fail
            refine wp_region_chainL (by kernel_rfl) [9] (Badd.rel) [SpT.eq (.pointer (some ⟨d, 0, none⟩)), SpT.eq (.pointer (some ⟨d, 0, none⟩)), SpT.eq (.pointer (some ⟨d, 0, none⟩)), SpT.eq (.slice ab m cb), SpT.eq (.int .i64 (tn : Int)), SpT.eq (.slice ab m cb), SpT.eq (.int .i64 (m : Int)), SpT.eq (.int .i64 (kk : Int)), SpT.eq (.slice ab kk cb), SpT.top] (by kernel_rfl) (by kernel_rfl) (by kernel_rfl) (by kernel_rfl) ?_ ?_
            · refine stepsL_free rfl ?_ (stepsL_free rfl ?_ (stepsL_free rfl ?_ (stepsL_free rfl ?_ (stepsL_free rfl ?_ (stepsL_free rfl ?_ (stepsL_free rfl ?_ (stepsL_free rfl ?_ (stepsL_free rfl ?_ (stepsL_chain rfl (stepsL_nil))))))))))
              · intro ρ w' E
                have e0 : ρ (.tmp 0) = .pointer (some ⟨d, 0, none⟩) := E.out 0 rfl
                refine step_plain rfl ?_
                exact op_move (.inl rfl) e0 ⟨Below.refl _ _, rfl⟩
              · intro ρ w' E
                have e40 : ρ (.tmp 40) = .pointer (some ⟨d, 0, none⟩) := E.pre 0 rfl rfl
                refine step_plain rfl ?_
                refine op_val (v := .pointer (some ⟨d, 0, none⟩)) (w' := w') ?_ ⟨Below.refl _ _, rfl⟩
                have hcon := E.con
                clear E
                go_simp
              · intro ρ w' E
                have e41 : ρ (.tmp 41) = .pointer (some ⟨d, 0, none⟩) := E.pre 1 rfl rfl
                refine step_plain rfl ?_
                refine op_val (v := .pointer (some ⟨d, 0, none⟩)) (w' := w') ?_ ⟨Below.refl _ _, rfl⟩
                have hcon := E.con
                clear E
                go_simp
              · intro ρ w' E
                have e1 : ρ (.tmp 1) = .slice ab m cb := E.out 1 rfl
                refine step_plain rfl ?_
                exact op_move (.inl rfl) e1 ⟨Below.refl _ _, rfl⟩
              · intro ρ w' E
                have e6 : ρ (.tmp 6) = .int .i64 (tn : Int) := E.out 6 rfl
                refine step_plain rfl ?_
                exact op_move (.inl rfl) e6 ⟨Below.refl _ _, rfl⟩
              · intro ρ w' E
                have e1 : ρ (.tmp 1) = .slice ab m cb := E.out 1 rfl
                refine step_plain rfl ?_
                exact op_move (.inl rfl) e1 ⟨Below.refl _ _, rfl⟩
              · intro ρ w' E
                have e45 : ρ (.tmp 45) = .slice ab m cb := E.pre 5 rfl rfl
                refine step_plain rfl ?_
                refine op_val (v := .int .i64 (m : Int)) (w' := w') ?_ ⟨Below.refl _ _, rfl⟩
                have hcon := E.con
                clear E
                go_simp
              · intro ρ w' E
                have e44 : ρ (.tmp 44) = .int .i64 (tn : Int) := E.pre 4 rfl rfl
                have e46 : ρ (.tmp 46) = .int .i64 (m : Int) := E.pre 6 rfl rfl
                refine step_plain rfl ?_
                refine op_val (v := .int .i64 (kk : Int)) (w' := w') ?_ ⟨Below.refl _ _, rfl⟩
                have hkk := Hkk.out
                have hcon := E.con
                clear E d3
                go_simp
                split <;> omega
              · intro ρ w' E
                have e43 : ρ (.tmp 43) = .slice ab m cb := E.pre 3 rfl rfl
                have e47 : ρ (.tmp 47) = .int .i64 (kk : Int) := E.pre 7 rfl rfl
                refine step_plain rfl ?_
                refine op_val (v := .slice ab kk cb) (w' := w') ?_ ⟨Below.refl _ _, rfl⟩
                have hcon := E.con
                clear E d3
                go_simp
            · intro ρ1 w1c G1 E1
              have e42 : ρ1 (.tmp 42) = .pointer (some ⟨d, 0, none⟩) := E1.pre 2 rfl rfl
              have e48 : ρ1 (.tmp 48) = .slice ab kk cb := E1.pre 8 rfl rfl
              refine step_plain rfl ?_
              refine op_call (f := 54) (args := #[.pointer (some ⟨d, 0, none⟩), .int .i64 3, .slice ab kk cb]) (w' := w1c) (by have hcon := E1.con; have hfn := E1.fn; clear E1 d3; go_simp) ?_
              refine (drv_lay p 3 ab kk cb (l.take kk) w1c (H3.out.ext G1) (hB3.grow G1.size) hpk hk (by rw [bvs_take]; exact (HS3.out.ext G1).take kk) (by rw [List.length_take]; have := Hm.out; omega) (by omega)).mono ?_
              rintro e w3 ⟨rfl, a3, c3, cs3, h3, hm3⟩
              refine ⟨_, rfl, trivial, ?_⟩
              intro σ w4 GF hκ
              simp only [upd, updL, dstsOf', elemB, List.filterMap_cons, List.filterMap_nil, Nat.reduceAdd, Nat.reduceBEq, Bool.or_false, Bool.false_or, Bool.or_true, Bool.true_or, cond_true, cond_false, Nat.zero_add]
              have HF : Hid (DrvP B K w4 d g (M.lay p ⟨3, l.take kk, false⟩) (p : Int) s1) := Lib.hid ⟨⟨_, _, _, _, h3.ext GF⟩, ((HP3.out.ext G1).tf hm3).ext GF⟩
              have HMF := Lib.hid (((HM3.out.trans (bmod G1 _)).trans (TF.vf (K := K) hm3)).trans (bmod GF _))
              clear h3 hm3 d3 G1 GF hκ E1
              go_wp2
              go_ret
              exact ⟨rfl, HF.out, HMF.out⟩
          · have hl := HL3.out
            rw [if_neg ht] at hl
            simp only [Prod.mk.injEq] at hl
            obtain ⟨rfl, rfl, rfl, rfl⟩ := hl
            refine (torn_at HP3.out rfl).mono ?_
            rintro e w4 ⟨rfl, rfl⟩
            go_wp2
            go_ret
            exact ⟨rfl, ⟨⟨a, k, c, cs, H3.out⟩, HP3.out⟩, HM3.out⟩
      · have hl := HL.out
        rw [if_pos hW] at hl
        simp only [Prod.mk.injEq] at hl
        obtain ⟨rfl, rfl, rfl, rfl⟩ := hl
        have eW : (Wr != 0) = true := by simpa using hW
        clear hW HL
        go_wp2
        go_ret
        exact ⟨rfl, ⟨⟨a, k, c, cs, H2.out⟩, HP2.out⟩, HM2.out⟩
end Go.Proofs.Ytmaagkdehdmhlaa
