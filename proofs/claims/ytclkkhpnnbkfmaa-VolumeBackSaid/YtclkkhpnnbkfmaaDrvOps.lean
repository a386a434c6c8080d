/- drive.Drive's End, Mark. -/
import Derived.Test.YtclkkhpnnbkfmaaVolumeBackPartJ
import Derived.Test.YtclkkhpnnbkfmaaRegionChainL
namespace Go.Proofs.Ytclkkhpnnbkfmaa
open Go.RowKit

variable {B : Nat} {K : Nat → Prop} {w w' : World} {d g : Nat} {M : Med} {at_ : Int} {a : Option Addr} {k c : Nat} {cs : List CellV}
/-- A drive and its power, whatever rows it has. -/
def DrvP (B : Nat) (K : Nat → Prop) (w : World) (d g : Nat) (M : Med) (at_ : Int) (s : PS) : Prop := (∃ a k c cs, DrvAt B K w d g M at_ a k c cs) ∧ Pow B w g s
def dvEnd (s : PS) (M : Med) (p : Nat) : Int × PS × Med :=
  if s.off then (5, s, M) else if s.spend.1 then (0, s.spend.2, ⟨M.cap, M.cells.take p⟩) else if 0 ≤ s.spend.2.torn then (5, s.spend.2, ⟨M.cap, M.cells.take p⟩) else (5, s.spend.2, M)

set_option maxRecDepth 100000 in
set_option maxHeartbeats 4000000 in
theorem drv_eot (p : Nat) (s s' : PS) (E : Int) (M' : Med) (w : World) (hd : DrvP B K w d g M (p : Int) s) (hB : Up B K w) (hp : p ≤ M.cells.length) (hr : dvEnd s M p = (E, s', M')) :
    Calls Try.prog 83 #[.pointer (some ⟨d, 0, none⟩)] w fun e w' => e = .returned (.int .i64 E) ∧ DrvP B K w' d g M' (p : Int) s' ∧ Mod (VF B K) w w' := by
  obtain ⟨⟨a, k, c, cs, h⟩, hpw⟩ := hd
  have hpk : p ≤ k := by rw [← h.r.size]; exact hp
  have H := Lib.hid h
  have HR := Lib.hid hr
  have HP := Lib.hid hpw
  obtain ⟨d0, d1, d2, d3⟩ := h.cells
  clear h hpw hr hp d0 d1 d2
  go_enter Try.func83, Try.ntmps83
  go_wp2_with fail
  cases hoff : s.off with
  | true =>
    have hl := HR.out
    unfold dvEnd at hl
    rw [if_pos hoff] at hl
    simp only [Prod.mk.injEq] at hl
    obtain ⟨rfl, rfl, rfl⟩ := hl
    refine (off_at HP.out hoff).mono ?_
    rintro e w2 ⟨rfl, rfl⟩
    go_wp2
    go_ret
    exact ⟨rfl, ⟨⟨a, k, c, cs, H.out⟩, HP.out⟩, Mod.refl _ _⟩
  | false =>
    obtain ⟨⟨r, s1⟩, hsp⟩ : ∃ x, x = s.spend := ⟨_, rfl⟩
    have hl := HR.out
    unfold dvEnd at hl
    rw [if_neg (by rw [hoff]; decide), ← hsp] at hl
    have HL := Lib.hid hl
    have Hsp := Lib.hid hsp.symm
    clear hl hsp HR
    refine (off_at HP.out hoff).mono ?_
    rintro e w2 ⟨rfl, rfl⟩
    clear hoff
    go_wp2_with fail
    refine (spend_at hB.le HP.out Hsp.out).mono ?_
    rintro e w2 ⟨rfl, hp2, hm2⟩
    have H2 := Lib.hid (H.out.pf hm2)
    have HP2 := Lib.hid hp2
    have HM2 := Lib.hid (PF.vf (K := K) hm2)
    have hB2 := hB.grow hm2.size
    clear hp2 hm2 d3 HP
    cases r with
    | true =>
      have hl := HL.out
      simp only [if_true, Prod.mk.injEq] at hl
      obtain ⟨rfl, rfl, rfl⟩ := hl
      go_wp2_with fail
      refine (drv_end p w2 H2.out hpk).mono ?_
      rintro e w3 ⟨rfl, a3, c3, cs3, h3, hm3⟩
      have HF : Hid (DrvP B K w3 d g ⟨M.cap, M.cells.take p⟩ (p : Int) s1) := Lib.hid ⟨⟨_, _, _, _, h3⟩, HP2.out.tf hm3⟩
      have HMF := Lib.hid (HM2.out.trans (TF.vf (K := K) hm3))
      clear h3 hm3
      go_wp2
      go_ret
      exact ⟨rfl, HF.out, HMF.out⟩
    | false =>
      have hl := HL.out
      simp only [Bool.false_eq_true, if_false] at hl
      have HL2 := Lib.hid hl
      clear hl HL
      obtain ⟨d0, d1, d2, d3⟩ := H2.out.cells
      clear d0 d1 d2
      go_wp2_with fail
      refine (torn_at HP2.out rfl).mono ?_
      rintro e w3 ⟨rfl, rfl⟩
      by_cases ht : 0 ≤ s1.torn
      · have hl := HL2.out
        rw [if_pos ht] at hl
        simp only [Prod.mk.injEq] at hl
        obtain ⟨rfl, rfl, rfl⟩ := hl
        go_wp2_with fail
        refine (drv_end p w2 H2.out hpk).mono ?_
        rintro e w3 ⟨rfl, a3, c3, cs3, h3, hm3⟩
        have HF : Hid (DrvP B K w3 d g ⟨M.cap, M.cells.take p⟩ (p : Int) s1) := Lib.hid ⟨⟨_, _, _, _, h3⟩, HP2.out.tf hm3⟩
        have HMF := Lib.hid (HM2.out.trans (TF.vf (K := K) hm3))
        clear h3 hm3 d3
        go_wp2
        go_ret
        exact ⟨rfl, HF.out, HMF.out⟩
      · have hl := HL2.out
        rw [if_neg ht] at hl
        simp only [Prod.mk.injEq] at hl
        obtain ⟨rfl, rfl, rfl⟩ := hl
        go_wp2
        go_ret
        exact ⟨rfl, ⟨⟨a, k, c, cs, H2.out⟩, HP2.out⟩, HM2.out⟩

def dvMark (s : PS) (M : Med) (p : Nat) : Int × PS × Med × Int :=
  if s.off then (5, s, M, p) else if M.wrong (p : Int) 0 false ≠ 0 then (M.wrong (p : Int) 0 false, s, M, p) else if s.spend.1 then (0, s.spend.2, M.lay p ⟨2, [], false⟩, (p : Int) + 1) else if 0 ≤ s.spend.2.torn then (5, s.spend.2, M.lay p ⟨2, [], false⟩, p) else (5, s.spend.2, M, p)

set_option maxRecDepth 100000 in
set_option maxHeartbeats 4000000 in
theorem drv_mark (p : Nat) (s s' : PS) (E : Int) (M' : Med) (at' : Int) (w : World) (hd : DrvP B K w d g M (p : Int) s) (hB : Up B K w) (hp : p ≤ M.cells.length) (hk : M.cells.length ≤ 90000) (hr : dvMark s M p = (E, s', M', at')) :
    Calls Try.prog 45 #[.pointer (some ⟨d, 0, none⟩)] w fun e w' => e = .returned (.int .i64 E) ∧ DrvP B K w' d g M' at' s' ∧ Mod (VF B K) w w' := by
  obtain ⟨⟨a, k, c, cs, h⟩, hpw⟩ := hd
  have hpk : p ≤ k := by rw [← h.r.size]; exact hp
  have hk : k ≤ 90000 := by rw [← h.r.size]; exact hk
  have H := Lib.hid h
  have HR := Lib.hid hr
  have HP := Lib.hid hpw
  have hdl := heap_lt h.obj
  obtain ⟨d0, d1, d2, d3⟩ := h.cells
  clear h hpw hr hp d0 d1 d2
  go_enter Try.func45, Try.ntmps45
  go_wp2_with fail
  cases hoff : s.off with
  | true =>
    have hl := HR.out
    unfold dvMark at hl
    rw [if_pos hoff] at hl
    simp only [Prod.mk.injEq] at hl
    obtain ⟨rfl, rfl, rfl, rfl⟩ := hl
    refine (off_at HP.out hoff).mono ?_
    rintro e w2 ⟨rfl, rfl⟩
    go_wp2
    go_ret
    exact ⟨rfl, ⟨⟨a, k, c, cs, H.out⟩, HP.out⟩, Mod.refl _ _⟩
  | false =>
    obtain ⟨⟨r, s1⟩, hsp⟩ : ∃ x, x = s.spend := ⟨_, rfl⟩
    obtain ⟨Wr, hWr⟩ : ∃ x, x = M.wrong (p : Int) 0 false := ⟨_, rfl⟩
    have hl := HR.out
    unfold dvMark at hl
    rw [if_neg (by rw [hoff]; decide), ← hsp, ← hWr] at hl
    have HL := Lib.hid hl
    have Hsp := Lib.hid hsp.symm
    have HWr := Lib.hid hWr.symm
    clear hl hsp HR hWr
    refine (off_at HP.out hoff).mono ?_
    rintro e w2 ⟨rfl, rfl⟩
    obtain ⟨d0, d1, d2, d3'⟩ := H.out.cells
    clear hoff d3'
    go_wp2_with fail
    refine wp_region_sp (by kernel_rfl) [Sp.eq (.pointer (some ⟨d, 0, none⟩)), Sp.eq (.pointer (some ⟨d, 0, none⟩)), Sp.eq (.pointer (some ⟨d, 0, none⟩)), Sp.eq (.pointer (some ⟨d, 0, none⟩)), Sp.eq (.agg #[.int .i64 M.cap, .slice a k c]), Sp.eq (.pointer (some ⟨d, 0, none⟩)), Sp.eq (.pointer (some ⟨d, 0, none⟩)), Sp.eq (.pointer (some ⟨d, 0, none⟩)), Sp.eq (.pointer (some ⟨d, 2, none⟩)), Sp.eq (.int .i64 (p : Int)), Sp.eq (.int .i64 Wr), Sp.eq (.int .i64 Wr)] (by kernel_rfl) ?_ ?_
    · refine stepsOk_cons ?_ (stepsOk_cons ?_ (stepsOk_cons ?_ (stepsOk_cons ?_ (stepsOk_cons ?_ (stepsOk_cons ?_ (stepsOk_cons ?_ (stepsOk_cons ?_ (stepsOk_cons ?_ (stepsOk_cons ?_ (stepsOk_cons ?_ (stepsOk_cons ?_ (stepsOk_nil))))))))))))
      · intro ρ w' E
        have e0 : ρ (.tmp 0) = .pointer (some ⟨d, 0, none⟩) := E.out 0 rfl
        refine step_plain rfl ?_
        exact op_move (.inl rfl) e0 ⟨Below.refl _ _, rfl⟩
      · intro ρ w' E
        have e9 : ρ (.tmp 9) = .pointer (some ⟨d, 0, none⟩) := E.pre 0 rfl
        refine step_plain rfl ?_
        refine op_val (v := .pointer (some ⟨d, 0, none⟩)) (w' := w') ?_ ⟨Below.refl _ _, rfl⟩
        have hcon := E.con
        clear E
        go_simp
      · intro ρ w' E
        have e10 : ρ (.tmp 10) = .pointer (some ⟨d, 0, none⟩) := E.pre 1 rfl
        refine step_plain rfl ?_
        refine op_val (v := .pointer (some ⟨d, 0, none⟩)) (w' := w') ?_ ⟨Below.refl _ _, rfl⟩
        have hcon := E.con
        clear E
        go_simp
      · intro ρ w' E
        have e11 : ρ (.tmp 11) = .pointer (some ⟨d, 0, none⟩) := E.pre 2 rfl
        refine step_plain rfl ?_
        refine op_val (v := .pointer (some ⟨d, 0, none⟩)) (w' := w') ?_ ⟨Below.refl _ _, rfl⟩
        have hcon := E.con
        clear E
        go_simp
      · intro ρ w' E
        have e12 : ρ (.tmp 12) = .pointer (some ⟨d, 0, none⟩) := E.pre 3 rfl
        refine step_plain rfl ?_
        refine op_val (v := .agg #[.int .i64 M.cap, .slice a k c]) (w' := w') ?_ ⟨Below.refl _ _, rfl⟩
        have k0 := (World.cell?_of_block (w := w) (E.below.block _ hdl)).trans d0
        have k1 := (World.cell?_of_block (w := w) (E.below.block _ hdl)).trans d1
        have hcon := E.con
        clear E d0 d1 d2
        go_simp
      · intro ρ w' E
        have e0 : ρ (.tmp 0) = .pointer (some ⟨d, 0, none⟩) := E.out 0 rfl
        refine step_plain rfl ?_
        exact op_move (.inl rfl) e0 ⟨Below.refl _ _, rfl⟩
      · intro ρ w' E
        have e14 : ρ (.tmp 14) = .pointer (some ⟨d, 0, none⟩) := E.pre 5 rfl
        refine step_plain rfl ?_
        refine op_val (v := .pointer (some ⟨d, 0, none⟩)) (w' := w') ?_ ⟨Below.refl _ _, rfl⟩
        have hcon := E.con
        clear E
        go_simp
      · intro ρ w' E
        have e15 : ρ (.tmp 15) = .pointer (some ⟨d, 0, none⟩) := E.pre 6 rfl
        refine step_plain rfl ?_
        refine op_val (v := .pointer (some ⟨d, 0, none⟩)) (w' := w') ?_ ⟨Below.refl _ _, rfl⟩
        have hcon := E.con
        clear E
        go_simp
      · intro ρ w' E
        have e16 : ρ (.tmp 16) = .pointer (some ⟨d, 0, none⟩) := E.pre 7 rfl
        refine step_plain rfl ?_
        refine op_val (v := .pointer (some ⟨d, 2, none⟩)) (w' := w') ?_ ⟨Below.refl _ _, rfl⟩
        have hcon := E.con
        clear E
        go_simp
      · intro ρ w' E
        have e17 : ρ (.tmp 17) = .pointer (some ⟨d, 2, none⟩) := E.pre 8 rfl
        refine step_plain rfl ?_
        refine op_val (v := .int .i64 (p : Int)) (w' := w') ?_ ⟨Below.refl _ _, rfl⟩
        have hk := (World.cell?_of_block (w := w) (E.below.block _ hdl)).trans d2
        have hcon := E.con
        clear E d0 d1 d2
        go_simp
      · intro ρ w' E
        have e13 : ρ (.tmp 13) = .agg #[.int .i64 M.cap, .slice a k c] := E.pre 4 rfl
        have e18 : ρ (.tmp 18) = .int .i64 (p : Int) := E.pre 9 rfl
        refine step_plain rfl ?_
        refine op_call (f := 91) (args := #[.agg #[.int .i64 M.cap, .slice a k c], .int .i64 (p : Int), .slice none 0 0, .bool false]) (w' := w') (by have hcon := E.con; have hfn := E.fn; clear E; go_simp) ?_
        refine (wrong_any M.cap a c k M (p : Int) none 0 0 false Wr w' rfl H.out.r.size HWr.out).mono ?_
        rintro e wz ⟨rfl, hbz⟩
        exact ⟨_, rfl, hbz, rfl⟩
      · intro ρ w' E
        have e19 : ρ (.tmp 19) = .int .i64 Wr := E.pre 10 rfl
        refine step_plain rfl ?_
        exact op_move (.inr rfl) e19 ⟨Below.refl _ _, rfl⟩
    · intro σ w2 hb hall
      have h3 : σ 3 = .int .i64 Wr := by obtain ⟨_, _, _, _, _, _, _, _, _, _, _, h, _⟩ := hall; exact h
      clear hall
      simp only [upd, updL, dstsOf', elemB, List.filterMap_cons, List.filterMap_nil, Nat.reduceAdd, Nat.reduceBEq, Bool.or_false, Bool.false_or, Bool.or_true, Bool.true_or, cond_true, cond_false, Nat.zero_add, h3]
      have H2 := Lib.hid (H.out.ext hb)
      have HP2 := Lib.hid (HP.out.ext hb)
      have HM2 : Hid (Mod (VF B K) w w2) := Lib.hid (bmod hb _)
      have hB2 := hB.grow hb.size
      clear hb d0 d1 d2 d3 H HP h3
      by_cases hW : Wr = 0
      · subst hW
        have hl := HL.out
        rw [if_neg (by decide)] at hl
        have HL2 := Lib.hid hl
        obtain ⟨d0, d1, d2, d3⟩ := H2.out.cells
        clear hl HL d0 d1 d2
        go_wp2_with fail
        refine (spend_at hB2.le HP2.out Hsp.out).mono ?_
        rintro e w3 ⟨rfl, hp3, hm3⟩
        have H3 := Lib.hid (H2.out.pf hm3)
        have HP3 := Lib.hid hp3
        have HM3 := Lib.hid (HM2.out.trans (PF.vf (K := K) hm3))
        have hB3 := hB2.grow hm3.size
        clear hp3 hm3 d3 HP2 H2 HM2
        obtain ⟨d0, d1, d2, d3⟩ := H3.out.cells
        cases r with
        | true =>
          have hl := HL2.out
          simp only [if_true, Prod.mk.injEq] at hl
          obtain ⟨rfl, rfl, rfl, rfl⟩ := hl
          clear d0 d1 d2
          go_wp2_with fail
          refine (drv_lay p 2 none 0 0 [] w3 H3.out hB3 hpk hk (Src.nil _ _) rfl (by decide)).mono ?_
          rintro e w4 ⟨rfl, a4, c4, cs4, h4, hm4⟩
          obtain ⟨h5, hm5⟩ := h4.set2 ((p : Int) + 1)
          obtain ⟨e0, e1, e2, e3⟩ := h4.cells
          have hfz := frozen_of_row w4 d 2 _ _ h4.obj
          have HF : Hid (DrvP B K (w4.setCell ⟨d, 2, none⟩ (.int .i64 ((p : Int) + 1))) d g (M.lay p ⟨2, [], false⟩) ((p : Int) + 1) s1) := Lib.hid ⟨⟨_, _, _, _, h5⟩, (HP3.out.tf hm4).tf hm5⟩
          have HMF := Lib.hid ((HM3.out.trans (TF.vf hm4)).trans (TF.vf hm5))
          clear h4 hm4 h5 hm5 d3 e0 e1 e3
          go_wp2
          go_ret
          exact ⟨rfl, HF.out, HMF.out⟩
        | false =>
          have hl := HL2.out
          simp only [Bool.false_eq_true, if_false] at hl
          have HL3 := Lib.hid hl
          clear hl HL2 d0 d1 d2
          go_wp2_with fail
          refine (torn_at HP3.out rfl).mono ?_
          rintro e w4 ⟨rfl, rfl⟩
          by_cases ht : 0 ≤ s1.torn
          · have hl := HL3.out
            rw [if_pos ht] at hl
            simp only [Prod.mk.injEq] at hl
            obtain ⟨rfl, rfl, rfl, rfl⟩ := hl
            go_wp2_with fail
            refine (drv_lay p 2 none 0 0 [] w3 H3.out hB3 hpk hk (Src.nil _ _) rfl (by decide)).mono ?_
            rintro e w4 ⟨rfl, a4, c4, cs4, h4, hm4⟩
            have HF : Hid (DrvP B K w4 d g (M.lay p ⟨2, [], false⟩) (p : Int) s1) := Lib.hid ⟨⟨_, _, _, _, h4⟩, HP3.out.tf hm4⟩
            have HMF := Lib.hid (HM3.out.trans (TF.vf hm4))
            clear h4 hm4 d3
            go_wp2
            go_ret
            exact ⟨rfl, HF.out, HMF.out⟩
          · have hl := HL3.out
            rw [if_neg ht] at hl
            simp only [Prod.mk.injEq] at hl
            obtain ⟨rfl, rfl, rfl, rfl⟩ := hl
            go_wp2
            go_ret
            exact ⟨rfl, ⟨⟨a, k, c, cs, H3.out⟩, HP3.out⟩, HM3.out⟩
      · have hl := HL.out
        rw [if_pos hW] at hl
        simp only [Prod.mk.injEq] at hl
        obtain ⟨rfl, rfl, rfl, rfl⟩ := hl
        have eW : (Wr != 0) = true := by simpa using hW
        clear hW HL
        go_wp2
        go_ret
        exact ⟨rfl, ⟨⟨a, k, c, cs, H2.out⟩, HP2.out⟩, HM2.out⟩
end Go.Proofs.Ytclkkhpnnbkfmaa
