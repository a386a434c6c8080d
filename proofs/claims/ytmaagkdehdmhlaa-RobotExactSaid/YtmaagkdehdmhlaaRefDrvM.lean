/- The page's drive's Mark, End. -/
import Derived.Test.YtmaagkdehdmhlaaRefDrvW
namespace Go.Proofs.Ytmaagkdehdmhlaa
open Go.RowKit

theorem mark_eqP {M : Med} (hok : M.ok = true) (p : Nat) : M.mark (p : Int) = (if M.wrong (p : Int) 0 false ≠ 0 then Med.none else M.lay p ⟨2, [], false⟩, M.wrong (p : Int) 0 false) := by
  unfold Med.mark
  rw [if_neg (by rw [hok]; decide)]
  by_cases h : M.wrong (p : Int) 0 false ≠ 0
  · rw [if_pos h, if_pos h]
  · rw [if_neg h, if_neg h, Int.toNat_natCast]
    congr 1
    exact (Classical.not_not.1 h).symm
theorem end_eqP {M : Med} (hok : M.ok = true) {p : Nat} (hp : p ≤ M.cells.length) : M.end_ (p : Int) = (⟨M.cap, M.cells.take p⟩, 0) := by
  unfold Med.end_
  rw [if_neg (by rw [hok]; simp; omega), Int.toNat_natCast]

set_option maxRecDepth 100000 in
set_option maxHeartbeats 8000000 in
theorem rdrv_mark {B : Nat} {Z : Nat → Prop} {rd q : Nat} {M : Med} (p : Nat) (s s' : PS) (E : Int) (M' : Med) (at' : Int) (w : World) (hd : RDrvP B Z w rd q M (p : Int) s) (hok : M.ok = true) (hp : p ≤ M.cells.length) (hr : dvMark s M p = (E, s', M', at')) :
    Calls Try.prog 30 #[.pointer (some ⟨rd, 0, none⟩)] w fun e w' => e = .returned (.int .i64 E) ∧ RDrvP B (fun b => Z b ∨ w.heap.size ≤ b ∧ b < w'.heap.size) w' rd q M' at' s' ∧ Mod (RVF B rd) w w' := by
  obtain ⟨⟨a, k, c, cs, h, hz⟩, hpw⟩ := hd
  have hcap := (Med.ok_iff.1 hok).1
  have hk9 : k ≤ 90000 := by rw [← h.r.size]; omega
  have hp9 : (p : Int) ≤ 400 := by omega
  have HX2 : Hid (∀ x ∈ M.cells, x.data.length ≤ 256) := Lib.hid fun x hx => by
    have := (Med.ok_iff.1 hok).2 x hx
    unfold CellP.right rightC at this
    rw [decide_eq_true_eq] at this
    omega
  have H := Lib.hid h
  have HP := Lib.hid hpw
  have HZ := Lib.hid hz
  have HR := Lib.hid hr
  have Hok : Hid ((medOf M.cap cs).ok = true) := Lib.hid (by rw [h.r.of]; exact hok)
  have HokM := Lib.hid hok
  have Hof := Lib.hid h.r.of
  have Hx : Hid (∀ x ∈ cs, x.d.l.length ≤ 140737488355328) := Lib.hid (h.r.short fun x hx => Nat.le_trans (HX2.out x hx) (by decide))
  obtain ⟨d0, d1, d2, d3⟩ := h.cells
  have hlr := heap_lt h.obj
  have hkr : ¬ w.heap.size ≤ rd := by omega
  have hpw0 := hpw
  obtain ⟨armed, ta, tn, tc, tear, ka, kc, hq⟩ := hpw0
  have p0 := cell_of_row _ q 0 _ _ _ hq.obj
  have hB : B ≤ w.heap.size := by have := h.low; omega
  have hlow := h.low
  clear h hpw hz hr hq hok hcap hp
  go_enter Try.func30, Try.ntmps30
  cases hoff : s.off with
  | true =>
    rw [hoff] at p0
    have hl := HR.out
    unfold dvMark at hl
    rw [if_pos hoff] at hl
    simp only [Prod.mk.injEq] at hl
    obtain ⟨rfl, rfl, rfl, rfl⟩ := hl
    clear hoff
    go_wp2
    go_ret
    exact ⟨rfl, ⟨⟨a, k, c, cs, H.out, HZ.out.mono fun _ h => .inl h⟩, HP.out⟩, Mod.refl _ _⟩
  | false =>
    rw [hoff] at p0
    obtain ⟨⟨Mw, Ew⟩, hw⟩ : ∃ x, x = (medOf M.cap cs).mark (p : Int) := ⟨_, rfl⟩
    have hwe := hw
    rw [Hof.out, mark_eqP HokM.out] at hwe
    simp only [Prod.mk.injEq] at hwe
    obtain ⟨hMw, hEw⟩ := hwe
    have HW := Lib.hid hw.symm
    have HEw := Lib.hid hEw
    have HMw := Lib.hid hMw
    have Hoff := Lib.hid hoff
    clear hw hMw hEw hoff
    go_wp2_with fail
    refine wp_region_chainF (by kernel_rfl) [13, 14] [12] (MRel.rel (fun b => w.heap.size ≤ b)) (fun h => h.size) [SpT.eq (.pointer (some ⟨rd, 0, none⟩)), SpT.eq (.pointer (some ⟨rd, 0, none⟩)), SpT.eq (.pointer (some ⟨rd, 1, none⟩)), SpT.eq (.agg #[.int .i64 M.cap, .slice a k c]), SpT.eq (.pointer (some ⟨rd, 0, none⟩)), SpT.eq (.pointer (some ⟨rd, 0, none⟩)), SpT.eq (.pointer (some ⟨rd, 3, none⟩)), SpT.eq (.int .i64 (p : Int)), ⟨AnsT w.heap.size Mw Ew, fun _ _ _ h hm => h.st _ _ _ hm⟩, ⟨AnsT w.heap.size Mw Ew, fun _ _ _ h hm => h.st _ _ _ hm⟩, ⟨AnsM w.heap.size Mw, fun _ _ _ h hm => h.st _ _ _ hm⟩, SpT.eq (.int .i64 Ew), ⟨NewV w.heap.size, fun _ _ _ h hm => h.st _ _ _ hm⟩, SpT.top, SpT.top] (by kernel_rfl) (by kernel_rfl) (by kernel_rfl) (by kernel_rfl) (by kernel_rfl) ?_ ?_
    · refine stepsM_free rfl ?_ (stepsM_free rfl ?_ (stepsM_free rfl ?_ (stepsM_free rfl ?_ (stepsM_free rfl ?_ (stepsM_free rfl ?_ (stepsM_free rfl ?_ (stepsM_free rfl ?_ (stepsM_free rfl ?_ (stepsM_free rfl ?_ (stepsM_free rfl ?_ (stepsM_free rfl ?_ (stepsM_free rfl ?_ (stepsM_chain rfl (stepsM_chain rfl (stepsM_nil)))))))))))))))
      · intro ρ w' E
        have e0 : ρ (.tmp 0) = .pointer (some ⟨rd, 0, none⟩) := E.out 0 rfl
        refine step_plain rfl ?_
        exact op_move (.inl rfl) e0 ⟨Below.refl _ _, trivial, rfl⟩
      · intro ρ w' E
        have e14 : ρ (.tmp 14) = .pointer (some ⟨rd, 0, none⟩) := E.pre 0 rfl rfl
        refine step_plain rfl ?_
        refine op_val (v := .pointer (some ⟨rd, 0, none⟩)) (w' := w') ?_ ⟨Below.refl _ _, trivial, rfl⟩
        have hcon := E.con
        clear E
        go_simp
      · intro ρ w' E
        have e15 : ρ (.tmp 15) = .pointer (some ⟨rd, 0, none⟩) := E.pre 1 rfl rfl
        refine step_plain rfl ?_
        refine op_val (v := .pointer (some ⟨rd, 1, none⟩)) (w' := w') ?_ ⟨Below.refl _ _, trivial, rfl⟩
        have hcon := E.con
        clear E
        go_simp
      · intro ρ w' E
        have e16 : ρ (.tmp 16) = .pointer (some ⟨rd, 1, none⟩) := E.pre 2 rfl rfl
        refine step_plain rfl ?_
        refine op_val (v := .agg #[.int .i64 M.cap, .slice a k c]) (w' := w') ?_ ⟨Below.refl _ _, trivial, rfl⟩
        have k0 : w'.cell? ⟨rd, 1, none⟩ = some (.int .i64 M.cap) := (World.cell?_of_block (w := w) (E.t.keep hlr hkr)).trans d1
        have k1 : w'.cell? ⟨rd, 2, none⟩ = some (.slice a k c) := (World.cell?_of_block (w := w) (E.t.keep hlr hkr)).trans d2
        have hcon := E.con
        clear E d1 d2 d3
        go_simp
      · intro ρ w' E
        have e0 : ρ (.tmp 0) = .pointer (some ⟨rd, 0, none⟩) := E.out 0 rfl
        refine step_plain rfl ?_
        exact op_move (.inl rfl) e0 ⟨Below.refl _ _, trivial, rfl⟩
      · intro ρ w' E
        have e18 : ρ (.tmp 18) = .pointer (some ⟨rd, 0, none⟩) := E.pre 4 rfl rfl
        refine step_plain rfl ?_
        refine op_val (v := .pointer (some ⟨rd, 0, none⟩)) (w' := w') ?_ ⟨Below.refl _ _, trivial, rfl⟩
        have hcon := E.con
        clear E
        go_simp
      · intro ρ w' E
        have e19 : ρ (.tmp 19) = .pointer (some ⟨rd, 0, none⟩) := E.pre 5 rfl rfl
        refine step_plain rfl ?_
        refine op_val (v := .pointer (some ⟨rd, 3, none⟩)) (w' := w') ?_ ⟨Below.refl _ _, trivial, rfl⟩
        have hcon := E.con
        clear E
        go_simp
      · intro ρ w' E
        have e20 : ρ (.tmp 20) = .pointer (some ⟨rd, 3, none⟩) := E.pre 6 rfl rfl
        refine step_plain rfl ?_
        refine op_val (v := .int .i64 (p : Int)) (w' := w') ?_ ⟨Below.refl _ _, trivial, rfl⟩
        have k3 : w'.cell? ⟨rd, 3, none⟩ = some (.int .i64 (p : Int)) := (World.cell?_of_block (w := w) (E.t.keep hlr hkr)).trans d3
        have hcon := E.con
        clear E d1 d2 d3
        go_simp
      · intro ρ w' E
        have e17 : ρ (.tmp 17) = .agg #[.int .i64 M.cap, .slice a k c] := E.pre 3 rfl rfl
        have e21 : ρ (.tmp 21) = .int .i64 (p : Int) := E.pre 7 rfl rfl
        refine step_plain rfl ?_
        refine op_call (f := 58) (args := #[.agg #[.int .i64 M.cap, .slice a k c], .int .i64 (p : Int)]) (w' := w') (by have hcon := E.con; have hfn := E.fn; clear E d1 d2 d3; go_simp) ?_
        refine (refmark_any M.cap a c k cs (p : Int) Mw Ew w' (H.out.r.mrel E.t).mat H.out.r.len.symm hk9 Hx.out Hok.out HW.out).mono ?_
        rintro e wy ⟨a5, c5, k5, cs5, rfl, hM5, hc5, hb5⟩
        exact ⟨_, rfl, hb5, trivial, ⟨a5, k5, c5, cs5, rfl, hM5.mono E.t.size, hc5⟩⟩
      · intro ρ w' E
        have p22 : (AnsT w.heap.size Mw Ew) w' (ρ (.tmp 22)) := E.pre 8 rfl rfl
        refine step_plain rfl ?_
        exact op_move (.inl rfl) rfl ⟨Below.refl _ _, trivial, p22⟩
      · intro ρ w' E
        have p13 : (AnsT w.heap.size Mw Ew) w' (ρ (.tmp 13)) := E.pre 9 rfl rfl
        refine step_plain rfl ?_
        obtain ⟨a5, k5, c5, cs5, e5, h5, hk5⟩ := p13
        refine op_val (v := .agg #[.int .i64 Mw.cap, .slice a5 k5 c5]) (w' := w') (by have hcon := E.con; clear E d1 d2 d3; go_simp) ⟨Below.refl _ _, trivial, ⟨a5, k5, c5, cs5, rfl, h5, hk5⟩⟩
      · intro ρ w' E
        have p13 : (AnsT w.heap.size Mw Ew) w' (ρ (.tmp 13)) := E.pre 9 rfl rfl
        refine step_plain rfl ?_
        refine op_val (v := .int .i64 Ew) (w' := w') ?_ ⟨Below.refl _ _, trivial, rfl⟩
        obtain ⟨a5, k5, c5, cs5, e5, _, _⟩ := p13
        have hcon := E.con
        clear E d1 d2 d3
        go_simp
      · intro ρ w' E
        refine step_plain rfl ?_
        refine op_val (v := .pointer (some ⟨w'.heap.size, 0, none⟩)) (w' := w'.alloc (.cells #[.int .i64 0, .slice none 0 0] 45)) (by have hcon := E.con; clear E d1 d2 d3; go_simp; try rfl) ⟨ext_alloc _ _, ⟨Nat.le_refl _, by rw [World.size_alloc]; exact Nat.lt_succ_self _⟩, _, rfl, E.t.size, _, heap_alloc_at _ _, rfl⟩
    · intro ρ1 w1c G1 E1 A1 R1
      have p3 : (NewV w.heap.size) w1c (ρ1 (.tmp 3)) := E1.pre 12 rfl rfl
      have p23 : (AnsM w.heap.size Mw) w1c (ρ1 (.tmp 23)) := E1.pre 10 rfl rfl
      refine step_plain rfl ?_
      obtain ⟨X, e5b, hX, cX, hcX, hsX⟩ := p3
      obtain ⟨aT, kT, cT, csT, e66, hrT, hkT⟩ := p23
      refine op_store_row rfl e5b e66 hcX (by rw [hsX]; rfl) (by kernel_rfl) (by simp [Value.oneCell']) ⟨MRel.set (K := fun b => w.heap.size ≤ b) hX hcX (by rw [hsX]; rfl), ?_⟩
      have hTT := TapeO.put Mw.cap rfl hrT hkT hcX
      intro ρ2 w2c G2 E2 A2 R2
      have e24 : ρ2 (.tmp 24) = .int .i64 Ew := E2.pre 11 rfl rfl
      refine step_plain rfl ?_
      refine op_move (.inr rfl) e24 ⟨trivial, ?_⟩
      intro σ wF GF hκ hrec
      have h6 : σ 4 = .int .i64 Ew := hκ 14 4 rfl rfl
      have e5c : ρ2 (.tmp 3) = ρ1 (.tmp 3) := R2 12 3 rfl rfl
      have h5 : σ 3 = .pointer (some ⟨X, 0, none⟩) := (hrec 12 3 rfl rfl).trans (e5c.trans e5b)
      simp only [upd, updL, dstsOf', elemB, List.filterMap_cons, List.filterMap_nil, Nat.reduceAdd, Nat.reduceBEq, Bool.or_false, Bool.false_or, Bool.or_true, Bool.true_or, cond_true, cond_false, Nat.zero_add, h5, h6]
      have hXw : w.heap.size ≤ X := hX
      have hbF := bthen (bthen (bsetRow G1 hXw #[.int .i64 Mw.cap, .slice aT kT cT]) G2 (Nat.le_refl _)) GF (Nat.le_refl _)
      have HT := Lib.hid ((hTT.ext G2).ext GF)
      have HF := Lib.hid (H.out.ext hbF)
      have HPF := Lib.hid (HP.out.ext hbF)
      have HBF := Lib.hid hbF
      have HXw := Lib.hid hXw
      clear hTT G1 G2 GF E1 E2 hcX hrT e66 e5b e5c h5 h6 hκ hrec hbF hX p0 d0 d1 d2 d3
      by_cases h0 : Ew = 0
      · have hl := HR.out
        unfold dvMark at hl
        rw [if_neg (by rw [Hoff.out]; decide), if_neg (by rw [← HEw.out, h0]; decide)] at hl
        obtain ⟨⟨r, s1⟩, hsp⟩ : ∃ x, x = s.spend := ⟨_, rfl⟩
        rw [← hsp] at hl
        have Hsp := Lib.hid hsp.symm
        have HMl : Hid (Mw = M.lay p ⟨2, [], false⟩) := Lib.hid (by rw [HMw.out, if_neg (by rw [← HEw.out, h0]; decide)])
        rw [← HMl.out] at hl
        have Hl := Lib.hid hl
        subst h0
        clear hl hsp HR HEw HMw HW
        obtain ⟨d0, d1, d2, d3⟩ := HF.out.cells
        have hBF : B ≤ wF.heap.size := Nat.le_trans hB HBF.out.size
        go_wp2_with fail
        refine (rpow_spend B q s wF hBF HPF.out Hsp.out).mono ?_
        rintro e wS ⟨rfl, hpS, hmS⟩
        have HPS := Lib.hid hpS
        have HS := Lib.hid (HF.out.rpf hmS)
        have HTS : Hid (TapeO wS w.heap.size X Mw aT kT cT csT) := Lib.hid ⟨hmS.keep HT.out.box fun hf => absurd hf.2 (by decide), ⟨HT.out.r.own.mod hmS fun b T hf => ⟨by rw [hf.2]; decide, by rw [hf.2]; decide⟩, HT.out.r.len, HT.out.r.pls⟩, HT.out.cap⟩
        have HMS : Hid (Mod (RVF B rd) w wS) := Lib.hid ((bmod HBF.out (RVF B rd)).trans (RPF.rvf hmS))
        have HBS := Lib.hid (Nat.le_trans HBF.out.size hmS.size)
        obtain ⟨armed, ta, tn, tc, tear, ka, kc, hq⟩ := HPS.out
        have p6 := cell_of_row _ q 6 _ _ _ hq.obj
        have hlq := heap_lt hq.obj
        obtain ⟨d0, d1, d2, d3⟩ := HS.out.cells
        have hlS := heap_lt HS.out.obj
        have hob := HS.out.obj
        obtain ⟨x0, x1⟩ := HTS.out.box.cells
        have hlX := heap_lt HTS.out.box
        have hXr : X ≠ rd := by have := HXw.out; omega
        have hw1 : IntKind.i64.wrap ((p : Int) + 1) = (p : Int) + 1 := by rw [IntKind.wrap_i64]; omega
        have hob1 := setRow_heap wS rd _ #[.pointer (some ⟨q, 0, none⟩), .int .i64 Mw.cap, .slice aT kT cT, .int .i64 (p : Int)] _ _ hob
        have hmo : Mod (fun b T => b = rd ∧ T = 63) wS (wS.setRow rd #[.pointer (some ⟨q, 0, none⟩), .int .i64 Mw.cap, .slice aT kT cT, .int .i64 (p : Int)]) := Mod.one (bsetRow (Below.refl rd _) (Nat.le_refl _) _) (fun b hb => setRow_other _ _ b _ hb) hob hob1 ⟨rfl, rfl⟩
        have HFF : Hid (RDr B (wS.setRow rd #[.pointer (some ⟨q, 0, none⟩), .int .i64 Mw.cap, .slice aT kT cT, .int .i64 (p : Int)]) rd q Mw (p : Int) aT kT cT csT) := Lib.hid (HS.out.put hmo hob1 (HTS.out.r.mono hB) HTS.out.cap)
        have HRI := Lib.hid HTS.out.r.newRow
        have HPFF := Lib.hid (HPS.out.mod hmo fun b T hf => ⟨by rw [hf.2]; decide, by rw [hf.2]; decide⟩)
        have HMFF := Lib.hid (HMS.out.trans (hmo.mono fun b T _ hf => ⟨by rw [hf.1]; exact hlow, .inr hf⟩))
        have Hsz := Lib.hid hmo.size
        have d3' := cell_of_row _ rd 3 _ _ _ hob1
        have f3' := frozen_of_row _ rd 3 _ _ hob1
        have hl3' := heap_lt hob1
        have Hob1 := Lib.hid hob1
        clear hpS hmS hq HF HPF HT hBF hmo hob1
        cases r with
        | false =>
          have hl := Hl.out
          simp only [Bool.false_eq_true, if_false] at hl
          by_cases ht : 0 ≤ s1.torn
          · rw [if_pos ht] at hl
            simp only [Prod.mk.injEq] at hl
            obtain ⟨rfl, rfl, rfl, rfl⟩ := hl
            clear Hl
            go_wp2_with (refine wpList_store_part rfl rfl 45 (.tmp 47) (.tmp 45) rfl rd 1 63 #[.pointer (some ⟨q, 0, none⟩), .int .i64 M.cap, .slice a k c, .int .i64 (p : Int)] #[.int .i64 Mw.cap, .slice aT kT cT] #[.pointer (some ⟨q, 0, none⟩), .int .i64 Mw.cap, .slice aT kT cT, .int .i64 (p : Int)] hob (by simp) rfl rfl (by kernel_rfl) (by simp [Value.oneCell']) rfl ?_)
            go_ret
            exact ⟨rfl, ⟨⟨aT, kT, cT, csT, HFF.out, HRI.out.mono fun b h => .inr ⟨h.1, Nat.lt_of_lt_of_le h.2 Hsz.out⟩⟩, HPFF.out⟩, HMFF.out⟩
          · rw [if_neg ht] at hl
            simp only [Prod.mk.injEq] at hl
            obtain ⟨rfl, rfl, rfl, rfl⟩ := hl
            clear Hl
            go_wp2_with fail
            go_ret
            exact ⟨rfl, ⟨⟨a, k, c, cs, HS.out, HZ.out.mono fun _ h => .inl h⟩, HPS.out⟩, HMS.out⟩
        | true =>
          have hl := Hl.out
          simp only [if_true, Prod.mk.injEq] at hl
          obtain ⟨rfl, rfl, rfl, rfl⟩ := hl
          have hg4 := heap_setCell_same _ rd 3 _ _ (.int .i64 ((p : Int) + 1)) Hob1.out
          have hm4 := (Mod.refl (fun b T => b = rd ∧ T = 63) (wS.setRow rd #[.pointer (some ⟨q, 0, none⟩), .int .i64 Mw.cap, .slice aT kT cT, .int .i64 (p : Int)])).setCell Hob1.out ⟨rfl, rfl⟩ 3 (.int .i64 ((p : Int) + 1))
          have HF4 := Lib.hid (HFF.out.put hm4 hg4 HFF.out.r HFF.out.cap)
          have HP4 := Lib.hid (HPFF.out.mod hm4 fun b T hf => ⟨by rw [hf.2]; decide, by rw [hf.2]; decide⟩)
          have HM4 := Lib.hid (HMFF.out.trans (hm4.mono fun b T _ hf => ⟨by rw [hf.1]; exact hlow, .inr hf⟩))
          have Hs4 := Lib.hid (Nat.le_trans Hsz.out hm4.size)
          clear Hl hg4 hm4
          go_wp2_with (refine wpList_store_part rfl rfl 45 (.tmp 47) (.tmp 45) rfl rd 1 63 #[.pointer (some ⟨q, 0, none⟩), .int .i64 M.cap, .slice a k c, .int .i64 (p : Int)] #[.int .i64 Mw.cap, .slice aT kT cT] #[.pointer (some ⟨q, 0, none⟩), .int .i64 Mw.cap, .slice aT kT cT, .int .i64 (p : Int)] hob (by simp) rfl rfl (by kernel_rfl) (by simp [Value.oneCell']) rfl ?_)
          go_ret
          exact ⟨rfl, ⟨⟨aT, kT, cT, csT, HF4.out, HRI.out.mono fun b h => .inr ⟨h.1, Nat.lt_of_lt_of_le h.2 Hs4.out⟩⟩, HP4.out⟩, HM4.out⟩
      · have hl := HR.out
        unfold dvMark at hl
        rw [if_neg (by rw [Hoff.out]; decide), if_pos (by rw [← HEw.out]; exact h0)] at hl
        simp only [Prod.mk.injEq] at hl
        obtain ⟨h1, rfl, rfl, rfl⟩ := hl
        rw [← HEw.out] at h1
        subst h1
        have h0' : (Ew != 0) = true := by simpa using h0
        have HM := Lib.hid (bmod HBF.out (RVF B rd))
        clear h0 HEw HMw HW HR
        go_wp2_with fail
        go_ret
        exact ⟨rfl, ⟨⟨a, k, c, cs, HF.out, HZ.out.mono fun _ h => .inl h⟩, HPF.out⟩, HM.out⟩

end Go.Proofs.Ytmaagkdehdmhlaa
