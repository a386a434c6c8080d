/- The page's drive's Write. -/
import Derived.Test.YtmaagkdehdmhlaaRefDrv
import Derived.Test.YtmaagkdehdmhlaaRobotExactPartU
namespace Go.Proofs.Ytmaagkdehdmhlaa
open Go.RowKit

/-- The drive's object is written, its place stays. -/
structure DRel (rd : Nat) (w1 w2 : World) : Prop where
  mod : Mod (fun b T => b = rd ∧ T = 63) w1 w2
  cell : ∀ v, w1.cell? ⟨rd, 3, none⟩ = some v → w2.cell? ⟨rd, 3, none⟩ = some v
theorem DRel.rel (rd : Nat) : Trel (DRel rd) := ⟨fun h k => ⟨h.mod.trans k.mod, fun v hv => k.cell v (h.cell v hv)⟩, fun h => ⟨bmod h _, fun v hv => (World.cell?_of_block (h.block _ (cell_lt hv))).trans hv⟩⟩
theorem DRel.set {rd : Nat} {w : World} {cs new : Array Value} (hg : w.heap[rd]? = some (.cells cs 63 (0, 0))) (h3 : new[3]? = cs[3]?) : DRel rd w (w.setRow rd new) :=
  ⟨Mod.one (bsetRow (Below.refl rd _) (Nat.le_refl _) _) (fun b hb => setRow_other _ _ b _ hb) hg (setRow_heap _ _ _ _ _ _ hg) ⟨rfl, rfl⟩, fun v hv => by
    rw [cell_of_row _ rd 3 _ _ _ hg] at hv
    rw [cell_of_row _ rd 3 _ _ _ (setRow_heap _ _ _ new _ _ hg), h3]
    exact hv⟩
/-- The drive's object with other cells. -/
theorem RDr.put {B : Nat} {w w' : World} {rd q : Nat} {M M' : Med} {at_ at' : Int} {a a' : Option Addr} {k c k' c' : Nat} {cs cs' : List CellV} (h : RDr B w rd q M at_ a k c cs) (hm : Mod (fun b T => b = rd ∧ T = 63) w w')
    (ho : w'.heap[rd]? = some (.cells #[.pointer (some ⟨q, 0, none⟩), .int .i64 M'.cap, .slice a' k' c', .int .i64 at'] 63 (0, 0))) (hr : MedR w B M' a' k' c' cs') (hc : k' ≤ c') : RDr B w' rd q M' at' a' k' c' cs' :=
  ⟨h.low, ho, ⟨hr.own.mod hm fun b T hf => ⟨by rw [hf.2]; decide, by rw [hf.2]; decide⟩, hr.len, hr.pls⟩, hc⟩

theorem write_eqP {M : Med} (hok : M.ok = true) (p : Nat) (b : List Byte) : M.write (p : Int) b = (if M.wrong (p : Int) b.length true ≠ 0 then Med.none else M.lay p ⟨1, b, false⟩, M.wrong (p : Int) b.length true) := by
  unfold Med.write
  rw [if_neg (by rw [hok]; decide)]
  by_cases h : M.wrong (p : Int) b.length true ≠ 0
  · rw [if_pos h, if_pos h]
  · rw [if_neg h, if_neg h, Int.toNat_natCast]
    congr 1
    exact (Classical.not_not.1 h).symm
theorem tear_eqP {M : Med} (hok : M.ok = true) (p : Nat) (b : List Byte) (t : Int) (h0 : M.wrong (p : Int) b.length true = 0) : M.tear (p : Int) b t = (if 0 ≤ t then M.lay p ⟨3, b.take t.toNat, false⟩ else M, 0) := by
  unfold Med.tear
  rw [if_neg (by rw [hok]; decide), if_neg (by rw [h0]; decide)]
  by_cases h : t < 0
  · rw [if_pos h, if_neg (by omega)]
  · rw [if_neg h, if_pos (by omega), Int.toNat_natCast]

set_option maxRecDepth 100000 in
set_option maxHeartbeats 8000000 in
theorem rdrv_write {B : Nat} {Z : Nat → Prop} {rd q : Nat} {M : Med} (p : Nat) (ab : Option Addr) (m cb : Nat) (l : List Byte) (s s' : PS) (E : Int) (M' : Med) (at' : Int) (w : World) (hd : RDrvP B Z w rd q M (p : Int) s) (hok : M.ok = true) (hp : p ≤ M.cells.length) (hsb : ∀ w', Mod (RVF B rd) w w' → Src w' ab (bvs l)) (hm : m = l.length) (hm2 : m ≤ 100000) (hmc : m ≤ cb) (hr : dvWrite s M p l = (E, s', M', at')) :
    Calls Try.prog 28 #[.pointer (some ⟨rd, 0, none⟩), .slice ab m cb] w fun e w' => e = .returned (.int .i64 E) ∧ RDrvP B (fun b => Z b ∨ w.heap.size ≤ b ∧ b < w'.heap.size) w' rd q M' at' s' ∧ Mod (RVF B rd) w w' := by
  obtain ⟨⟨a, k, c, cs, h, hz⟩, hpw⟩ := hd
  have hcap := (Med.ok_iff.1 hok).1
  have hk9 : k ≤ 90000 := by rw [← h.r.size]; omega
  have hp9 : (p : Int) ≤ 400 := by omega
  have HX2 : Hid (∀ x ∈ M.cells, x.data.length ≤ 256) := Lib.hid fun x hx => by
    have := (Med.ok_iff.1 hok).2 x hx
    unfold CellP.right rightC at this
    rw [decide_eq_true_eq] at this
    omega
  have H := Lib.hid h
  have HP := Lib.hid hpw
  have HZ := Lib.hid hz
  have HR := Lib.hid hr
  have Hm := Lib.hid hm
  have HSb := Lib.hid hsb
  have HSb0 := Lib.hid (hsb w (Mod.refl _ _))
  have Hok : Hid ((medOf M.cap cs).ok = true) := Lib.hid (by rw [h.r.of]; exact hok)
  have HokM := Lib.hid hok
  have Hof := Lib.hid h.r.of
  have Hx : Hid (∀ x ∈ cs, x.d.l.length ≤ 140737488355328) := Lib.hid (h.r.short fun x hx => Nat.le_trans (HX2.out x hx) (by decide))
  obtain ⟨d0, d1, d2, d3⟩ := h.cells
  have hlr := heap_lt h.obj
  have hkr : ¬ w.heap.size ≤ rd := by omega
  have hpw0 := hpw
  obtain ⟨armed, ta, tn, tc, tear, ka, kc, hq⟩ := hpw0
  have p0 := cell_of_row _ q 0 _ _ _ hq.obj
  have hB : B ≤ w.heap.size := by have := h.low; omega
  have hlow := h.low
  clear h hpw hz hr hm hq hok hsb hcap hp
  go_enter Try.func28, Try.ntmps28
  cases hoff : s.off with
  | true =>
    rw [hoff] at p0
    have hl := HR.out
    unfold dvWrite at hl
    rw [if_pos hoff] at hl
    simp only [Prod.mk.injEq] at hl
    obtain ⟨rfl, rfl, rfl, rfl⟩ := hl
    clear hoff
    go_wp2
    go_ret
    exact ⟨rfl, ⟨⟨a, k, c, cs, H.out, HZ.out.mono fun _ h => .inl h⟩, HP.out⟩, Mod.refl _ _⟩
  | false =>
    rw [hoff] at p0
    obtain ⟨⟨Mw, Ew⟩, hw⟩ : ∃ x, x = (medOf M.cap cs).write (p : Int) l := ⟨_, rfl⟩
    have hwe := hw
    rw [Hof.out, write_eqP HokM.out] at hwe
    simp only [Prod.mk.injEq] at hwe
    obtain ⟨hMw, hEw⟩ := hwe
    have HW := Lib.hid hw.symm
    have HEw := Lib.hid hEw
    have HMw := Lib.hid hMw
    have Hoff := Lib.hid hoff
    clear hw hMw hEw hoff
    go_wp2_with fail
    refine wp_region_chainF (by kernel_rfl) [14, 15] [13] (MRel.rel (fun b => w.heap.size ≤ b)) (fun h => h.size) [SpT.eq (.pointer (some ⟨rd, 0, none⟩)), SpT.eq (.pointer (some ⟨rd, 0, none⟩)), SpT.eq (.pointer (some ⟨rd, 1, none⟩)), SpT.eq (.agg #[.int .i64 M.cap, .slice a k c]), SpT.eq (.pointer (some ⟨rd, 0, none⟩)), SpT.eq (.pointer (some ⟨rd, 0, none⟩)), SpT.eq (.pointer (some ⟨rd, 3, none⟩)), SpT.eq (.int .i64 (p : Int)), SpT.eq (.slice ab m cb), ⟨AnsT w.heap.size Mw Ew, fun _ _ _ h hm => h.st _ _ _ hm⟩, ⟨AnsT w.heap.size Mw Ew, fun _ _ _ h hm => h.st _ _ _ hm⟩, ⟨AnsM w.heap.size Mw, fun _ _ _ h hm => h.st _ _ _ hm⟩, SpT.eq (.int .i64 Ew), ⟨NewV w.heap.size, fun _ _ _ h hm => h.st _ _ _ hm⟩, SpT.top, SpT.top] (by kernel_rfl) (by kernel_rfl) (by kernel_rfl) (by kernel_rfl) (by kernel_rfl) ?_ ?_
    · refine stepsM_free rfl ?_ (stepsM_free rfl ?_ (stepsM_free rfl ?_ (stepsM_free rfl ?_ (stepsM_free rfl ?_ (stepsM_free rfl ?_ (stepsM_free rfl ?_ (stepsM_free rfl ?_ (stepsM_free rfl ?_ (stepsM_free rfl ?_ (stepsM_free rfl ?_ (stepsM_free rfl ?_ (stepsM_free rfl ?_ (stepsM_free rfl ?_ (stepsM_chain rfl (stepsM_chain rfl (stepsM_nil))))))))))))))))
      · intro ρ w' E
        have e0 : ρ (.tmp 0) = .pointer (some ⟨rd, 0, none⟩) := E.out 0 rfl
        refine step_plain rfl ?_
        exact op_move (.inl rfl) e0 ⟨Below.refl _ _, trivial, rfl⟩
      · intro ρ w' E
        have e15 : ρ (.tmp 15) = .pointer (some ⟨rd, 0, none⟩) := E.pre 0 rfl rfl
        refine step_plain rfl ?_
        refine op_val (v := .pointer (some ⟨rd, 0, none⟩)) (w' := w') ?_ ⟨Below.refl _ _, trivial, rfl⟩
        have hcon := E.con
        clear E
        go_simp
      · intro ρ w' E
        have e16 : ρ (.tmp 16) = .pointer (some ⟨rd, 0, none⟩) := E.pre 1 rfl rfl
        refine step_plain rfl ?_
        refine op_val (v := .pointer (some ⟨rd, 1, none⟩)) (w' := w') ?_ ⟨Below.refl _ _, trivial, rfl⟩
        have hcon := E.con
        clear E
        go_simp
      · intro ρ w' E
        have e17 : ρ (.tmp 17) = .pointer (some ⟨rd, 1, none⟩) := E.pre 2 rfl rfl
        refine step_plain rfl ?_
        refine op_val (v := .agg #[.int .i64 M.cap, .slice a k c]) (w' := w') ?_ ⟨Below.refl _ _, trivial, rfl⟩
        have k0 : w'.cell? ⟨rd, 1, none⟩ = some (.int .i64 M.cap) := (World.cell?_of_block (w := w) (E.t.keep hlr hkr)).trans d1
        have k1 : w'.cell? ⟨rd, 2, none⟩ = some (.slice a k c) := (World.cell?_of_block (w := w) (E.t.keep hlr hkr)).trans d2
        have hcon := E.con
        clear E d1 d2 d3
        go_simp
      · intro ρ w' E
        have e0 : ρ (.tmp 0) = .pointer (some ⟨rd, 0, none⟩) := E.out 0 rfl
        refine step_plain rfl ?_
        exact op_move (.inl rfl) e0 ⟨Below.refl _ _, trivial, rfl⟩
      · intro ρ w' E
        have e19 : ρ (.tmp 19) = .pointer (some ⟨rd, 0, none⟩) := E.pre 4 rfl rfl
        refine step_plain rfl ?_
        refine op_val (v := .pointer (some ⟨rd, 0, none⟩)) (w' := w') ?_ ⟨Below.refl _ _, trivial, rfl⟩
        have hcon := E.con
        clear E
        go_simp
      · intro ρ w' E
        have e20 : ρ (.tmp 20) = .pointer (some ⟨rd, 0, none⟩) := E.pre 5 rfl rfl
        refine step_plain rfl ?_
        refine op_val (v := .pointer (some ⟨rd, 3, none⟩)) (w' := w') ?_ ⟨Below.refl _ _, trivial, rfl⟩
        have hcon := E.con
        clear E
        go_simp
      · intro ρ w' E
        have e21 : ρ (.tmp 21) = .pointer (some ⟨rd, 3, none⟩) := E.pre 6 rfl rfl
        refine step_plain rfl ?_
        refine op_val (v := .int .i64 (p : Int)) (w' := w') ?_ ⟨Below.refl _ _, trivial, rfl⟩
        have k3 : w'.cell? ⟨rd, 3, none⟩ = some (.int .i64 (p : Int)) := (World.cell?_of_block (w := w) (E.t.keep hlr hkr)).trans d3
        have hcon := E.con
        clear E d1 d2 d3
        go_simp
      · intro ρ w' E
        have e1 : ρ (.tmp 1) = .slice ab m cb := E.out 1 rfl
        refine step_plain rfl ?_
        exact op_move (.inl rfl) e1 ⟨Below.refl _ _, trivial, rfl⟩
      · intro ρ w' E
        have e18 : ρ (.tmp 18) = .agg #[.int .i64 M.cap, .slice a k c] := E.pre 3 rfl rfl
        have e22 : ρ (.tmp 22) = .int .i64 (p : Int) := E.pre 7 rfl rfl
        have e23 : ρ (.tmp 23) = .slice ab m cb := E.pre 8 rfl rfl
        refine step_plain rfl ?_
        refine op_call (f := 55) (args := #[.agg #[.int .i64 M.cap, .slice a k c], .int .i64 (p : Int), .slice ab m cb]) (w' := w') (by have hcon := E.con; have hfn := E.fn; clear E d1 d2 d3; go_simp) ?_
        refine (refwrite_any M.cap a c k cs (p : Int) ab m cb l Mw Ew w' (H.out.r.mrel E.t).mat H.out.r.len.symm hk9 Hx.out (HSb0.out.keep fun b o _ hl => E.t.keep hl (by omega)) Hm.out (by omega) Hok.out HW.out).mono ?_
        rintro e wy ⟨a5, c5, k5, cs5, rfl, hM5, hc5, hb5⟩
        exact ⟨_, rfl, hb5, trivial, ⟨a5, k5, c5, cs5, rfl, hM5.mono E.t.size, hc5⟩⟩
      · intro ρ w' E
        have p24 : (AnsT w.heap.size Mw Ew) w' (ρ (.tmp 24)) := E.pre 9 rfl rfl
        refine step_plain rfl ?_
        exact op_move (.inl rfl) rfl ⟨Below.refl _ _, trivial, p24⟩
      · intro ρ w' E
        have p14 : (AnsT w.heap.size Mw Ew) w' (ρ (.tmp 14)) := E.pre 10 rfl rfl
        refine step_plain rfl ?_
        obtain ⟨a5, k5, c5, cs5, e5, h5, hk5⟩ := p14
        refine op_val (v := .agg #[.int .i64 Mw.cap, .slice a5 k5 c5]) (w' := w') (by have hcon := E.con; clear E d1 d2 d3; go_simp) ⟨Below.refl _ _, trivial, ⟨a5, k5, c5, cs5, rfl, h5, hk5⟩⟩
      · intro ρ w' E
        have p14 : (AnsT w.heap.size Mw Ew) w' (ρ (.tmp 14)) := E.pre 10 rfl rfl
        refine step_plain rfl ?_
        refine op_val (v := .int .i64 Ew) (w' := w') ?_ ⟨Below.refl _ _, trivial, rfl⟩
        obtain ⟨a5, k5, c5, cs5, e5, _, _⟩ := p14
        have hcon := E.con
        clear E d1 d2 d3
        go_simp
      · intro ρ w' E
        refine step_plain rfl ?_
        refine op_val (v := .pointer (some ⟨w'.heap.size, 0, none⟩)) (w' := w'.alloc (.cells #[.int .i64 0, .slice none 0 0] 45)) (by have hcon := E.con; clear E d1 d2 d3; go_simp; try rfl) ⟨ext_alloc _ _, ⟨Nat.le_refl _, by rw [World.size_alloc]; exact Nat.lt_succ_self _⟩, _, rfl, E.t.size, _, heap_alloc_at _ _, rfl⟩
    · intro ρ1 w1c G1 E1 A1 R1
      have p5 : (NewV w.heap.size) w1c (ρ1 (.tmp 5)) := E1.pre 13 rfl rfl
      have p25 : (AnsM w.heap.size Mw) w1c (ρ1 (.tmp 25)) := E1.pre 11 rfl rfl
      refine step_plain rfl ?_
      obtain ⟨X, e5b, hX, cX, hcX, hsX⟩ := p5
      obtain ⟨aT, kT, cT, csT, e66, hrT, hkT⟩ := p25
      refine op_store_row rfl e5b e66 hcX (by rw [hsX]; rfl) (by kernel_rfl) (by simp [Value.oneCell']) ⟨MRel.set (K := fun b => w.heap.size ≤ b) hX hcX (by rw [hsX]; rfl), ?_⟩
      have hTT := TapeO.put Mw.cap rfl hrT hkT hcX
      intro ρ2 w2c G2 E2 A2 R2
      have e26 : ρ2 (.tmp 26) = .int .i64 Ew := E2.pre 12 rfl rfl
      refine step_plain rfl ?_
      refine op_move (.inr rfl) e26 ⟨trivial, ?_⟩
      intro σ wF GF hκ hrec
      have h6 : σ 6 = .int .i64 Ew := hκ 15 6 rfl rfl
      have e5c : ρ2 (.tmp 5) = ρ1 (.tmp 5) := R2 13 5 rfl rfl
      have h5 : σ 5 = .pointer (some ⟨X, 0, none⟩) := (hrec 13 5 rfl rfl).trans (e5c.trans e5b)
      simp only [upd, updL, dstsOf', elemB, List.filterMap_cons, List.filterMap_nil, Nat.reduceAdd, Nat.reduceBEq, Bool.or_false, Bool.false_or, Bool.or_true, Bool.true_or, cond_true, cond_false, Nat.zero_add, h5, h6]
      have hXw : w.heap.size ≤ X := hX
      have hbF := bthen (bthen (bsetRow G1 hXw #[.int .i64 Mw.cap, .slice aT kT cT]) G2 (Nat.le_refl _)) GF (Nat.le_refl _)
      have HT := Lib.hid ((hTT.ext G2).ext GF)
      have HF := Lib.hid (H.out.ext hbF)
      have HPF := Lib.hid (HP.out.ext hbF)
      have HBF := Lib.hid hbF
      have HXw := Lib.hid hXw
      clear hTT G1 G2 GF E1 E2 hcX hrT e66 e5b e5c h5 h6 hκ hrec hbF hX p0 d0 d1 d2 d3
      by_cases h0 : Ew = 0
      · have hl := HR.out
        unfold dvWrite at hl
        rw [if_neg (by rw [Hoff.out]; decide), if_neg (by rw [← HEw.out, h0]; decide)] at hl
        obtain ⟨⟨r, s1⟩, hsp⟩ : ∃ x, x = s.spend := ⟨_, rfl⟩
        rw [← hsp] at hl
        have Hl := Lib.hid hl
        have Hsp := Lib.hid hsp.symm
        have HW0 : Hid (M.wrong (p : Int) l.length true = 0) := Lib.hid (by rw [← HEw.out, h0])
        have HMl : Hid (Mw = M.lay p ⟨1, l, false⟩) := Lib.hid (by rw [HMw.out, if_neg (by rw [HW0.out]; decide)])
        subst h0
        clear hl hsp HR HEw HMw HW
        obtain ⟨d0, d1, d2, d3⟩ := HF.out.cells
        have hBF : B ≤ wF.heap.size := Nat.le_trans hB HBF.out.size
        go_wp2_with fail
        refine (rpow_spend B q s wF hBF HPF.out Hsp.out).mono ?_
        rintro e wS ⟨rfl, hpS, hmS⟩
        have HPS := Lib.hid hpS
        have HS := Lib.hid (HF.out.rpf hmS)
        have HTS : Hid (TapeO wS w.heap.size X Mw aT kT cT csT) := Lib.hid ⟨hmS.keep HT.out.box fun hf => absurd hf.2 (by decide), ⟨HT.out.r.own.mod hmS fun b T hf => ⟨by rw [hf.2]; decide, by rw [hf.2]; decide⟩, HT.out.r.len, HT.out.r.pls⟩, HT.out.cap⟩
        have hBw : B ≤ w.heap.size := hB
        have HMS : Hid (Mod (RVF B rd) w wS) := Lib.hid ((bmod HBF.out (RVF B rd)).trans (RPF.rvf hmS))
        have HsbS := Lib.hid (HSb.out wS HMS.out)
        have HBS := Lib.hid (Nat.le_trans HBF.out.size hmS.size)
        obtain ⟨armed, ta, tn, tc, tear, ka, kc, hq⟩ := HPS.out
        have p6 := cell_of_row _ q 6 _ _ _ hq.obj
        have hlq := heap_lt hq.obj
        obtain ⟨d0, d1, d2, d3⟩ := HS.out.cells
        have hlS := heap_lt HS.out.obj
        clear hpS hmS hq HF HPF HT hBF
        cases r with
        | false =>
          have hl := Hl.out
          simp only [Bool.false_eq_true, if_false] at hl
          obtain ⟨⟨Mt, Et⟩, hmt⟩ : ∃ x, x = (medOf M.cap cs).tear (p : Int) l s1.torn := ⟨_, rfl⟩
          have hmt2 := hmt
          rw [Hof.out, tear_eqP HokM.out p l s1.torn HW0.out] at hmt2
          simp only [Prod.mk.injEq] at hmt2
          obtain ⟨hMt, rfl⟩ := hmt2
          have HMt := Lib.hid hmt.symm
          have hfin : E = 5 ∧ s' = s1 ∧ M' = Mt ∧ at' = (p : Int) := by
            rw [hMt]
            by_cases ht : 0 ≤ s1.torn
            · rw [if_pos ht] at hl ⊢
              simp only [Prod.mk.injEq] at hl
              exact ⟨hl.1.symm, hl.2.1.symm, hl.2.2.1.symm, hl.2.2.2.symm⟩
            · rw [if_neg ht] at hl ⊢
              simp only [Prod.mk.injEq] at hl
              exact ⟨hl.1.symm, hl.2.1.symm, hl.2.2.1.symm, hl.2.2.2.symm⟩
          obtain ⟨rfl, rfl, rfl, rfl⟩ := hfin
          have Hcap : Hid (M'.cap = M.cap) := Lib.hid (by rw [hMt]; split <;> rfl)
          clear hl hmt hMt Hl
          go_wp2_with fail
          refine wp_region_lastf (by kernel_rfl) [20] [Sp.eq (.pointer (some ⟨rd, 0, none⟩)), Sp.eq (.pointer (some ⟨rd, 0, none⟩)), Sp.eq (.pointer (some ⟨rd, 0, none⟩)), Sp.eq (.pointer (some ⟨rd, 1, none⟩)), Sp.eq (.agg #[.int .i64 M.cap, .slice a k c]), Sp.eq (.pointer (some ⟨rd, 0, none⟩)), Sp.eq (.pointer (some ⟨rd, 0, none⟩)), Sp.eq (.pointer (some ⟨rd, 3, none⟩)), Sp.eq (.int .i64 (p : Int)), Sp.eq (.slice ab m cb), Sp.eq (.pointer (some ⟨rd, 0, none⟩)), Sp.eq (.pointer (some ⟨rd, 0, none⟩)), Sp.eq (.pointer (some ⟨rd, 0, none⟩)), Sp.eq (.pointer (some ⟨q, 0, none⟩)), Sp.eq (.pointer (some ⟨q, 0, none⟩)), Sp.eq (.pointer (some ⟨q, 6, none⟩)), Sp.eq (.int .i64 s'.torn), ⟨AnsT wS.heap.size M' 0, fun _ _ _ h hb => h.st _ _ _ (Trel.of (MRel.rel fun b => wS.heap.size ≤ b) hb)⟩, ⟨AnsT wS.heap.size M' 0, fun _ _ _ h hb => h.st _ _ _ (Trel.of (MRel.rel fun b => wS.heap.size ≤ b) hb)⟩, ⟨AnsM wS.heap.size M', fun _ _ _ h hb => h.st _ _ _ (Trel.of (MRel.rel fun b => wS.heap.size ≤ b) hb)⟩, Sp.eq (.int .i64 0), Sp.eq (.pointer (some ⟨rd, 0, none⟩)), Sp.eq (.pointer (some ⟨rd, 1, none⟩))] (by kernel_rfl) (by kernel_rfl) (by kernel_rfl) ?_ ?_ ?_
          · refine stepsG_cons ?_ (stepsG_cons ?_ (stepsG_cons ?_ (stepsG_cons ?_ (stepsG_cons ?_ (stepsG_cons ?_ (stepsG_cons ?_ (stepsG_cons ?_ (stepsG_cons ?_ (stepsG_cons ?_ (stepsG_cons ?_ (stepsG_cons ?_ (stepsG_cons ?_ (stepsG_cons ?_ (stepsG_cons ?_ (stepsG_cons ?_ (stepsG_cons ?_ (stepsG_cons ?_ (stepsG_cons ?_ (stepsG_cons ?_ (stepsG_cons ?_ (stepsG_cons ?_ (stepsG_cons ?_ (stepsG_nil)))))))))))))))))))))))
            · intro ρ w' E
              have e0 : ρ (.tmp 0) = .pointer (some ⟨rd, 0, none⟩) := E.out 0 rfl
              refine step_plain rfl ?_
              exact op_move (.inl rfl) e0 ⟨Below.refl _ _, rfl⟩
            · intro ρ w' E
              have e0 : ρ (.tmp 0) = .pointer (some ⟨rd, 0, none⟩) := E.out 0 rfl
              refine step_plain rfl ?_
              exact op_move (.inl rfl) e0 ⟨Below.refl _ _, rfl⟩
            · intro ρ w' E
              have e38 : ρ (.tmp 38) = .pointer (some ⟨rd, 0, none⟩) := E.pre 1 rfl rfl
              refine step_plain rfl ?_
              refine op_val (v := .pointer (some ⟨rd, 0, none⟩)) (w' := w') ?_ ⟨Below.refl _ _, rfl⟩
              have hcon := E.con
              clear E
              go_simp
            · intro ρ w' E
              have e39 : ρ (.tmp 39) = .pointer (some ⟨rd, 0, none⟩) := E.pre 2 rfl rfl
              refine step_plain rfl ?_
              refine op_val (v := .pointer (some ⟨rd, 1, none⟩)) (w' := w') ?_ ⟨Below.refl _ _, rfl⟩
              have hcon := E.con
              clear E
              go_simp
            · intro ρ w' E
              have e40 : ρ (.tmp 40) = .pointer (some ⟨rd, 1, none⟩) := E.pre 3 rfl rfl
              refine step_plain rfl ?_
              refine op_val (v := .agg #[.int .i64 M.cap, .slice a k c]) (w' := w') ?_ ⟨Below.refl _ _, rfl⟩
              have k0 := (World.cell?_of_block (w := wS) (E.below.block _ hlS)).trans d1
              have k1 := (World.cell?_of_block (w := wS) (E.below.block _ hlS)).trans d2
              have hcon := E.con
              clear E
              go_simp
            · intro ρ w' E
              have e0 : ρ (.tmp 0) = .pointer (some ⟨rd, 0, none⟩) := E.out 0 rfl
              refine step_plain rfl ?_
              exact op_move (.inl rfl) e0 ⟨Below.refl _ _, rfl⟩
            · intro ρ w' E
              have e42 : ρ (.tmp 42) = .pointer (some ⟨rd, 0, none⟩) := E.pre 5 rfl rfl
              refine step_plain rfl ?_
              refine op_val (v := .pointer (some ⟨rd, 0, none⟩)) (w' := w') ?_ ⟨Below.refl _ _, rfl⟩
              have hcon := E.con
              clear E
              go_simp
            · intro ρ w' E
              have e43 : ρ (.tmp 43) = .pointer (some ⟨rd, 0, none⟩) := E.pre 6 rfl rfl
              refine step_plain rfl ?_
              refine op_val (v := .pointer (some ⟨rd, 3, none⟩)) (w' := w') ?_ ⟨Below.refl _ _, rfl⟩
              have hcon := E.con
              clear E
              go_simp
            · intro ρ w' E
              have e44 : ρ (.tmp 44) = .pointer (some ⟨rd, 3, none⟩) := E.pre 7 rfl rfl
              refine step_plain rfl ?_
              refine op_val (v := .int .i64 (p : Int)) (w' := w') ?_ ⟨Below.refl _ _, rfl⟩
              have hk := (World.cell?_of_block (w := wS) (E.below.block _ hlS)).trans d3
              have hcon := E.con
              clear E
              go_simp
            · intro ρ w' E
              have e1 : ρ (.tmp 1) = .slice ab m cb := E.out 1 rfl
              refine step_plain rfl ?_
              exact op_move (.inl rfl) e1 ⟨Below.refl _ _, rfl⟩
            · intro ρ w' E
              have e0 : ρ (.tmp 0) = .pointer (some ⟨rd, 0, none⟩) := E.out 0 rfl
              refine step_plain rfl ?_
              exact op_move (.inl rfl) e0 ⟨Below.refl _ _, rfl⟩
            · intro ρ w' E
              have e47 : ρ (.tmp 47) = .pointer (some ⟨rd, 0, none⟩) := E.pre 10 rfl rfl
              refine step_plain rfl ?_
              refine op_val (v := .pointer (some ⟨rd, 0, none⟩)) (w' := w') ?_ ⟨Below.refl _ _, rfl⟩
              have hcon := E.con
              clear E
              go_simp
            · intro ρ w' E
              have e48 : ρ (.tmp 48) = .pointer (some ⟨rd, 0, none⟩) := E.pre 11 rfl rfl
              refine step_plain rfl ?_
              refine op_val (v := .pointer (some ⟨rd, 0, none⟩)) (w' := w') ?_ ⟨Below.refl _ _, rfl⟩
              have hcon := E.con
              clear E
              go_simp
            · intro ρ w' E
              have e49 : ρ (.tmp 49) = .pointer (some ⟨rd, 0, none⟩) := E.pre 12 rfl rfl
              refine step_plain rfl ?_
              refine op_val (v := .pointer (some ⟨q, 0, none⟩)) (w' := w') ?_ ⟨Below.refl _ _, rfl⟩
              have hk := (World.cell?_of_block (w := wS) (E.below.block _ hlS)).trans d0
              have hcon := E.con
              clear E
              go_simp
            · intro ρ w' E
              have e50 : ρ (.tmp 50) = .pointer (some ⟨q, 0, none⟩) := E.pre 13 rfl rfl
              refine step_plain rfl ?_
              refine op_val (v := .pointer (some ⟨q, 0, none⟩)) (w' := w') ?_ ⟨Below.refl _ _, rfl⟩
              have hcon := E.con
              clear E
              go_simp
            · intro ρ w' E
              have e51 : ρ (.tmp 51) = .pointer (some ⟨q, 0, none⟩) := E.pre 14 rfl rfl
              refine step_plain rfl ?_
              refine op_val (v := .pointer (some ⟨q, 6, none⟩)) (w' := w') ?_ ⟨Below.refl _ _, rfl⟩
              have hcon := E.con
              clear E
              go_simp
            · intro ρ w' E
              have e52 : ρ (.tmp 52) = .pointer (some ⟨q, 6, none⟩) := E.pre 15 rfl rfl
              refine step_plain rfl ?_
              refine op_val (v := .int .i64 s'.torn) (w' := w') ?_ ⟨Below.refl _ _, rfl⟩
              have hk := (World.cell?_of_block (w := wS) (E.below.block _ hlq)).trans p6
              have hcon := E.con
              clear E
              go_simp
            · intro ρ w' E
              have e41 : ρ (.tmp 41) = .agg #[.int .i64 M.cap, .slice a k c] := E.pre 4 rfl rfl
              have e45 : ρ (.tmp 45) = .int .i64 (p : Int) := E.pre 8 rfl rfl
              have e46 : ρ (.tmp 46) = .slice ab m cb := E.pre 9 rfl rfl
              have e53 : ρ (.tmp 53) = .int .i64 s'.torn := E.pre 16 rfl rfl
              refine step_plain rfl ?_
              refine op_call (f := 57) (args := #[.agg #[.int .i64 M.cap, .slice a k c], .int .i64 (p : Int), .slice ab m cb, .int .i64 s'.torn]) (w' := w') (by have hcon := E.con; have hfn := E.fn; clear E; go_simp) ?_
              refine (reftear_any M.cap a c k cs (p : Int) ab m cb l s'.torn M' 0 w' (HS.out.r.ext E.below).mat HS.out.r.len.symm hk9 Hx.out (HsbS.out.ext E.below) Hm.out (by omega) hmc Hok.out HMt.out).mono ?_
              rintro e wy ⟨a5, c5, k5, cs5, rfl, hM5, hc5, hb5⟩
              exact ⟨_, rfl, hb5, ⟨a5, k5, c5, cs5, rfl, hM5.mono E.below.size, hc5⟩⟩
            · intro ρ w' E
              have p54 : (AnsT wS.heap.size M' 0) w' (ρ (.tmp 54)) := E.pre 17 rfl rfl
              refine step_plain rfl ?_
              exact op_move (.inl rfl) rfl ⟨Below.refl _ _, p54⟩
            · intro ρ w' E
              have p36 : (AnsT wS.heap.size M' 0) w' (ρ (.tmp 36)) := E.pre 18 rfl rfl
              refine step_plain rfl ?_
              obtain ⟨a5, k5, c5, cs5, e5, h5, hk5⟩ := p36
              refine op_val (v := .agg #[.int .i64 M'.cap, .slice a5 k5 c5]) (w' := w') (by have hcon := E.con; clear E; go_simp) ⟨Below.refl _ _, ⟨a5, k5, c5, cs5, rfl, h5, hk5⟩⟩
            · intro ρ w' E
              have p36 : (AnsT wS.heap.size M' 0) w' (ρ (.tmp 36)) := E.pre 18 rfl rfl
              refine step_plain rfl ?_
              refine op_val (v := .int .i64 0) (w' := w') ?_ ⟨Below.refl _ _, rfl⟩
              obtain ⟨a5, k5, c5, cs5, e5, _, _⟩ := p36
              have hcon := E.con
              clear E
              go_simp
            · intro ρ w' E
              have e37 : ρ (.tmp 37) = .pointer (some ⟨rd, 0, none⟩) := E.pre 0 rfl rfl
              refine step_plain rfl ?_
              refine op_val (v := .pointer (some ⟨rd, 0, none⟩)) (w' := w') ?_ ⟨Below.refl _ _, rfl⟩
              have hcon := E.con
              clear E
              go_simp
            · intro ρ w' E
              have e57 : ρ (.tmp 57) = .pointer (some ⟨rd, 0, none⟩) := E.pre 21 rfl rfl
              refine step_plain rfl ?_
              refine op_val (v := .pointer (some ⟨rd, 1, none⟩)) (w' := w') ?_ ⟨Below.refl _ _, rfl⟩
              have hcon := E.con
              clear E
              go_simp
          · intro i hi o ho ρ w' hp
            obtain rfl : i = 20 := by simpa [elemB] using hi
            obtain rfl := Option.some.inj ho
            obtain ⟨w1, p36⟩ : ∃ w1, (AnsT wS.heap.size M' 0) w1 (ρ (.tmp 36)) := hp 18 rfl
            refine step_plain rfl ?_
            obtain ⟨a5, k5, c5, cs5, e5, _, _⟩ := p36
            refine op_val (v := .int .i64 0) (w' := w') (by clear hp; go_simp) rfl
          · intro o1 ho1 σ1 ρ1 w1c E1 H1
            obtain rfl := Option.some.inj ho1
            have e58 : ρ1 (.tmp 58) = .pointer (some ⟨rd, 1, none⟩) := E1.pre 22 rfl rfl
            have p55 : (AnsM wS.heap.size M') w1c (ρ1 (.tmp 55)) := E1.pre 19 rfl rfl
            refine step_plain rfl ?_
            obtain ⟨aT, kT, cT, csT, e66, hrT, hkT⟩ := p55
            have hob := (E1.below.block rd hlS).trans HS.out.obj
            refine op_store_part rfl e58 e66 hob (by simp) (by kernel_rfl) (by simp [Value.oneCell']) rfl ?_
            intro σF hσF
            have hob1 := setRow_heap w1c rd _ #[.pointer (some ⟨q, 0, none⟩), .int .i64 M'.cap, .slice aT kT cT, .int .i64 (p : Int)] _ _ hob
            have hmo : Mod (fun b T => b = rd ∧ T = 63) w1c (w1c.setRow rd #[.pointer (some ⟨q, 0, none⟩), .int .i64 M'.cap, .slice aT kT cT, .int .i64 (p : Int)]) := Mod.one (bsetRow (Below.refl rd _) (Nat.le_refl _) _) (fun b hb => setRow_other _ _ b _ hb) hob hob1 ⟨rfl, rfl⟩
            have HFF : Hid (RDr B _ rd q M' (p : Int) aT kT cT csT) := Lib.hid ((HS.out.ext E1.below).put hmo hob1 (hrT.mono (Nat.le_trans hB HBS.out)) hkT)
            have hnr := hrT.newRow
            have HRI : Hid (RowsIn (fun b => Z b ∨ w.heap.size ≤ b ∧ b < (w1c.setRow rd #[.pointer (some ⟨q, 0, none⟩), .int .i64 M'.cap, .slice aT kT cT, .int .i64 (p : Int)]).heap.size) aT kT cT csT) := Lib.hid (hnr.mono fun b h => .inr ⟨Nat.le_trans HBS.out h.1, Nat.lt_of_lt_of_le h.2 hmo.size⟩)
            have HPFF := Lib.hid ((HPS.out.ext E1.below).mod hmo fun b T hf => ⟨by rw [hf.2]; decide, by rw [hf.2]; decide⟩)
            have HMFF := Lib.hid ((HMS.out.ext E1.below).trans (hmo.mono fun b T _ hf => ⟨by rw [hf.1]; exact hlow, .inr hf⟩))
            clear hob hob1 hmo hrT hnr e66 e58 E1 H1 hσF
            simp only [upd, updL, dstsOf', elemB, List.filterMap_cons, List.filterMap_nil, Nat.reduceAdd, Nat.reduceBEq, Bool.or_false, Bool.false_or, Bool.or_true, Bool.true_or, cond_true, cond_false, Nat.zero_add]
            go_wp2_with fail
            go_ret
            exact ⟨rfl, ⟨⟨aT, kT, cT, csT, HFF.out, HRI.out⟩, HPFF.out⟩, HMFF.out⟩
        | true =>
          have hl := Hl.out
          simp only [if_true, Prod.mk.injEq] at hl
          obtain ⟨rfl, rfl, h3, rfl⟩ := hl
          have HM' : Hid (Mw = M') := Lib.hid (HMl.out.trans h3)
          obtain ⟨x0, x1⟩ := HTS.out.box.cells
          have HX := Lib.hid HTS.out.box
          have hlX := heap_lt HTS.out.box
          have hw1 : IntKind.i64.wrap ((p : Int) + 1) = (p : Int) + 1 := by rw [IntKind.wrap_i64]; omega
          have hXr : X ≠ rd := by have := HXw.out; omega
          clear h3 Hl
          go_wp2_with fail
          refine wp_region_chainL (by kernel_rfl) [10, 13] (DRel.rel rd) [SpT.eq (.pointer (some ⟨rd, 0, none⟩)), SpT.eq (.pointer (some ⟨rd, 0, none⟩)), SpT.eq (.agg #[.int .i64 Mw.cap, .slice aT kT cT]), SpT.eq (.pointer (some ⟨rd, 0, none⟩)), SpT.eq (.pointer (some ⟨rd, 0, none⟩)), SpT.eq (.pointer (some ⟨rd, 3, none⟩)), SpT.eq (.int .i64 (p : Int)), SpT.eq (.int .i64 ((p : Int) + 1)), SpT.eq (.pointer (some ⟨rd, 0, none⟩)), SpT.eq (.pointer (some ⟨rd, 1, none⟩)), SpT.top, SpT.eq (.pointer (some ⟨rd, 0, none⟩)), SpT.eq (.pointer (some ⟨rd, 3, none⟩)), SpT.top] (by kernel_rfl) (by kernel_rfl) (by kernel_rfl) (by kernel_rfl) ?_ ?_
          · refine stepsL_free rfl ?_ (stepsL_free rfl ?_ (stepsL_free rfl ?_ (stepsL_free rfl ?_ (stepsL_free rfl ?_ (stepsL_free rfl ?_ (stepsL_free rfl ?_ (stepsL_free rfl ?_ (stepsL_free rfl ?_ (stepsL_free rfl ?_ (stepsL_chain rfl (stepsL_free rfl ?_ (stepsL_free rfl ?_ (stepsL_chain rfl (stepsL_nil))))))))))))))
            · intro ρ w' E
              have e0 : ρ (.tmp 0) = .pointer (some ⟨rd, 0, none⟩) := E.out 0 rfl
              refine step_plain rfl ?_
              exact op_move (.inl rfl) e0 ⟨Below.refl _ _, rfl⟩
            · intro ρ w' E
              have e0 : ρ (.tmp 0) = .pointer (some ⟨rd, 0, none⟩) := E.out 0 rfl
              refine step_plain rfl ?_
              exact op_move (.inl rfl) e0 ⟨Below.refl _ _, rfl⟩
            · intro ρ w' E
              have e5 : ρ (.tmp 5) = .pointer (some ⟨X, 0, none⟩) := E.out 5 rfl
              refine step_plain rfl ?_
              refine op_val (v := .agg #[.int .i64 Mw.cap, .slice aT kT cT]) (w' := w') ?_ ⟨Below.refl _ _, rfl⟩
              have k0 : w'.cell? ⟨X, 0, none⟩ = some (.int .i64 Mw.cap) := (World.cell?_of_block (w := wS) ((E.t.mod.keep HX.out (fun hf => absurd hf.2 (by decide))).trans HX.out.symm)).trans x0
              have k1 : w'.cell? ⟨X, 1, none⟩ = some (.slice aT kT cT) := (World.cell?_of_block (w := wS) ((E.t.mod.keep HX.out (fun hf => absurd hf.2 (by decide))).trans HX.out.symm)).trans x1
              have hcon := E.con
              clear E
              go_simp
            · intro ρ w' E
              have e0 : ρ (.tmp 0) = .pointer (some ⟨rd, 0, none⟩) := E.out 0 rfl
              refine step_plain rfl ?_
              exact op_move (.inl rfl) e0 ⟨Below.refl _ _, rfl⟩
            · intro ρ w' E
              have e62 : ρ (.tmp 62) = .pointer (some ⟨rd, 0, none⟩) := E.pre 3 rfl rfl
              refine step_plain rfl ?_
              refine op_val (v := .pointer (some ⟨rd, 0, none⟩)) (w' := w') ?_ ⟨Below.refl _ _, rfl⟩
              have hcon := E.con
              clear E
              go_simp
            · intro ρ w' E
              have e63 : ρ (.tmp 63) = .pointer (some ⟨rd, 0, none⟩) := E.pre 4 rfl rfl
              refine step_plain rfl ?_
              refine op_val (v := .pointer (some ⟨rd, 3, none⟩)) (w' := w') ?_ ⟨Below.refl _ _, rfl⟩
              have hcon := E.con
              clear E
              go_simp
            · intro ρ w' E
              have e64 : ρ (.tmp 64) = .pointer (some ⟨rd, 3, none⟩) := E.pre 5 rfl rfl
              refine step_plain rfl ?_
              refine op_val (v := .int .i64 (p : Int)) (w' := w') ?_ ⟨Below.refl _ _, rfl⟩
              have k3 : w'.cell? ⟨rd, 3, none⟩ = some (.int .i64 (p : Int)) := E.t.cell _ d3
              have hcon := E.con
              clear E
              go_simp
            · intro ρ w' E
              have e65 : ρ (.tmp 65) = .int .i64 (p : Int) := E.pre 6 rfl rfl
              refine step_plain rfl ?_
              refine op_val (v := .int .i64 ((p : Int) + 1)) (w' := w') ?_ ⟨Below.refl _ _, rfl⟩
              have hw := hw1
              have hcon := E.con
              clear E
              go_simp
            · intro ρ w' E
              have e59 : ρ (.tmp 59) = .pointer (some ⟨rd, 0, none⟩) := E.pre 0 rfl rfl
              refine step_plain rfl ?_
              refine op_val (v := .pointer (some ⟨rd, 0, none⟩)) (w' := w') ?_ ⟨Below.refl _ _, rfl⟩
              have hcon := E.con
              clear E
              go_simp
            · intro ρ w' E
              have e67 : ρ (.tmp 67) = .pointer (some ⟨rd, 0, none⟩) := E.pre 8 rfl rfl
              refine step_plain rfl ?_
              refine op_val (v := .pointer (some ⟨rd, 1, none⟩)) (w' := w') ?_ ⟨Below.refl _ _, rfl⟩
              have hcon := E.con
              clear E
              go_simp
            · intro ρ w' E
              have e60 : ρ (.tmp 60) = .pointer (some ⟨rd, 0, none⟩) := E.pre 1 rfl rfl
              refine step_plain rfl ?_
              refine op_val (v := .pointer (some ⟨rd, 0, none⟩)) (w' := w') ?_ ⟨Below.refl _ _, rfl⟩
              have hcon := E.con
              clear E
              go_simp
            · intro ρ w' E
              have e69 : ρ (.tmp 69) = .pointer (some ⟨rd, 0, none⟩) := E.pre 11 rfl rfl
              refine step_plain rfl ?_
              refine op_val (v := .pointer (some ⟨rd, 3, none⟩)) (w' := w') ?_ ⟨Below.refl _ _, rfl⟩
              have hcon := E.con
              clear E
              go_simp
          · intro ρ1 w1c G1 E1
            have e68 : ρ1 (.tmp 68) = .pointer (some ⟨rd, 1, none⟩) := E1.pre 9 rfl rfl
            have e61 : ρ1 (.tmp 61) = .agg #[.int .i64 Mw.cap, .slice aT kT cT] := E1.pre 2 rfl rfl
            refine step_plain rfl ?_
            have hob := (G1.block rd hlS).trans HS.out.obj
            refine op_store_part (new := #[.pointer (some ⟨q, 0, none⟩), .int .i64 Mw.cap, .slice aT kT cT, .int .i64 (p : Int)]) rfl e68 e61 hob (by simp) (by kernel_rfl) (by simp [Value.oneCell']) rfl ⟨DRel.set hob rfl, ?_⟩
            have hob1 := setRow_heap w1c rd _ #[.pointer (some ⟨q, 0, none⟩), .int .i64 Mw.cap, .slice aT kT cT, .int .i64 (p : Int)] _ _ hob
            intro ρ2 w2c G2 E2
            have e70 : ρ2 (.tmp 70) = .pointer (some ⟨rd, 3, none⟩) := E2.pre 12 rfl rfl
            have e66 : ρ2 (.tmp 66) = .int .i64 ((p : Int) + 1) := E2.pre 7 rfl rfl
            refine step_plain rfl ?_
            have hob2 := (G2.block rd (heap_lt hob1)).trans hob1
            have k3 : w2c.cell? ⟨rd, 3, none⟩ = some (.int .i64 (p : Int)) := cell_of_row _ rd 3 _ _ _ hob2
            refine op_store rfl e70 e66 rfl k3 (frozen_of_row _ rd 3 _ _ hob2) (by kernel_rfl) ⟨trivial, ?_⟩
            intro σF2 wG GG hκ2
            clear hκ2
            simp only [upd, updL, dstsOf', elemB, List.filterMap_cons, List.filterMap_nil, Nat.reduceAdd, Nat.reduceBEq, Bool.or_false, Bool.false_or, Bool.or_true, Bool.true_or, cond_true, cond_false, Nat.zero_add]
            have hob3 := heap_setCell_same w2c rd 3 _ _ (.int .i64 ((p : Int) + 1)) hob2
            have hobG := (GG.block rd (heap_lt hob3)).trans hob3
            have hm1 : Mod (fun b T => b = rd ∧ T = 63) w1c (w1c.setRow rd #[.pointer (some ⟨q, 0, none⟩), .int .i64 Mw.cap, .slice aT kT cT, .int .i64 (p : Int)]) := Mod.one (bsetRow (Below.refl rd _) (Nat.le_refl _) _) (fun b hb => setRow_other _ _ b _ hb) hob hob1 ⟨rfl, rfl⟩
            have hmo : Mod (fun b T => b = rd ∧ T = 63) wS wG := ((((bmod G1 _).trans hm1).ext G2).trans ((Mod.refl _ _).setCell hob2 ⟨rfl, rfl⟩ 3 (.int .i64 ((p : Int) + 1)))).ext GG
            have hrG : MedR wG w.heap.size Mw aT kT cT csT := ⟨HTS.out.r.own.mod hmo fun b T hf => ⟨by rw [hf.2]; decide, by rw [hf.2]; decide⟩, HTS.out.r.len, HTS.out.r.pls⟩
            have hrS := HTS.out.r.newRow
            have HFF : Hid (RDr B wG rd q M' ((p : Int) + 1) aT kT cT csT) := Lib.hid (by rw [← HM'.out]; exact ⟨hlow, hobG, hrG.mono hB, HTS.out.cap⟩)
            have HRI : Hid (RowsIn (fun b => Z b ∨ w.heap.size ≤ b ∧ b < wG.heap.size) aT kT cT csT) := Lib.hid (hrS.mono fun b h => .inr ⟨h.1, Nat.lt_of_lt_of_le h.2 hmo.size⟩)
            have HPFF := Lib.hid (HPS.out.mod hmo fun b T hf => ⟨by rw [hf.2]; decide, by rw [hf.2]; decide⟩)
            have HMFF := Lib.hid (HMS.out.trans (hmo.mono fun b T _ hf => ⟨by rw [hf.1]; exact hlow, .inr hf⟩))
            clear hob hob1 hob2 hob3 hobG hm1 hmo hrG hrS G1 G2 GG E1 E2 x0 x1 d0 d1 d2 d3
            go_wp2_with fail
            go_ret
            exact ⟨rfl, ⟨⟨aT, kT, cT, csT, HFF.out, HRI.out⟩, HPFF.out⟩, HMFF.out⟩
      · have hl := HR.out
        unfold dvWrite at hl
        rw [if_neg (by rw [Hoff.out]; decide), if_pos (by rw [← HEw.out]; exact h0)] at hl
        simp only [Prod.mk.injEq] at hl
        obtain ⟨h1, rfl, rfl, rfl⟩ := hl
        rw [← HEw.out] at h1
        subst h1
        have h0' : (Ew != 0) = true := by simpa using h0
        have HM := Lib.hid (bmod HBF.out (RVF B rd))
        clear h0 HEw HMw HW HR
        go_wp2_with fail
        go_ret
        exact ⟨rfl, ⟨⟨a, k, c, cs, HF.out, HZ.out.mono fun _ h => .inl h⟩, HPF.out⟩, HM.out⟩
end Go.Proofs.Ytmaagkdehdmhlaa
