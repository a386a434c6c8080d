/- disk.Erase, disk.New. -/
import Derived.Test.YtclkkhpnnbkfmaaDiskR
import Derived.Test.YtclkkhpnnbkfmaaRegionChainF
namespace Go.Proofs.Ytclkkhpnnbkfmaa
open Go.RowKit
variable {R : Nat}

set_option maxRecDepth 100000 in
set_option maxHeartbeats 4000000 in
theorem disk_erase (K : Nat → Prop) (B g pg n : Nat) (d : DS) (p : PS) (w : World) (hd : DiskAt K B w g pg d) (hp : Pow R B w pg p) (hok : d.ok n) (hn : n ≤ 100000) (hnpos : 0 < n) (hB : B ≤ w.heap.size) (hm : d.pend.length ≤ 100000) :
    Calls Try.prog 65 #[.pointer (some ⟨g, 0, none⟩)] w fun e w' => e = .returned (.int .i64 (d.erase p).1) ∧ DiskAt K B w' g pg (d.erase p).2 ∧ Pow R B w' pg p ∧ Mod (DF B) w w' := by
  have HA := Lib.hid (disk_awake K B g pg n d p w hd hp hok hn hnpos hB hm)
  obtain ⟨i2, hi, hz0, hz1, hz2⟩ := info_parts infoSector
  cases hoff : p.off with
  | true =>
    have hr : d.erase p = (5, d) := by unfold DS.erase; rw [hoff]; rfl
    have hw : d.wake p = d := by unfold DS.wake; rw [if_pos (.inl hoff)]
    rw [hr]
    rw [hoff, hw] at HA
    clear hd hp hok hm hoff hr hw
    go_enter Try.func65, Try.ntmps65
    go_wp2_with fail
    refine HA.out.mono ?_
    rintro e w1 ⟨rfl, hd1, hp1, hb1⟩
    have Hd1 := Lib.hid hd1
    clear hd1
    go_wp2
    go_ret
    exact ⟨rfl, Hd1.out, hp1, hb1⟩
  | false =>
    have HR := Lib.hid (show d.erase p = (0, ⟨(d.wake p).life, List.replicate n Sec.nought, List.replicate n Sec.nought, []⟩) by unfold DS.erase; rw [hoff, hok.safe]; rfl)
    rw [hoff] at HA
    have hw := hok.wake p
    rw [HR.out]
    clear hd hp hok hm hoff HR
    generalize d.wake p = d1 at *
    have Hok := Lib.hid hw
    clear hw
    go_enter Try.func65, Try.ntmps65
    go_wp2_with fail
    refine HA.out.mono ?_
    rintro e w1 ⟨rfl, hd1, hp1, hb1⟩
    have Hp1 := Lib.hid hp1
    have Hb1 := Lib.hid hb1
    have hB1 : B ≤ w1.heap.size := Nat.le_trans hB hb1.size
    obtain ⟨sa, sc, ss, na, nc, ns, pa, pc, ps, hc, hss, hns, hps⟩ := hd1
    have Hsn := Lib.hid (show ss.length = n by rw [← Hok.out.safe, ← hss, List.length_map])
    have Hnn := Lib.hid (show ns.length = n by rw [← Hok.out.now, ← hns, List.length_map])
    have Hc := Lib.hid hc
    obtain ⟨c0, c1, c2, c3, c4, hfg, hlg⟩ := hc.cells
    rw [Hsn.out] at c2
    clear hc hss hns hps hp1 hb1 HA
    go_wp2_with fail
    clear c0 c1 c2 c3 c4 hfg hlg
    refine wp_region_chainF (by kernel_rfl) [9, 12, 15] [4, 6] (Mod.rel (OF g)) (fun h => h.size) [SpT.eq (.pointer (some ⟨g, 0, none⟩)), SpT.eq (.pointer (some ⟨g, 0, none⟩)), SpT.eq (.pointer (some ⟨g, 0, none⟩)), SpT.eq (.int .i64 (n : Int)), ⟨fun w v => ∃ x, v = .slice (some ⟨x, 0, none⟩) n n ∧ w1.heap.size ≤ x ∧ Own w w1.heap.size 167 2 (some ⟨x, 0, none⟩) n n (svs (List.replicate n SecV.nought)), fun _ _ _ ⟨x, h, hx, ho⟩ ht => ⟨x, h, hx, ho.mod ht fun _ _ _ hf => absurd hf.2 (by decide)⟩⟩, SpT.eq (.int .i64 (n : Int)), ⟨fun w v => ∃ x, v = .slice (some ⟨x, 0, none⟩) n n ∧ w1.heap.size ≤ x ∧ Own w w1.heap.size 167 2 (some ⟨x, 0, none⟩) n n (svs (List.replicate n SecV.nought)), fun _ _ _ ⟨x, h, hx, ho⟩ ht => ⟨x, h, hx, ho.mod ht fun _ _ _ hf => absurd hf.2 (by decide)⟩⟩, SpT.eq (.pointer (some ⟨g, 0, none⟩)), SpT.eq (.pointer (some ⟨g, 2, none⟩)), SpT.top, SpT.eq (.pointer (some ⟨g, 0, none⟩)), SpT.eq (.pointer (some ⟨g, 3, none⟩)), SpT.top, SpT.eq (.pointer (some ⟨g, 0, none⟩)), SpT.eq (.pointer (some ⟨g, 4, none⟩)), SpT.top] (by kernel_rfl) (by kernel_rfl) (by kernel_rfl) (by kernel_rfl) (by kernel_rfl) ?_ ?_
    · refine stepsM_free rfl ?_ (stepsM_free rfl ?_ (stepsM_free rfl ?_ (stepsM_free rfl ?_ (stepsM_free rfl ?_ (stepsM_free rfl ?_ (stepsM_free rfl ?_ (stepsM_free rfl ?_ (stepsM_free rfl ?_ (stepsM_chain rfl (stepsM_free rfl ?_ (stepsM_free rfl ?_ (stepsM_chain rfl (stepsM_free rfl ?_ (stepsM_free rfl ?_ (stepsM_chain rfl (stepsM_nil))))))))))))))))
      · intro ρ w' E
        have e0 : ρ (.tmp 0) = .pointer (some ⟨g, 0, none⟩) := E.out 0 rfl
        refine step_plain rfl ?_
        exact op_move (.inl rfl) e0 ⟨Below.refl _ _, trivial, rfl⟩
      · intro ρ w' E
        have e0 : ρ (.tmp 0) = .pointer (some ⟨g, 0, none⟩) := E.out 0 rfl
        refine step_plain rfl ?_
        exact op_move (.inl rfl) e0 ⟨Below.refl _ _, trivial, rfl⟩
      · intro ρ w' E
        have e0 : ρ (.tmp 0) = .pointer (some ⟨g, 0, none⟩) := E.out 0 rfl
        refine step_plain rfl ?_
        exact op_move (.inl rfl) e0 ⟨Below.refl _ _, trivial, rfl⟩
      · intro ρ w' E
        have e3 : ρ (.tmp 3) = .int .i64 (n : Int) := E.out 3 rfl
        refine step_plain rfl ?_
        exact op_move (.inl rfl) e3 ⟨Below.refl _ _, trivial, rfl⟩
      · intro ρ w' E
        have e15 : ρ (.tmp 15) = .int .i64 (n : Int) := E.pre 3 rfl rfl
        refine step_plain rfl ?_
        refine op_makeF rfl 167 i2 (.agg #[.slice none 0 0, .bool false]) SecV.cells 2 SecV.len (by decide) SecV.nought rfl Try.underlying158 hi hz0 hz1 n e15 e15 (by rw [hz2]; omega) (by unfold maxLen; omega) ?_
        intro wm hom hbm
        exact ⟨hbm, ⟨Nat.le_refl _, (hom.blk (by omega)).2.1⟩, _, rfl, E.t.size, hom.mono E.t.size⟩
      · intro ρ w' E
        have e3 : ρ (.tmp 3) = .int .i64 (n : Int) := E.out 3 rfl
        refine step_plain rfl ?_
        exact op_move (.inl rfl) e3 ⟨Below.refl _ _, trivial, rfl⟩
      · intro ρ w' E
        have e17 : ρ (.tmp 17) = .int .i64 (n : Int) := E.pre 5 rfl rfl
        refine step_plain rfl ?_
        refine op_makeF rfl 167 i2 (.agg #[.slice none 0 0, .bool false]) SecV.cells 2 SecV.len (by decide) SecV.nought rfl Try.underlying158 hi hz0 hz1 n e17 e17 (by rw [hz2]; omega) (by unfold maxLen; omega) ?_
        intro wm hom hbm
        exact ⟨hbm, ⟨Nat.le_refl _, (hom.blk (by omega)).2.1⟩, _, rfl, E.t.size, hom.mono E.t.size⟩
      · intro ρ w' E
        have e12 : ρ (.tmp 12) = .pointer (some ⟨g, 0, none⟩) := E.pre 0 rfl rfl
        refine step_plain rfl ?_
        refine op_val (v := .pointer (some ⟨g, 0, none⟩)) (w' := w') ?_ ⟨Below.refl _ _, trivial, rfl⟩
        have hcon := E.con
        clear E
        go_simp
      · intro ρ w' E
        have e19 : ρ (.tmp 19) = .pointer (some ⟨g, 0, none⟩) := E.pre 7 rfl rfl
        refine step_plain rfl ?_
        refine op_val (v := .pointer (some ⟨g, 2, none⟩)) (w' := w') ?_ ⟨Below.refl _ _, trivial, rfl⟩
        have hcon := E.con
        clear E
        go_simp
      · intro ρ w' E
        have e13 : ρ (.tmp 13) = .pointer (some ⟨g, 0, none⟩) := E.pre 1 rfl rfl
        refine step_plain rfl ?_
        refine op_val (v := .pointer (some ⟨g, 0, none⟩)) (w' := w') ?_ ⟨Below.refl _ _, trivial, rfl⟩
        have hcon := E.con
        clear E
        go_simp
      · intro ρ w' E
        have e21 : ρ (.tmp 21) = .pointer (some ⟨g, 0, none⟩) := E.pre 10 rfl rfl
        refine step_plain rfl ?_
        refine op_val (v := .pointer (some ⟨g, 3, none⟩)) (w' := w') ?_ ⟨Below.refl _ _, trivial, rfl⟩
        have hcon := E.con
        clear E
        go_simp
      · intro ρ w' E
        have e14 : ρ (.tmp 14) = .pointer (some ⟨g, 0, none⟩) := E.pre 2 rfl rfl
        refine step_plain rfl ?_
        refine op_val (v := .pointer (some ⟨g, 0, none⟩)) (w' := w') ?_ ⟨Below.refl _ _, trivial, rfl⟩
        have hcon := E.con
        clear E
        go_simp
      · intro ρ w' E
        have e23 : ρ (.tmp 23) = .pointer (some ⟨g, 0, none⟩) := E.pre 13 rfl rfl
        refine step_plain rfl ?_
        refine op_val (v := .pointer (some ⟨g, 4, none⟩)) (w' := w') ?_ ⟨Below.refl _ _, trivial, rfl⟩
        have hcon := E.con
        clear E
        go_simp
    · intro ρ1 w1c G1 E1 A1 R1
      have e20 : ρ1 (.tmp 20) = .pointer (some ⟨g, 2, none⟩) := E1.pre 8 rfl rfl
      have p16 : (fun w v => ∃ x, v = .slice (some ⟨x, 0, none⟩) n n ∧ w1.heap.size ≤ x ∧ Own w w1.heap.size 167 2 (some ⟨x, 0, none⟩) n n (svs (List.replicate n SecV.nought))) w1c (ρ1 (.tmp 16)) := E1.pre 4 rfl rfl
      refine step_plain rfl ?_
      obtain ⟨x1, e16, hx1, ho1⟩ := p16
      have hc1 := Hc.out.ext G1
      have hn1 := hc1.now
      refine op_store rfl e20 e16 rfl (hc1.cells.2.2.1) (hc1.cells.2.2.2.2.2.1 _) (by kernel_rfl) ⟨hc1.of_mod 2 _, ?_⟩
      have hm1 := hc1.of_mod 2 (.slice (some ⟨x1, 0, none⟩) n n)
      have hq1 := hc1.setSafe (ss' := List.replicate n SecV.nought) (n' := n) (by simp) (ho1.mono hB1) (fun x y hx hy => (own_apart Hc.out.now ho1 (Nat.le_refl _) (by rw [Hnn.out]; exact hnpos) hnpos y x hy hx).symm) (fun x hx => by rw [List.eq_of_mem_replicate hx]; exact Held.nil _ _ _)
      intro ρ2 w2c G2 E2 A2 R2
      have e22 : ρ2 (.tmp 22) = .pointer (some ⟨g, 3, none⟩) := E2.pre 11 rfl rfl
      have p18 : (fun w v => ∃ x, v = .slice (some ⟨x, 0, none⟩) n n ∧ w1.heap.size ≤ x ∧ Own w w1.heap.size 167 2 (some ⟨x, 0, none⟩) n n (svs (List.replicate n SecV.nought))) w2c (ρ2 (.tmp 18)) := E2.pre 6 rfl rfl
      refine step_plain rfl ?_
      obtain ⟨x2, e18, hx2, ho2⟩ := p18
      have e16b : ρ2 (.tmp 16) = ρ1 (.tmp 16) := R2 4 16 rfl rfl
      have hne := A2 4 6 16 18 rfl rfl (by decide) rfl rfl rfl rfl
      rw [e16b, e16, e18] at hne
      have hc2 := hq1.ext G2
      refine op_store rfl e22 e18 rfl (hc2.cells.2.2.2.1) (hc2.cells.2.2.2.2.2.1 _) (by kernel_rfl) ⟨hc2.of_mod 3 _, ?_⟩
      have hm2 := hc2.of_mod 3 (.slice (some ⟨x2, 0, none⟩) n n)
      have hq2 := hc2.setNow (ns' := List.replicate n SecV.nought) (n' := n) (by simp) (ho2.mono hB1) (fun x y hx hy => by cases hx; cases hy; exact hne) (fun x hx => by rw [List.eq_of_mem_replicate hx]; exact Held.nil _ _ _)
      intro ρ3 w3c G3 E3 A3 R3
      have e24 : ρ3 (.tmp 24) = .pointer (some ⟨g, 4, none⟩) := E3.pre 14 rfl rfl
      refine step_plain rfl ?_
      have hc3 := hq2.ext G3
      refine op_store rfl e24 (E3.con _) rfl (hc3.cells.2.2.2.2.1) (hc3.cells.2.2.2.2.2.1 _) (by kernel_rfl) ⟨trivial, ?_⟩
      have hm3 := hc3.of_mod 4 (.slice none 0 0)
      have hq3 := hc3.setPend (ps' := []) (pa' := none) (pc' := 0) (n' := 0) rfl (Own.nil _ _ _ _ _) (by simp) (fun _ => rfl)
      intro σ wF GF hκ hrec
      clear hrec
      simp only [upd, updL, dstsOf', elemB, List.filterMap_cons, List.filterMap_nil, Nat.reduceAdd, Nat.reduceBEq, Bool.or_false, Bool.false_or, Bool.or_true, Bool.true_or, cond_true, cond_false, Nat.zero_add]
      have hlow := Hc.out.low
      have HC := Lib.hid (hq3.ext GF)
      have HP := Lib.hid ((((((( Hp1.out.ext G1).mod hm1 (OF_no_pow _)).ext G2).mod hm2 (OF_no_pow _)).ext G3).mod hm3 (OF_no_pow _)).ext GF)
      have HM := Lib.hid (((((((Hb1.out.ext G1).trans (OF_df hm1 hlow)).ext G2).trans (OF_df hm2 hlow)).ext G3).trans (OF_df hm3 hlow)).ext GF)
      clear hq1 hq2 hq3 hm1 hm2 hm3 hc1 hc2 hc3 ho1 ho2 G1 G2 G3 GF E1 E2 E3 A1 A2 A3 R1 R2 R3 hκ e16 e16b e18 e20 e22 e24 hne hx1 hx2 hn1
      go_wp2
      go_ret
      exact ⟨rfl, ⟨_, _, _, _, _, _, _, _, _, HC.out, by simp [SecV.nought], by simp [SecV.nought], rfl⟩, HP.out, HM.out⟩

set_option maxRecDepth 100000 in
set_option maxHeartbeats 4000000 in
theorem disk_new (pg : Nat) (p : PS) (n : Nat) (B : Nat) (w : World) (hp : Pow R B w pg p) (h1n : 1 ≤ n) (hn6 : n ≤ 600) :
    Calls Try.prog 56 #[.pointer (some ⟨pg, 0, none⟩), .int .i64 (n : Int)] w fun e w' => ∃ g, e = .returned (.tuple #[.pointer (some ⟨g, 0, none⟩), .int .i64 0]) ∧ DiskAt (fun _ => False) w.heap.size w' g pg (DS.new p.life n) ∧ Below w.heap.size w w' := by
  obtain ⟨i2, hi, hz0, hz1, hz2⟩ := info_parts infoSector
  have h1 : ¬ n < 1 := by omega
  have h2 : ¬ 600 < n := by omega
  have Hp := Lib.hid hp
  clear hp
  go_enter Try.func56, Try.ntmps56
  go_wp2_with fail
  refine wp_region_chainF (by kernel_rfl) [2, 7, 8, 9, 10] [4, 6] (Keeps.rel (fun _ => True)) (fun h => h.size) [SpT.eq (.pointer (some ⟨pg, 0, none⟩)), SpT.eq (.pointer (some ⟨pg, 0, none⟩)), SpT.top, SpT.eq (.int .i64 (n : Int)), ⟨fun w' v => ∃ x, v = .slice (some ⟨x, 0, none⟩) n n ∧ Own w' w.heap.size 167 2 (some ⟨x, 0, none⟩) n n (svs (List.replicate n SecV.nought)), fun _ _ _ ⟨x, h, ho⟩ ht => ⟨x, h, ho.keep fun b o _ hl => ht.block b trivial hl⟩⟩, SpT.eq (.int .i64 (n : Int)), ⟨fun w' v => ∃ x, v = .slice (some ⟨x, 0, none⟩) n n ∧ Own w' w.heap.size 167 2 (some ⟨x, 0, none⟩) n n (svs (List.replicate n SecV.nought)), fun _ _ _ ⟨x, h, ho⟩ ht => ⟨x, h, ho.keep fun b o _ hl => ht.block b trivial hl⟩⟩, SpT.top, SpT.top, SpT.top, SpT.top] (by kernel_rfl) (by kernel_rfl) (by kernel_rfl) (by kernel_rfl) (by kernel_rfl) ?_ ?_
  · refine stepsM_free rfl ?_ (stepsM_free rfl ?_ (stepsM_chain rfl (stepsM_free rfl ?_ (stepsM_free rfl ?_ (stepsM_free rfl ?_ (stepsM_free rfl ?_ (stepsM_chain rfl (stepsM_chain rfl (stepsM_chain rfl (stepsM_chain rfl (stepsM_nil)))))))))))
    · intro ρ w' E
      have e0 : ρ (.tmp 0) = .pointer (some ⟨pg, 0, none⟩) := E.out 0 rfl
      refine step_plain rfl ?_
      exact op_move (.inl rfl) e0 ⟨Below.refl _ _, trivial, rfl⟩
    · intro ρ w' E
      have e0 : ρ (.tmp 0) = .pointer (some ⟨pg, 0, none⟩) := E.out 0 rfl
      refine step_plain rfl ?_
      exact op_move (.inl rfl) e0 ⟨Below.refl _ _, trivial, rfl⟩
    · intro ρ w' E
      have e1 : ρ (.tmp 1) = .int .i64 (n : Int) := E.out 1 rfl
      refine step_plain rfl ?_
      exact op_move (.inl rfl) e1 ⟨Below.refl _ _, trivial, rfl⟩
    · intro ρ w' E
      have e19 : ρ (.tmp 19) = .int .i64 (n : Int) := E.pre 3 rfl rfl
      refine step_plain rfl ?_
      refine op_makeF rfl 167 i2 (.agg #[.slice none 0 0, .bool false]) SecV.cells 2 SecV.len (by decide) SecV.nought rfl Try.underlying158 hi hz0 hz1 n e19 e19 (by rw [hz2]; omega) (by unfold maxLen; omega) ?_
      intro wm hom hbm
      exact ⟨hbm, ⟨Nat.le_refl _, (hom.blk (by omega)).2.1⟩, _, rfl, hom.mono E.t.size⟩
    · intro ρ w' E
      have e1 : ρ (.tmp 1) = .int .i64 (n : Int) := E.out 1 rfl
      refine step_plain rfl ?_
      exact op_move (.inl rfl) e1 ⟨Below.refl _ _, trivial, rfl⟩
    · intro ρ w' E
      have e21 : ρ (.tmp 21) = .int .i64 (n : Int) := E.pre 5 rfl rfl
      refine step_plain rfl ?_
      refine op_makeF rfl 167 i2 (.agg #[.slice none 0 0, .bool false]) SecV.cells 2 SecV.len (by decide) SecV.nought rfl Try.underlying158 hi hz0 hz1 n e21 e21 (by rw [hz2]; omega) (by unfold maxLen; omega) ?_
      intro wm hom hbm
      exact ⟨hbm, ⟨Nat.le_refl _, (hom.blk (by omega)).2.1⟩, _, rfl, hom.mono E.t.size⟩
  · intro ρ1 w1c G1 E1 A1 R1
    have e17 : ρ1 (.tmp 17) = .pointer (some ⟨pg, 0, none⟩) := E1.pre 1 rfl rfl
    refine step_plain rfl ?_
    refine op_call (f := 103) (args := #[.pointer (some ⟨pg, 0, none⟩)]) (w' := w1c) (by have hcon := E1.con; have hfn := E1.fn; clear E1; go_simp) ?_
    refine (life_at (Hp.out.ext G1) rfl).mono ?_
    rintro e wx1 ⟨rfl, rfl⟩
    refine ⟨_, rfl, (Keeps.rel (fun _ => True)).of (Below.refl _ _), ?_⟩
    intro ρ2 w2c G2 E2 A2 R2
    have e16 : ρ2 (.tmp 16) = .pointer (some ⟨pg, 0, none⟩) := E2.pre 0 rfl rfl
    have e18 : ρ2 (.tmp 18) = .int .i64 p.life := E2.chn 2 18 rfl rfl rfl
    have p20 : (fun w' v => ∃ x, v = .slice (some ⟨x, 0, none⟩) n n ∧ Own w' w.heap.size 167 2 (some ⟨x, 0, none⟩) n n (svs (List.replicate n SecV.nought))) w2c (ρ2 (.tmp 20)) := E2.pre 4 rfl rfl
    have p22 : (fun w' v => ∃ x, v = .slice (some ⟨x, 0, none⟩) n n ∧ Own w' w.heap.size 167 2 (some ⟨x, 0, none⟩) n n (svs (List.replicate n SecV.nought))) w2c (ρ2 (.tmp 22)) := E2.pre 6 rfl rfl
    refine step_plain rfl ?_
    obtain ⟨x1, e20, ho1⟩ := p20
    obtain ⟨x2, e22, ho2⟩ := p22
    have hne := A2 4 6 20 22 rfl rfl (by decide) rfl rfl rfl rfl
    rw [e20, e22] at hne
    have Hne := Lib.hid hne
    clear hne
    refine op_val (v := .agg #[.pointer (some ⟨pg, 0, none⟩), .int .i64 p.life, .slice (some ⟨x1, 0, none⟩) n n, .slice (some ⟨x2, 0, none⟩) n n, .slice none 0 0]) (w' := w2c) (by have hcon := E2.con; clear E2 A2 R2; go_simp) ⟨(Keeps.rel (fun _ => True)).of (Below.refl _ _), ?_⟩
    intro ρ3 w3c G3 E3 A3 R3
    have e23 : ρ3 (.tmp 23) = .agg #[.pointer (some ⟨pg, 0, none⟩), .int .i64 p.life, .slice (some ⟨x1, 0, none⟩) n n, .slice (some ⟨x2, 0, none⟩) n n, .slice none 0 0] := E3.chn 7 23 rfl rfl rfl
    refine step_plain rfl ?_
    refine op_val (v := .pointer (some ⟨w3c.heap.size, 0, none⟩)) (w' := w3c.alloc (.cells #[.pointer (some ⟨pg, 0, none⟩), .int .i64 p.life, .slice (some ⟨x1, 0, none⟩) n n, .slice (some ⟨x2, 0, none⟩) n n, .slice none 0 0] 161)) (by have hcon := E3.con; clear E3 A3 R3; go_simp) ⟨(Keeps.rel (fun _ => True)).of (ext_alloc _ _), ?_⟩
    intro ρ4 w4c G4 E4 A4 R4
    have e24 : ρ4 (.tmp 24) = .pointer (some ⟨w3c.heap.size, 0, none⟩) := E4.chn 8 24 rfl rfl rfl
    refine step_plain rfl ?_
    refine op_move (.inr rfl) e24 ⟨(Keeps.rel (fun _ => True)).of (Below.refl _ _), ?_⟩
    intro ρ5 w5c G5 E5 A5 R5
    refine step_plain rfl ?_
    refine op_move (.inr rfl) (E5.con _) ⟨trivial, ?_⟩
    intro σ wF GF hκ hrec
    clear hrec
    have h4 : σ 4 = .pointer (some ⟨w3c.heap.size, 0, none⟩) := hκ 9 4 rfl rfl
    have h5 : σ 5 = .int .i64 0 := hκ 10 5 rfl rfl
    simp only [upd, updL, dstsOf', elemB, List.filterMap_cons, List.filterMap_nil, Nat.reduceAdd, Nat.reduceBEq, Bool.or_false, Bool.false_or, Bool.or_true, Bool.true_or, cond_true, cond_false, Nat.zero_add, h4, h5]
    have hba := ext_alloc w3c (Obj.cells #[.pointer (some ⟨pg, 0, none⟩), .int .i64 p.life, .slice (some ⟨x1, 0, none⟩) n n, .slice (some ⟨x2, 0, none⟩) n n, .slice none 0 0] 161)
    have hbF : Below (w3c.alloc (Obj.cells #[.pointer (some ⟨pg, 0, none⟩), .int .i64 p.life, .slice (some ⟨x1, 0, none⟩) n n, .slice (some ⟨x2, 0, none⟩) n n, .slice none 0 0] 161)).heap.size (w3c.alloc (Obj.cells #[.pointer (some ⟨pg, 0, none⟩), .int .i64 p.life, .slice (some ⟨x1, 0, none⟩) n n, .slice (some ⟨x2, 0, none⟩) n n, .slice none 0 0] 161)) wF :=
      bthen (bthen G4 G5 (Nat.le_refl _)) GF (Nat.le_refl _)
    have hb3 := bthen G1 (bthen G2 G3 (Nat.le_refl _)) (Nat.le_refl _)
    have hb3F := bthen hba hbF (Nat.le_refl _)
    have hbw := bthen hb3 hb3F (Nat.le_refl _)
    have hb2F := bthen G3 hb3F (Nat.le_refl _)
    have hobj := (hbF.block w3c.heap.size (by rw [World.size_alloc]; omega)).trans (heap_alloc_at w3c _)
    have hlow := hb3.size
    have hD : DiskAt (fun _ => False) w.heap.size wF w3c.heap.size pg (DS.new p.life n) :=
      ⟨some ⟨x1, 0, none⟩, n, List.replicate n SecV.nought, some ⟨x2, 0, none⟩, n, List.replicate n SecV.nought, none, 0, [],
        ⟨hlow, by simp only [List.length_replicate]; exact hobj, by rw [List.length_replicate]; exact ho1.ext hb2F, by rw [List.length_replicate]; exact ho2.ext hb2F, Own.nil _ _ _ _ _, fun x y hx hy => by cases hx; cases hy; exact Hne.out,
          fun x hx => by simp only [List.mem_append, List.mem_replicate] at hx; rcases hx with ⟨_, rfl⟩ | ⟨_, rfl⟩ <;> exact Held.nil _ _ _, by simp, fun _ => rfl⟩, by simp [DS.new, SecV.nought], by simp [DS.new, SecV.nought], rfl⟩
    have HD := Lib.hid hD
    have HB := Lib.hid hbw
    clear hD hbw hobj hlow hb2F hb3F hb3 hbF hba G1 G2 G3 G4 G5 GF E1 E2 E3 E4 E5 A1 A2 A3 A4 A5 R1 R2 R3 R4 R5 hκ h4 h5 ho1 ho2 e20 e22 e23 e24 e18
    go_wp2
    go_ret2
    exact ⟨_, rfl, HD.out, HB.out⟩
theorem disk_new_bad (pg : Nat) (n : Int) (w : World) (hn : n < 1 ∨ 600 < n) :
    Calls Try.prog 56 #[.pointer (some ⟨pg, 0, none⟩), .int .i64 n] w fun e w' => e = .returned (.tuple #[.pointer none, .int .i64 1]) ∧ w = w' := by
  by_cases h : n < 1
  · clear hn
    go_enter Try.func56, Try.ntmps56
    go_wp2
    go_ret2
    exact ⟨rfl, rfl⟩
  · have h2 : 600 < n := by omega
    clear hn
    go_enter Try.func56, Try.ntmps56
    go_wp2
    go_ret2
    exact ⟨rfl, rfl⟩
end Go.Proofs.Ytclkkhpnnbkfmaa
