/- The page's disk: wake. -/
import Derived.Test.YtclkkhpnnbkfmaaRefDk
import Derived.Test.YtclkkhpnnbkfmaaRegionLast
import Derived.Test.YtclkkhpnnbkfmaaRegionChainL
namespace Go.Proofs.Ytclkkhpnnbkfmaa
open Go.RowKit
variable {R : Nat}

set_option maxRecDepth 100000 in
set_option maxHeartbeats 8000000 in
theorem rdk_wake (K : Nat → Prop) (B r q tb n : Nat) (d : RS) (p : PS) (w : World) (hd : RDk K B w r q tb d) (hp : RPow R B w q p) (hok : d.ok n) (hn : n ≤ 100000) (hB : B ≤ w.heap.size) (hm : d.loose.length ≤ 100000) (htR : tb < R) :
    Calls Try.prog 106 #[.pointer (some ⟨r, 0, none⟩)] w fun e w' => e = .returned (.tuple #[]) ∧ RDk K B w' r q tb (d.wake p) ∧ RPow R B w' q p ∧ Mod (RDF B tb) w w' := by
  have HD0 := Lib.hid hd
  have Hp := Lib.hid hp
  obtain ⟨sa, sc, ss, tc, la, lc, ls, hc, hss, hls⟩ := hd
  have hsn : ss.length = n := by rw [← hok.safe, ← hss, List.length_map]
  have HPl := Lib.hid (show ls.length = d.loose.length by rw [← hls, List.length_map])
  generalize hm0 : ls.length = m at *
  have HM0 := Lib.hid hm0
  have hm' : m ≤ 100000 := by have := HPl.out; omega
  have Hc := Lib.hid hc
  have Hok := Lib.hid hok
  have Hss := Lib.hid hss
  have Hls := Lib.hid hls
  have Hsn := Lib.hid hsn
  have Htn := Lib.hid hok.torn
  have HtR := Lib.hid htR
  obtain ⟨c0, c1, c2, c3, c4, hfg, hlg⟩ := hc.cells
  obtain ⟨p0, p1, p6, hlq⟩ := rpow_cells hp
  rw [hsn] at c2
  rw [hok.torn] at c3
  rw [hm0] at c4
  clear hc hss hls hok hsn hm hm0 hp htR
  cases hoff : p.off with
  | true =>
    have hw : d.wake p = d := by unfold RS.wake; rw [if_pos (.inl hoff)]
    rw [hw]
    rw [hoff] at p0
    clear hw hoff
    go_enter Try.func106, Try.ntmps106
    go_wp2_with fail
    refine wp_region_sp (by kernel_rfl) [Sp.eq (.pointer (some ⟨r, 0, none⟩)), Sp.eq (.pointer (some ⟨r, 0, none⟩)), Sp.eq (.pointer (some ⟨r, 0, none⟩)), Sp.eq (.pointer (some ⟨q, 0, none⟩)), Sp.eq (.pointer (some ⟨q, 0, none⟩)), Sp.eq (.pointer (some ⟨q, 0, none⟩)), Sp.eq (.bool true), Sp.eq (.bool true), Sp.eq (undef), Sp.eq (undef), Sp.eq (undef), Sp.eq (undef), Sp.eq (undef), Sp.eq (undef), Sp.eq (undef), Sp.eq (undef), Sp.eq (undef), Sp.eq (undef), Sp.eq (undef), Sp.eq (undef), Sp.eq (.bool true)] (by kernel_rfl) ?_ ?_
    · refine stepsOk_cons ?_ (stepsOk_cons ?_ (stepsOk_cons ?_ (stepsOk_cons ?_ (stepsOk_cons ?_ (stepsOk_cons ?_ (stepsOk_cons ?_ (stepsOk_cons ?_ (stepsOk_cons ?_ (stepsOk_cons ?_ (stepsOk_cons ?_ (stepsOk_cons ?_ (stepsOk_cons ?_ (stepsOk_cons ?_ (stepsOk_cons ?_ (stepsOk_cons ?_ (stepsOk_cons ?_ (stepsOk_cons ?_ (stepsOk_cons ?_ (stepsOk_cons ?_ (stepsOk_cons ?_ (stepsOk_nil)))))))))))))))))))))
      · intro ρ w' E
        have e0 : ρ (.tmp 0) = .pointer (some ⟨r, 0, none⟩) := E.out 0 rfl
        refine step_plain rfl ?_
        exact op_move (.inl rfl) e0 ⟨Below.refl _ _, rfl⟩
      · intro ρ w' E
        have e4 : ρ (.tmp 4) = .pointer (some ⟨r, 0, none⟩) := E.pre 0 rfl
        refine step_plain rfl ?_
        refine op_val (v := .pointer (some ⟨r, 0, none⟩)) (w' := w') ?_ ⟨Below.refl _ _, rfl⟩
        have hcon := E.con
        clear E
        go_simp
      · intro ρ w' E
        have e5 : ρ (.tmp 5) = .pointer (some ⟨r, 0, none⟩) := E.pre 1 rfl
        refine step_plain rfl ?_
        refine op_val (v := .pointer (some ⟨r, 0, none⟩)) (w' := w') ?_ ⟨Below.refl _ _, rfl⟩
        have hcon := E.con
        clear E
        go_simp
      · intro ρ w' E
        have e6 : ρ (.tmp 6) = .pointer (some ⟨r, 0, none⟩) := E.pre 2 rfl
        refine step_plain rfl ?_
        refine op_val (v := .pointer (some ⟨q, 0, none⟩)) (w' := w') ?_ ⟨Below.refl _ _, rfl⟩
        have hk := (World.cell?_of_block (w := w) (E.below.block _ hlg)).trans c0
        have hcon := E.con
        clear E c0 c1 c2 c3 c4
        go_simp
      · intro ρ w' E
        have e7 : ρ (.tmp 7) = .pointer (some ⟨q, 0, none⟩) := E.pre 3 rfl
        refine step_plain rfl ?_
        refine op_val (v := .pointer (some ⟨q, 0, none⟩)) (w' := w') ?_ ⟨Below.refl _ _, rfl⟩
        have hcon := E.con
        clear E
        go_simp
      · intro ρ w' E
        have e8 : ρ (.tmp 8) = .pointer (some ⟨q, 0, none⟩) := E.pre 4 rfl
        refine step_plain rfl ?_
        refine op_val (v := .pointer (some ⟨q, 0, none⟩)) (w' := w') ?_ ⟨Below.refl _ _, rfl⟩
        have hcon := E.con
        clear E
        go_simp
      · intro ρ w' E
        have e9 : ρ (.tmp 9) = .pointer (some ⟨q, 0, none⟩) := E.pre 5 rfl
        refine step_plain rfl ?_
        refine op_val (v := .bool true) (w' := w') ?_ ⟨Below.refl _ _, rfl⟩
        have hk := (World.cell?_of_block (w := w) (E.below.block _ hlq)).trans p0
        have hcon := E.con
        clear E c0 c1 c2 c3 c4
        go_simp
      · intro ρ w' E
        have e10 : ρ (.tmp 10) = .bool true := E.pre 6 rfl
        refine step_plain rfl ?_
        exact op_move (.inl rfl) e10 ⟨Below.refl _ _, rfl⟩
      · intro ρ w' E
        exact step_no rfl (E.pre 7 rfl) ⟨Below.refl _ _, rfl⟩
      · intro ρ w' E
        exact step_no rfl (E.pre 7 rfl) ⟨Below.refl _ _, rfl⟩
      · intro ρ w' E
        exact step_no rfl (E.pre 7 rfl) ⟨Below.refl _ _, rfl⟩
      · intro ρ w' E
        exact step_no rfl (E.pre 7 rfl) ⟨Below.refl _ _, rfl⟩
      · intro ρ w' E
        exact step_no rfl (E.pre 7 rfl) ⟨Below.refl _ _, rfl⟩
      · intro ρ w' E
        exact step_no rfl (E.pre 7 rfl) ⟨Below.refl _ _, rfl⟩
      · intro ρ w' E
        exact step_no rfl (E.pre 7 rfl) ⟨Below.refl _ _, rfl⟩
      · intro ρ w' E
        exact step_no rfl (E.pre 7 rfl) ⟨Below.refl _ _, rfl⟩
      · intro ρ w' E
        exact step_no rfl (E.pre 7 rfl) ⟨Below.refl _ _, rfl⟩
      · intro ρ w' E
        exact step_no rfl (E.pre 7 rfl) ⟨Below.refl _ _, rfl⟩
      · intro ρ w' E
        exact step_no rfl (E.pre 7 rfl) ⟨Below.refl _ _, rfl⟩
      · intro ρ w' E
        exact step_no rfl (E.pre 7 rfl) ⟨Below.refl _ _, rfl⟩
      · intro ρ w' E
        have e11 : ρ (.tmp 11) = .bool true := E.pre 7 rfl
        have e23 : ρ (.tmp 23) = undef := E.pre 19 rfl
        refine step_plain rfl ?_
        exact op_pick (b := true) rfl e11 rfl ⟨Below.refl _ _, (E.con _)⟩
    · intro σ w0 hb0 hall
      have h24 : σ 24 = .bool true := by obtain ⟨_, _, _, _, _, _, _, _, _, _, _, _, _, _, _, _, _, _, _, _, h, _⟩ := hall; exact h
      clear hall
      simp only [upd, updL, dstsOf', elemB, List.filterMap_cons, List.filterMap_nil, Nat.reduceAdd, Nat.reduceBEq, Bool.or_false, Bool.false_or, Bool.or_true, Bool.true_or, cond_true, cond_false, Nat.zero_add, h24]
      have HDF := Lib.hid (HD0.out.ext hb0)
      have HPF := Lib.hid (Hp.out.ext hb0)
      have HMF := Lib.hid (bmod hb0 (RDF B tb))
      clear hb0 h24 c0 c1 c2 c3 c4 hfg hlg p0 p1 p6 hlq
      go_wp2
      refine bodyPost_ret (results_none rfl _ _ _) rfl ?_
      exact ⟨rfl, HDF.out, HPF.out, HMF.out⟩
  | false =>
  rw [hoff] at p0
  by_cases hlf : p.life = d.life
  · have hw : d.wake p = d := by unfold RS.wake; rw [if_pos (.inr hlf)]
    rw [hw]
    have hl : (p.life == d.life) = true := by simpa using hlf
    clear hw hoff hlf
    go_enter Try.func106, Try.ntmps106
    go_wp2_with fail
    refine wp_region_sp (by kernel_rfl) [Sp.eq (.pointer (some ⟨r, 0, none⟩)), Sp.eq (.pointer (some ⟨r, 0, none⟩)), Sp.eq (.pointer (some ⟨r, 0, none⟩)), Sp.eq (.pointer (some ⟨q, 0, none⟩)), Sp.eq (.pointer (some ⟨q, 0, none⟩)), Sp.eq (.pointer (some ⟨q, 0, none⟩)), Sp.eq (.bool false), Sp.eq (.bool false), Sp.eq (.pointer (some ⟨r, 0, none⟩)), Sp.eq (.pointer (some ⟨r, 0, none⟩)), Sp.eq (.pointer (some ⟨r, 0, none⟩)), Sp.eq (.pointer (some ⟨q, 0, none⟩)), Sp.eq (.pointer (some ⟨q, 0, none⟩)), Sp.eq (.pointer (some ⟨q, 1, none⟩)), Sp.eq (.int .i64 p.life), Sp.eq (.pointer (some ⟨r, 0, none⟩)), Sp.eq (.pointer (some ⟨r, 0, none⟩)), Sp.eq (.pointer (some ⟨r, 1, none⟩)), Sp.eq (.int .i64 d.life), Sp.eq (.bool true), Sp.eq (.bool true)] (by kernel_rfl) ?_ ?_
    · refine stepsOk_cons ?_ (stepsOk_cons ?_ (stepsOk_cons ?_ (stepsOk_cons ?_ (stepsOk_cons ?_ (stepsOk_cons ?_ (stepsOk_cons ?_ (stepsOk_cons ?_ (stepsOk_cons ?_ (stepsOk_cons ?_ (stepsOk_cons ?_ (stepsOk_cons ?_ (stepsOk_cons ?_ (stepsOk_cons ?_ (stepsOk_cons ?_ (stepsOk_cons ?_ (stepsOk_cons ?_ (stepsOk_cons ?_ (stepsOk_cons ?_ (stepsOk_cons ?_ (stepsOk_cons ?_ (stepsOk_nil)))))))))))))))))))))
      · intro ρ w' E
        have e0 : ρ (.tmp 0) = .pointer (some ⟨r, 0, none⟩) := E.out 0 rfl
        refine step_plain rfl ?_
        exact op_move (.inl rfl) e0 ⟨Below.refl _ _, rfl⟩
      · intro ρ w' E
        have e4 : ρ (.tmp 4) = .pointer (some ⟨r, 0, none⟩) := E.pre 0 rfl
        refine step_plain rfl ?_
        refine op_val (v := .pointer (some ⟨r, 0, none⟩)) (w' := w') ?_ ⟨Below.refl _ _, rfl⟩
        have hcon := E.con
        clear E
        go_simp
      · intro ρ w' E
        have e5 : ρ (.tmp 5) = .pointer (some ⟨r, 0, none⟩) := E.pre 1 rfl
        refine step_plain rfl ?_
        refine op_val (v := .pointer (some ⟨r, 0, none⟩)) (w' := w') ?_ ⟨Below.refl _ _, rfl⟩
        have hcon := E.con
        clear E
        go_simp
      · intro ρ w' E
        have e6 : ρ (.tmp 6) = .pointer (some ⟨r, 0, none⟩) := E.pre 2 rfl
        refine step_plain rfl ?_
        refine op_val (v := .pointer (some ⟨q, 0, none⟩)) (w' := w') ?_ ⟨Below.refl _ _, rfl⟩
        have hk := (World.cell?_of_block (w := w) (E.below.block _ hlg)).trans c0
        have hcon := E.con
        clear E c0 c1 c2 c3 c4
        go_simp
      · intro ρ w' E
        have e7 : ρ (.tmp 7) = .pointer (some ⟨q, 0, none⟩) := E.pre 3 rfl
        refine step_plain rfl ?_
        refine op_val (v := .pointer (some ⟨q, 0, none⟩)) (w' := w') ?_ ⟨Below.refl _ _, rfl⟩
        have hcon := E.con
        clear E
        go_simp
      · intro ρ w' E
        have e8 : ρ (.tmp 8) = .pointer (some ⟨q, 0, none⟩) := E.pre 4 rfl
        refine step_plain rfl ?_
        refine op_val (v := .pointer (some ⟨q, 0, none⟩)) (w' := w') ?_ ⟨Below.refl _ _, rfl⟩
        have hcon := E.con
        clear E
        go_simp
      · intro ρ w' E
        have e9 : ρ (.tmp 9) = .pointer (some ⟨q, 0, none⟩) := E.pre 5 rfl
        refine step_plain rfl ?_
        refine op_val (v := .bool false) (w' := w') ?_ ⟨Below.refl _ _, rfl⟩
        have hk := (World.cell?_of_block (w := w) (E.below.block _ hlq)).trans p0
        have hcon := E.con
        clear E c0 c1 c2 c3 c4
        go_simp
      · intro ρ w' E
        have e10 : ρ (.tmp 10) = .bool false := E.pre 6 rfl
        refine step_plain rfl ?_
        exact op_move (.inl rfl) e10 ⟨Below.refl _ _, rfl⟩
      · intro ρ w' E
        have e0 : ρ (.tmp 0) = .pointer (some ⟨r, 0, none⟩) := E.out 0 rfl
        refine step_yes rfl (E.pre 7 rfl) ?_
        exact op_move (.inl rfl) e0 ⟨Below.refl _ _, rfl⟩
      · intro ρ w' E
        have e12 : ρ (.tmp 12) = .pointer (some ⟨r, 0, none⟩) := E.pre 8 rfl
        refine step_yes rfl (E.pre 7 rfl) ?_
        refine op_val (v := .pointer (some ⟨r, 0, none⟩)) (w' := w') ?_ ⟨Below.refl _ _, rfl⟩
        have hcon := E.con
        clear E
        go_simp
      · intro ρ w' E
        have e13 : ρ (.tmp 13) = .pointer (some ⟨r, 0, none⟩) := E.pre 9 rfl
        refine step_yes rfl (E.pre 7 rfl) ?_
        refine op_val (v := .pointer (some ⟨r, 0, none⟩)) (w' := w') ?_ ⟨Below.refl _ _, rfl⟩
        have hcon := E.con
        clear E
        go_simp
      · intro ρ w' E
        have e14 : ρ (.tmp 14) = .pointer (some ⟨r, 0, none⟩) := E.pre 10 rfl
        refine step_yes rfl (E.pre 7 rfl) ?_
        refine op_val (v := .pointer (some ⟨q, 0, none⟩)) (w' := w') ?_ ⟨Below.refl _ _, rfl⟩
        have hk := (World.cell?_of_block (w := w) (E.below.block _ hlg)).trans c0
        have hcon := E.con
        clear E c0 c1 c2 c3 c4
        go_simp
      · intro ρ w' E
        have e15 : ρ (.tmp 15) = .pointer (some ⟨q, 0, none⟩) := E.pre 11 rfl
        refine step_yes rfl (E.pre 7 rfl) ?_
        refine op_val (v := .pointer (some ⟨q, 0, none⟩)) (w' := w') ?_ ⟨Below.refl _ _, rfl⟩
        have hcon := E.con
        clear E
        go_simp
      · intro ρ w' E
        have e16 : ρ (.tmp 16) = .pointer (some ⟨q, 0, none⟩) := E.pre 12 rfl
        refine step_yes rfl (E.pre 7 rfl) ?_
        refine op_val (v := .pointer (some ⟨q, 1, none⟩)) (w' := w') ?_ ⟨Below.refl _ _, rfl⟩
        have hcon := E.con
        clear E
        go_simp
      · intro ρ w' E
        have e17 : ρ (.tmp 17) = .pointer (some ⟨q, 1, none⟩) := E.pre 13 rfl
        refine step_yes rfl (E.pre 7 rfl) ?_
        refine op_val (v := .int .i64 p.life) (w' := w') ?_ ⟨Below.refl _ _, rfl⟩
        have hk := (World.cell?_of_block (w := w) (E.below.block _ hlq)).trans p1
        have hcon := E.con
        clear E c0 c1 c2 c3 c4
        go_simp
      · intro ρ w' E
        have e0 : ρ (.tmp 0) = .pointer (some ⟨r, 0, none⟩) := E.out 0 rfl
        refine step_yes rfl (E.pre 7 rfl) ?_
        exact op_move (.inl rfl) e0 ⟨Below.refl _ _, rfl⟩
      · intro ρ w' E
        have e19 : ρ (.tmp 19) = .pointer (some ⟨r, 0, none⟩) := E.pre 15 rfl
        refine step_yes rfl (E.pre 7 rfl) ?_
        refine op_val (v := .pointer (some ⟨r, 0, none⟩)) (w' := w') ?_ ⟨Below.refl _ _, rfl⟩
        have hcon := E.con
        clear E
        go_simp
      · intro ρ w' E
        have e20 : ρ (.tmp 20) = .pointer (some ⟨r, 0, none⟩) := E.pre 16 rfl
        refine step_yes rfl (E.pre 7 rfl) ?_
        refine op_val (v := .pointer (some ⟨r, 1, none⟩)) (w' := w') ?_ ⟨Below.refl _ _, rfl⟩
        have hcon := E.con
        clear E
        go_simp
      · intro ρ w' E
        have e21 : ρ (.tmp 21) = .pointer (some ⟨r, 1, none⟩) := E.pre 17 rfl
        refine step_yes rfl (E.pre 7 rfl) ?_
        refine op_val (v := .int .i64 d.life) (w' := w') ?_ ⟨Below.refl _ _, rfl⟩
        have hk := (World.cell?_of_block (w := w) (E.below.block _ hlg)).trans c1
        have hcon := E.con
        clear E c0 c1 c2 c3 c4
        go_simp
      · intro ρ w' E
        have e18 : ρ (.tmp 18) = .int .i64 p.life := E.pre 14 rfl
        have e22 : ρ (.tmp 22) = .int .i64 d.life := E.pre 18 rfl
        refine step_yes rfl (E.pre 7 rfl) ?_
        refine op_val (v := .bool true) (w' := w') ?_ ⟨Below.refl _ _, rfl⟩
        have hcon := E.con
        clear E c0 c1 c2 c3 c4
        go_simp
        try exact hl
      · intro ρ w' E
        have e11 : ρ (.tmp 11) = .bool false := E.pre 7 rfl
        have e23 : ρ (.tmp 23) = .bool true := E.pre 19 rfl
        refine step_plain rfl ?_
        exact op_pick (b := false) rfl e11 rfl ⟨Below.refl _ _, e23⟩
    · intro σ w0 hb0 hall
      have h24 : σ 24 = .bool true := by obtain ⟨_, _, _, _, _, _, _, _, _, _, _, _, _, _, _, _, _, _, _, _, h, _⟩ := hall; exact h
      clear hall
      simp only [upd, updL, dstsOf', elemB, List.filterMap_cons, List.filterMap_nil, Nat.reduceAdd, Nat.reduceBEq, Bool.or_false, Bool.false_or, Bool.or_true, Bool.true_or, cond_true, cond_false, Nat.zero_add, h24]
      have HDF := Lib.hid (HD0.out.ext hb0)
      have HPF := Lib.hid (Hp.out.ext hb0)
      have HMF := Lib.hid (bmod hb0 (RDF B tb))
      clear hb0 h24 c0 c1 c2 c3 c4 hfg hlg p0 p1 p6 hlq
      go_wp2
      refine bodyPost_ret (results_none rfl _ _ _) rfl ?_
      exact ⟨rfl, HDF.out, HPF.out, HMF.out⟩
  · have hw : d.wake p = ⟨p.life, (applyR p 0 d.loose (d.safe, d.torn)).1, (applyR p 0 d.loose (d.safe, d.torn)).2, []⟩ := by unfold RS.wake; rw [if_neg (by rw [hoff]; intro h; rcases h with h | h; cases h; exact hlf h)]
    rw [hw]
    have hl : (p.life == d.life) = false := by simpa using hlf
    clear hw hoff hlf HD0
    go_enter Try.func106, Try.ntmps106
    go_wp2_with fail
    refine wp_region_sp (by kernel_rfl) [Sp.eq (.pointer (some ⟨r, 0, none⟩)), Sp.eq (.pointer (some ⟨r, 0, none⟩)), Sp.eq (.pointer (some ⟨r, 0, none⟩)), Sp.eq (.pointer (some ⟨q, 0, none⟩)), Sp.eq (.pointer (some ⟨q, 0, none⟩)), Sp.eq (.pointer (some ⟨q, 0, none⟩)), Sp.eq (.bool false), Sp.eq (.bool false), Sp.eq (.pointer (some ⟨r, 0, none⟩)), Sp.eq (.pointer (some ⟨r, 0, none⟩)), Sp.eq (.pointer (some ⟨r, 0, none⟩)), Sp.eq (.pointer (some ⟨q, 0, none⟩)), Sp.eq (.pointer (some ⟨q, 0, none⟩)), Sp.eq (.pointer (some ⟨q, 1, none⟩)), Sp.eq (.int .i64 p.life), Sp.eq (.pointer (some ⟨r, 0, none⟩)), Sp.eq (.pointer (some ⟨r, 0, none⟩)), Sp.eq (.pointer (some ⟨r, 1, none⟩)), Sp.eq (.int .i64 d.life), Sp.eq (.bool false), Sp.eq (.bool false)] (by kernel_rfl) ?_ ?_
    · refine stepsOk_cons ?_ (stepsOk_cons ?_ (stepsOk_cons ?_ (stepsOk_cons ?_ (stepsOk_cons ?_ (stepsOk_cons ?_ (stepsOk_cons ?_ (stepsOk_cons ?_ (stepsOk_cons ?_ (stepsOk_cons ?_ (stepsOk_cons ?_ (stepsOk_cons ?_ (stepsOk_cons ?_ (stepsOk_cons ?_ (stepsOk_cons ?_ (stepsOk_cons ?_ (stepsOk_cons ?_ (stepsOk_cons ?_ (stepsOk_cons ?_ (stepsOk_cons ?_ (stepsOk_cons ?_ (stepsOk_nil)))))))))))))))))))))
      · intro ρ w' E
        have e0 : ρ (.tmp 0) = .pointer (some ⟨r, 0, none⟩) := E.out 0 rfl
        refine step_plain rfl ?_
        exact op_move (.inl rfl) e0 ⟨Below.refl _ _, rfl⟩
      · intro ρ w' E
        have e4 : ρ (.tmp 4) = .pointer (some ⟨r, 0, none⟩) := E.pre 0 rfl
        refine step_plain rfl ?_
        refine op_val (v := .pointer (some ⟨r, 0, none⟩)) (w' := w') ?_ ⟨Below.refl _ _, rfl⟩
        have hcon := E.con
        clear E
        go_simp
      · intro ρ w' E
        have e5 : ρ (.tmp 5) = .pointer (some ⟨r, 0, none⟩) := E.pre 1 rfl
        refine step_plain rfl ?_
        refine op_val (v := .pointer (some ⟨r, 0, none⟩)) (w' := w') ?_ ⟨Below.refl _ _, rfl⟩
        have hcon := E.con
        clear E
        go_simp
      · intro ρ w' E
        have e6 : ρ (.tmp 6) = .pointer (some ⟨r, 0, none⟩) := E.pre 2 rfl
        refine step_plain rfl ?_
        refine op_val (v := .pointer (some ⟨q, 0, none⟩)) (w' := w') ?_ ⟨Below.refl _ _, rfl⟩
        have hk := (World.cell?_of_block (w := w) (E.below.block _ hlg)).trans c0
        have hcon := E.con
        clear E c0 c1 c2 c3 c4
        go_simp
      · intro ρ w' E
        have e7 : ρ (.tmp 7) = .pointer (some ⟨q, 0, none⟩) := E.pre 3 rfl
        refine step_plain rfl ?_
        refine op_val (v := .pointer (some ⟨q, 0, none⟩)) (w' := w') ?_ ⟨Below.refl _ _, rfl⟩
        have hcon := E.con
        clear E
        go_simp
      · intro ρ w' E
        have e8 : ρ (.tmp 8) = .pointer (some ⟨q, 0, none⟩) := E.pre 4 rfl
        refine step_plain rfl ?_
        refine op_val (v := .pointer (some ⟨q, 0, none⟩)) (w' := w') ?_ ⟨Below.refl _ _, rfl⟩
        have hcon := E.con
        clear E
        go_simp
      · intro ρ w' E
        have e9 : ρ (.tmp 9) = .pointer (some ⟨q, 0, none⟩) := E.pre 5 rfl
        refine step_plain rfl ?_
        refine op_val (v := .bool false) (w' := w') ?_ ⟨Below.refl _ _, rfl⟩
        have hk := (World.cell?_of_block (w := w) (E.below.block _ hlq)).trans p0
        have hcon := E.con
        clear E c0 c1 c2 c3 c4
        go_simp
      · intro ρ w' E
        have e10 : ρ (.tmp 10) = .bool false := E.pre 6 rfl
        refine step_plain rfl ?_
        exact op_move (.inl rfl) e10 ⟨Below.refl _ _, rfl⟩
      · intro ρ w' E
        have e0 : ρ (.tmp 0) = .pointer (some ⟨r, 0, none⟩) := E.out 0 rfl
        refine step_yes rfl (E.pre 7 rfl) ?_
        exact op_move (.inl rfl) e0 ⟨Below.refl _ _, rfl⟩
      · intro ρ w' E
        have e12 : ρ (.tmp 12) = .pointer (some ⟨r, 0, none⟩) := E.pre 8 rfl
        refine step_yes rfl (E.pre 7 rfl) ?_
        refine op_val (v := .pointer (some ⟨r, 0, none⟩)) (w' := w') ?_ ⟨Below.refl _ _, rfl⟩
        have hcon := E.con
        clear E
        go_simp
      · intro ρ w' E
        have e13 : ρ (.tmp 13) = .pointer (some ⟨r, 0, none⟩) := E.pre 9 rfl
        refine step_yes rfl (E.pre 7 rfl) ?_
        refine op_val (v := .pointer (some ⟨r, 0, none⟩)) (w' := w') ?_ ⟨Below.refl _ _, rfl⟩
        have hcon := E.con
        clear E
        go_simp
      · intro ρ w' E
        have e14 : ρ (.tmp 14) = .pointer (some ⟨r, 0, none⟩) := E.pre 10 rfl
        refine step_yes rfl (E.pre 7 rfl) ?_
        refine op_val (v := .pointer (some ⟨q, 0, none⟩)) (w' := w') ?_ ⟨Below.refl _ _, rfl⟩
        have hk := (World.cell?_of_block (w := w) (E.below.block _ hlg)).trans c0
        have hcon := E.con
        clear E c0 c1 c2 c3 c4
        go_simp
      · intro ρ w' E
        have e15 : ρ (.tmp 15) = .pointer (some ⟨q, 0, none⟩) := E.pre 11 rfl
        refine step_yes rfl (E.pre 7 rfl) ?_
        refine op_val (v := .pointer (some ⟨q, 0, none⟩)) (w' := w') ?_ ⟨Below.refl _ _, rfl⟩
        have hcon := E.con
        clear E
        go_simp
      · intro ρ w' E
        have e16 : ρ (.tmp 16) = .pointer (some ⟨q, 0, none⟩) := E.pre 12 rfl
        refine step_yes rfl (E.pre 7 rfl) ?_
        refine op_val (v := .pointer (some ⟨q, 1, none⟩)) (w' := w') ?_ ⟨Below.refl _ _, rfl⟩
        have hcon := E.con
        clear E
        go_simp
      · intro ρ w' E
        have e17 : ρ (.tmp 17) = .pointer (some ⟨q, 1, none⟩) := E.pre 13 rfl
        refine step_yes rfl (E.pre 7 rfl) ?_
        refine op_val (v := .int .i64 p.life) (w' := w') ?_ ⟨Below.refl _ _, rfl⟩
        have hk := (World.cell?_of_block (w := w) (E.below.block _ hlq)).trans p1
        have hcon := E.con
        clear E c0 c1 c2 c3 c4
        go_simp
      · intro ρ w' E
        have e0 : ρ (.tmp 0) = .pointer (some ⟨r, 0, none⟩) := E.out 0 rfl
        refine step_yes rfl (E.pre 7 rfl) ?_
        exact op_move (.inl rfl) e0 ⟨Below.refl _ _, rfl⟩
      · intro ρ w' E
        have e19 : ρ (.tmp 19) = .pointer (some ⟨r, 0, none⟩) := E.pre 15 rfl
        refine step_yes rfl (E.pre 7 rfl) ?_
        refine op_val (v := .pointer (some ⟨r, 0, none⟩)) (w' := w') ?_ ⟨Below.refl _ _, rfl⟩
        have hcon := E.con
        clear E
        go_simp
      · intro ρ w' E
        have e20 : ρ (.tmp 20) = .pointer (some ⟨r, 0, none⟩) := E.pre 16 rfl
        refine step_yes rfl (E.pre 7 rfl) ?_
        refine op_val (v := .pointer (some ⟨r, 1, none⟩)) (w' := w') ?_ ⟨Below.refl _ _, rfl⟩
        have hcon := E.con
        clear E
        go_simp
      · intro ρ w' E
        have e21 : ρ (.tmp 21) = .pointer (some ⟨r, 1, none⟩) := E.pre 17 rfl
        refine step_yes rfl (E.pre 7 rfl) ?_
        refine op_val (v := .int .i64 d.life) (w' := w') ?_ ⟨Below.refl _ _, rfl⟩
        have hk := (World.cell?_of_block (w := w) (E.below.block _ hlg)).trans c1
        have hcon := E.con
        clear E c0 c1 c2 c3 c4
        go_simp
      · intro ρ w' E
        have e18 : ρ (.tmp 18) = .int .i64 p.life := E.pre 14 rfl
        have e22 : ρ (.tmp 22) = .int .i64 d.life := E.pre 18 rfl
        refine step_yes rfl (E.pre 7 rfl) ?_
        refine op_val (v := .bool false) (w' := w') ?_ ⟨Below.refl _ _, rfl⟩
        have hcon := E.con
        clear E c0 c1 c2 c3 c4
        go_simp
        try exact hl
      · intro ρ w' E
        have e11 : ρ (.tmp 11) = .bool false := E.pre 7 rfl
        have e23 : ρ (.tmp 23) = .bool false := E.pre 19 rfl
        refine step_plain rfl ?_
        exact op_pick (b := false) rfl e11 rfl ⟨Below.refl _ _, e23⟩
    · intro σ w0 hb0 hall
      have h24 : σ 24 = .bool false := by obtain ⟨_, _, _, _, _, _, _, _, _, _, _, _, _, _, _, _, _, _, _, _, h, _⟩ := hall; exact h
      clear hall
      simp only [upd, updL, dstsOf', elemB, List.filterMap_cons, List.filterMap_nil, Nat.reduceAdd, Nat.reduceBEq, Bool.or_false, Bool.false_or, Bool.or_true, Bool.true_or, cond_true, cond_false, Nat.zero_add, h24]
      have hc0 := Hc.out.ext hb0
      have hp0 := Hp.out.ext hb0
      have hmb := bmod hb0 (RDF B tb)
      clear c0 c1 c2 c3 c4 hfg hlg p0 p1 p6 hlq
      obtain ⟨c0, c1, c2, c3, c4, hfg, hlg⟩ := hc0.cells
      obtain ⟨p0, p1, p6, hlq⟩ := rpow_cells hp0
      rw [Hsn.out] at c2
      rw [Htn.out] at c3
      rw [HM0.out] at c4
      have hm1 := hc0.of_mod 1 (.int .i64 p.life)
      have HC1 := Lib.hid (hc0.setLife p.life)
      have HP1 := Lib.hid (hp0.mod hm1 (OF7_no_pow _))
      have HMb := Lib.hid (hmb.trans (OF7_rdf hm1 hc0.low))
      clear hc0 hp0 hmb hm1 hb0 h24 hl
      go_wp2_with fail
      generalize World.setCell _ _ _ = w1 at *
      have Hta : Hid (d.torn.length = n) := Htn
      go_loopw [2] (fun i wx => ∃ (k : Nat) (sk : List Bsl) (tk : List Bool) (wr : World), wr = wx ∧ k ≤ m ∧ i = .int .i64 (k : Int) ∧ sk.length = n ∧ tk.length = n ∧ RDkC K B wr r q tb p.life sa sc sk tc tk la lc ls ∧ (sk.map Bsl.l, tk) = applyR p 0 (d.loose.take k) (d.safe, d.torn) ∧ RPow R B wr q p ∧ Mod (RDF B tb) w wr) (fun i _ => m - (intOf i).toNat)
      case atStart => exact ⟨0, ss, d.torn, _, rfl, by omega, rfl, Hsn.out, Htn.out, HC1.out, by rw [Hss.out]; rfl, HP1.out, HMb.out⟩
      case round =>
        obtain ⟨k, sk, tk, wr, hwr, hk, rfl, hsk, htk, hck, hap, hpk, hmk⟩ := hrel
        subst hwr
        clear c0 c1 c2 c3 c4 hfg hlg p0 p1 p6 hlq HC1 HP1 HMb
        have Hck := Lib.hid hck
        have Hap := Lib.hid hap
        have Hsk := Lib.hid hsk
        have Htk := Lib.hid htk
        have Hpk := Lib.hid hpk
        have Hmk := Lib.hid hmk
        obtain ⟨c0, c1, c2, c3, c4, hfg, hlg⟩ := hck.cells
        obtain ⟨p0, p1, p6, hlq⟩ := rpow_cells hpk
        rw [hsk] at c2
        rw [htk] at c3
        rw [HM0.out] at c4
        clear hck hap hsk htk hpk hmk
        by_cases hlt : k < m
        · have hkp : k < ls.length := by have := HM0.out; omega
          obtain ⟨px, rfl, hpx, hpxl, hat, hfp⟩ := Hck.out.loose.elem WrV.len (by omega) hkp
          have m0 : wr.cell? ⟨px, k * 2, none⟩ = some (.int .i64 (ls[k].i : Int)) := hat 0 _ rfl
          have m1 : wr.cell? ⟨px, k * 2 + 1, none⟩ = some (.slice ls[k].a ls[k].b.length ls[k].c) := hat 1 _ rfl
          have hx := Hck.out.wrs _ (List.getElem_mem hkp)
          have Hst := Lib.hid (applyR_take_succ p d.loose (d.safe, d.torn) k (by have := HPl.out; omega))
          have hdk : d.loose[k]'(by have := HPl.out; omega) = ls[k].pl := by simp [← Hls.out]
          rw [hdk] at Hst
          have hxn := Hok.out.loose ls[k].pl (by rw [← Hls.out]; exact List.mem_map.2 ⟨_, List.getElem_mem hkp, rfl⟩)
          generalize ls[k] = x at *
          clear hat hdk
          have Hx := Lib.hid hx
          have hxi : x.i < n := hxn.1
          clear hx hxn
          have hput := setRow_heap (wr.alloc (.cells #[.int .i64 0, .slice none 0 0] 169)) wr.heap.size _ #[.int .i64 (x.i : Int), .slice x.a x.b.length x.c] _ _ (heap_alloc_new wr _)
          have hbp : Below wr.heap.size wr ((wr.alloc (.cells #[.int .i64 0, .slice none 0 0] 169)).setRow wr.heap.size #[.int .i64 (x.i : Int), .slice x.a x.b.length x.c]) := bsetRow (ext_alloc wr _) (Nat.le_refl _) _
          by_cases hkt : (k : Int) = p.torn
          · have hst := Hst.out
            rw [if_pos hkt] at hst
            have Hst2 := Lib.hid hst
            have hkt' : ((k : Int) == p.torn) = true := by simpa using hkt
            clear hst Hst hkt
            go_wp2_with (refine wpList_store_row rfl rfl 169 (.tmp 3) (.tmp 50) rfl wr.heap.size rfl 169 #[.int .i64 0, .slice none 0 0] #[.int .i64 (x.i : Int), .slice x.a x.b.length x.c] rfl (heap_alloc_new wr _) rfl (by kernel_rfl) (by simp [Value.oneCell']) ?_
                         generalize hws : World.setRow _ _ _ = w1 at *
                         generalize hGG : wr.heap.size = G3 at *
                         have Hb01 := Lib.hid hbp
                         have HGG := Lib.hid hGG
                         clear hws hbp c0 c1 c2 c3 c4 hfg p0 p1 p6 m0 m1 hGG hlg hlq hpxl
                         have hbx : Below wr.heap.size wr w1 := by rw [HGG.out]; exact Hb01.out
                         have hc1 := Hck.out.ext hbx
                         have hp1 := Hpk.out.ext hbx
                         have Hx1 : Hid (Held w1 K x.a x.c x.b) := Lib.hid (Hx.out.mod (bmod hbx fun _ _ => False) fun _ _ _ h => h)
                         have Hm1 := Lib.hid (Hmk.out.ext hbx)
                         obtain ⟨c0, c1, c2, c3, c4, hfg, hlg⟩ := hc1.cells
                         obtain ⟨p0, p1, p6, hlq⟩ := rpow_cells hp1
                         rw [Hsk.out] at c2
                         rw [Htk.out] at c3
                         rw [HM0.out] at c4
                         have Hc1 := Lib.hid hc1
                         have Hp1 := Lib.hid hp1
                         have hlm := heap_lt hput
                         have m0 : w1.cell? ⟨G3, 0, none⟩ = some (.int .i64 (x.i : Int)) := cell_of_row w1 _ 0 _ _ _ hput
                         have m1 : w1.cell? ⟨G3, 1, none⟩ = some (.slice x.a x.b.length x.c) := cell_of_row w1 _ 1 _ _ _ hput
                         clear hc1 hp1 hbx)
            refine wp_region_last2 _ _ (by simp only [lastSplit, Option.map_some]; rfl) (by kernel_rfl) [Sp.eq (.pointer (some ⟨r, 0, none⟩)), Sp.eq (.pointer (some ⟨r, 0, none⟩)), Sp.eq (.pointer (some ⟨r, 3, none⟩)), Sp.eq (.slice (some ⟨tb, 0, none⟩) n tc), Sp.eq (.pointer (some ⟨G3, 0, none⟩)), Sp.eq (.int .i64 (x.i : Int)), Sp.eq (.pointer (some ⟨tb, x.i, none⟩))] (by kernel_rfl) (by kernel_rfl) ?_ ?_
            · refine stepsOk_cons ?_ (stepsOk_cons ?_ (stepsOk_cons ?_ (stepsOk_cons ?_ (stepsOk_cons ?_ (stepsOk_cons ?_ (stepsOk_cons ?_ (stepsOk_nil)))))))
              · intro ρ w' E
                have e0 : ρ (.tmp 0) = .pointer (some ⟨r, 0, none⟩) := E.out 0 rfl
                refine step_plain rfl ?_
                exact op_move (.inl rfl) e0 ⟨Below.refl _ _, rfl⟩
              · intro ρ w' E
                have e60 : ρ (.tmp 60) = .pointer (some ⟨r, 0, none⟩) := E.pre 0 rfl
                refine step_plain rfl ?_
                refine op_val (v := .pointer (some ⟨r, 0, none⟩)) (w' := w') ?_ ⟨Below.refl _ _, rfl⟩
                have hcon := E.con
                clear E
                go_simp
              · intro ρ w' E
                have e61 : ρ (.tmp 61) = .pointer (some ⟨r, 0, none⟩) := E.pre 1 rfl
                refine step_plain rfl ?_
                refine op_val (v := .pointer (some ⟨r, 3, none⟩)) (w' := w') ?_ ⟨Below.refl _ _, rfl⟩
                have hcon := E.con
                clear E
                go_simp
              · intro ρ w' E
                have e62 : ρ (.tmp 62) = .pointer (some ⟨r, 3, none⟩) := E.pre 2 rfl
                refine step_plain rfl ?_
                refine op_val (v := .slice (some ⟨tb, 0, none⟩) n tc) (w' := w') ?_ ⟨Below.refl _ _, rfl⟩
                have hk := (World.cell?_of_block (w := w1) (E.below.block _ hlg)).trans c3
                have hcon := E.con
                clear E c0 c1 c2 c3 c4 m0 m1
                go_simp
              · intro ρ w' E
                have e3 : ρ (.tmp 3) = .pointer (some ⟨G3, 0, none⟩) := E.out 3 rfl
                refine step_plain rfl ?_
                refine op_val (v := .pointer (some ⟨G3, 0, none⟩)) (w' := w') ?_ ⟨Below.refl _ _, rfl⟩
                have hcon := E.con
                clear E
                go_simp
              · intro ρ w' E
                have e64 : ρ (.tmp 64) = .pointer (some ⟨G3, 0, none⟩) := E.pre 4 rfl
                refine step_plain rfl ?_
                refine op_val (v := .int .i64 (x.i : Int)) (w' := w') ?_ ⟨Below.refl _ _, rfl⟩
                have hk := (World.cell?_of_block (w := w1) (E.below.block _ hlm)).trans m0
                have hcon := E.con
                clear E c0 c1 c2 c3 c4 m0 m1
                go_simp
              · intro ρ w' E
                have e63 : ρ (.tmp 63) = .slice (some ⟨tb, 0, none⟩) n tc := E.pre 3 rfl
                have e65 : ρ (.tmp 65) = .int .i64 (x.i : Int) := E.pre 5 rfl
                refine step_plain rfl ?_
                refine op_val (v := .pointer (some ⟨tb, x.i, none⟩)) (w' := w') ?_ ⟨Below.refl _ _, rfl⟩
                have hcon := E.con
                clear E
                go_simp
            · intro σ w2 hb12 hall
              have h66 : σ 66 = .pointer (some ⟨tb, x.i, none⟩) := by obtain ⟨_, _, _, _, _, _, h, _⟩ := hall; exact h
              clear hall
              simp only [upd, updL, dstsOf', elemB, List.filterMap_cons, List.filterMap_nil, Nat.reduceAdd, Nat.reduceBEq, Bool.or_false, Bool.false_or, Bool.or_true, Bool.true_or, cond_true, cond_false, Nat.zero_add, h66]
              have hc2 := Hc1.out.ext hb12
              have hs2 := hc2.setTorn (i := x.i) true (by rw [Htk.out]; exact hxi)
              obtain ⟨g', hg', _, _, hat, hfz⟩ := hc2.torn.at (i := x.i) (by rw [Htk.out]; exact hxi)
              simp only [Option.some.injEq, Addr.mk.injEq, and_self, and_true] at hg'
              subst hg'
              have ht := hat x.i (by rw [bovs_length, Htk.out]; exact hxi)
              have hft := hfz x.i
              have HC2 := Lib.hid hs2.1
              have HP2 := Lib.hid ((Hp1.out.ext hb12).rf7 hs2.2 HtR.out)
              have HM2 := Lib.hid ((Hm1.out.ext hb12).trans (RF7_rdf hs2.2))
              clear c0 c1 c2 c3 c4 m0 m1 hfg hlg hlm p0 p1 p6 hlq hat hfz hs2 hc2 hb12 h66 hput
              go_wp2_with fail
              go_roundw
              case rel =>
                refine ⟨k + 1, sk, tk.set x.i true, _, rfl, by omega, by go_num, Hsk.out, by rw [List.length_set]; exact Htk.out, HC2.out, ?_, HP2.out, HM2.out⟩
                rw [Hst2.out, ← Hap.out]
                rfl
              case measure => simp [intOf]; omega
          · have hst := Hst.out
            rw [if_neg hkt] at hst
            have hkt' : ((k : Int) == p.torn) = false := by simpa using hkt
            clear Hst hkt
            cases hkk : p.kept (k : Int) with
            | true =>
              rw [if_pos hkk] at hst
              have Hst2 := Lib.hid hst
              have Hkk := Lib.hid hkk
              clear hst hkk
              go_wp2_with (refine wpList_store_row rfl rfl 169 (.tmp 3) (.tmp 50) rfl wr.heap.size rfl 169 #[.int .i64 0, .slice none 0 0] #[.int .i64 (x.i : Int), .slice x.a x.b.length x.c] rfl (heap_alloc_new wr _) rfl (by kernel_rfl) (by simp [Value.oneCell']) ?_
                           generalize hws : World.setRow _ _ _ = w1 at *
                           generalize hGG : wr.heap.size = G3 at *
                           have Hb01 := Lib.hid hbp
                           have HGG := Lib.hid hGG
                           clear hws hbp c0 c1 c2 c3 c4 hfg p0 p1 p6 m0 m1 hGG hlg hlq hpxl
                           have hbx : Below wr.heap.size wr w1 := by rw [HGG.out]; exact Hb01.out
                           have hc1 := Hck.out.ext hbx
                           have hp1 := Hpk.out.ext hbx
                           have Hx1 : Hid (Held w1 K x.a x.c x.b) := Lib.hid (Hx.out.mod (bmod hbx fun _ _ => False) fun _ _ _ h => h)
                           have Hm1 := Lib.hid (Hmk.out.ext hbx)
                           obtain ⟨c0, c1, c2, c3, c4, hfg, hlg⟩ := hc1.cells
                           obtain ⟨p0, p1, p6, hlq⟩ := rpow_cells hp1
                           rw [Hsk.out] at c2
                           rw [Htk.out] at c3
                           rw [HM0.out] at c4
                           have Hc1 := Lib.hid hc1
                           have Hp1 := Lib.hid hp1
                           have hlm := heap_lt hput
                           have m0 : w1.cell? ⟨G3, 0, none⟩ = some (.int .i64 (x.i : Int)) := cell_of_row w1 _ 0 _ _ _ hput
                           have m1 : w1.cell? ⟨G3, 1, none⟩ = some (.slice x.a x.b.length x.c) := cell_of_row w1 _ 1 _ _ _ hput
                           clear hc1 hp1 hbx)
              refine (rpow_kept p (k : Int) w1 Hp1.out Hkk.out).mono ?_
              rintro e w2 ⟨rfl, rfl⟩
              obtain ⟨sx, hsx, hBsx, hlsx, _, _⟩ := Hc1.out.safe.at (i := x.i) (by rw [Hsk.out]; exact hxi)
              subst hsx
              have hob := Hc1.out.obj
              have hob7 : ¬ RF7 B tb r 165 := by rintro ⟨_, h | ⟨_, h⟩⟩ <;> revert h <;> decide
              have hput7 : ¬ RF7 B tb G3 169 := by rintro ⟨_, h | ⟨_, h⟩⟩ <;> revert h <;> decide
              go_wp2_with fail
              refine wp_region_chainL (by kernel_rfl) [15, 17] (Mod.rel (RF7 B tb)) [SpT.eq (.pointer (some ⟨r, 0, none⟩)), SpT.eq (.pointer (some ⟨r, 0, none⟩)), SpT.eq (.pointer (some ⟨r, 2, none⟩)), SpT.eq (.slice (some ⟨sx, 0, none⟩) n sc), SpT.eq (.pointer (some ⟨G3, 0, none⟩)), SpT.eq (.int .i64 (x.i : Int)), SpT.eq (.pointer (some ⟨r, 0, none⟩)), SpT.eq (.pointer (some ⟨r, 0, none⟩)), SpT.eq (.pointer (some ⟨r, 3, none⟩)), SpT.eq (.slice (some ⟨tb, 0, none⟩) n tc), SpT.eq (.pointer (some ⟨G3, 0, none⟩)), SpT.eq (.int .i64 (x.i : Int)), SpT.eq (.pointer (some ⟨G3, 1, none⟩)), SpT.eq (.slice x.a x.b.length x.c), SpT.eq (.pointer (some ⟨sx, x.i, none⟩)), SpT.top, SpT.eq (.pointer (some ⟨tb, x.i, none⟩)), SpT.top] (by kernel_rfl) (by kernel_rfl) (by kernel_rfl) (by kernel_rfl) ?_ ?_
              · refine stepsL_free rfl ?_ (stepsL_free rfl ?_ (stepsL_free rfl ?_ (stepsL_free rfl ?_ (stepsL_free rfl ?_ (stepsL_free rfl ?_ (stepsL_free rfl ?_ (stepsL_free rfl ?_ (stepsL_free rfl ?_ (stepsL_free rfl ?_ (stepsL_free rfl ?_ (stepsL_free rfl ?_ (stepsL_free rfl ?_ (stepsL_free rfl ?_ (stepsL_free rfl ?_ (stepsL_chain rfl (stepsL_free rfl ?_ (stepsL_chain rfl (stepsL_nil))))))))))))))))))
                · intro ρ w' E
                  have e0 : ρ (.tmp 0) = .pointer (some ⟨r, 0, none⟩) := E.out 0 rfl
                  refine step_plain rfl ?_
                  exact op_move (.inl rfl) e0 ⟨Below.refl _ _, rfl⟩
                · intro ρ w' E
                  have e73 : ρ (.tmp 73) = .pointer (some ⟨r, 0, none⟩) := E.pre 0 rfl rfl
                  refine step_plain rfl ?_
                  refine op_val (v := .pointer (some ⟨r, 0, none⟩)) (w' := w') ?_ ⟨Below.refl _ _, rfl⟩
                  have hcon := E.con
                  clear E
                  go_simp
                · intro ρ w' E
                  have e74 : ρ (.tmp 74) = .pointer (some ⟨r, 0, none⟩) := E.pre 1 rfl rfl
                  refine step_plain rfl ?_
                  refine op_val (v := .pointer (some ⟨r, 2, none⟩)) (w' := w') ?_ ⟨Below.refl _ _, rfl⟩
                  have hcon := E.con
                  clear E
                  go_simp
                · intro ρ w' E
                  have e75 : ρ (.tmp 75) = .pointer (some ⟨r, 2, none⟩) := E.pre 2 rfl rfl
                  refine step_plain rfl ?_
                  refine op_val (v := .slice (some ⟨sx, 0, none⟩) n sc) (w' := w') ?_ ⟨Below.refl _ _, rfl⟩
                  have hk : w'.cell? ⟨r, 2, none⟩ = some (.slice (some ⟨sx, 0, none⟩) n sc) := (World.cell?_of_block (w := w1) ((E.t.keep hob hob7).trans hob.symm)).trans c2
                  have hcon := E.con
                  clear E c0 c1 c2 c3 c4 m0 m1
                  go_simp
                · intro ρ w' E
                  have e3 : ρ (.tmp 3) = .pointer (some ⟨G3, 0, none⟩) := E.out 3 rfl
                  refine step_plain rfl ?_
                  refine op_val (v := .pointer (some ⟨G3, 0, none⟩)) (w' := w') ?_ ⟨Below.refl _ _, rfl⟩
                  have hcon := E.con
                  clear E
                  go_simp
                · intro ρ w' E
                  have e77 : ρ (.tmp 77) = .pointer (some ⟨G3, 0, none⟩) := E.pre 4 rfl rfl
                  refine step_plain rfl ?_
                  refine op_val (v := .int .i64 (x.i : Int)) (w' := w') ?_ ⟨Below.refl _ _, rfl⟩
                  have hk : w'.cell? ⟨G3, 0, none⟩ = some (.int .i64 (x.i : Int)) := (World.cell?_of_block (w := w1) ((E.t.keep hput hput7).trans hput.symm)).trans m0
                  have hcon := E.con
                  clear E c0 c1 c2 c3 c4 m0 m1
                  go_simp
                · intro ρ w' E
                  have e0 : ρ (.tmp 0) = .pointer (some ⟨r, 0, none⟩) := E.out 0 rfl
                  refine step_plain rfl ?_
                  exact op_move (.inl rfl) e0 ⟨Below.refl _ _, rfl⟩
                · intro ρ w' E
                  have e79 : ρ (.tmp 79) = .pointer (some ⟨r, 0, none⟩) := E.pre 6 rfl rfl
                  refine step_plain rfl ?_
                  refine op_val (v := .pointer (some ⟨r, 0, none⟩)) (w' := w') ?_ ⟨Below.refl _ _, rfl⟩
                  have hcon := E.con
                  clear E
                  go_simp
                · intro ρ w' E
                  have e80 : ρ (.tmp 80) = .pointer (some ⟨r, 0, none⟩) := E.pre 7 rfl rfl
                  refine step_plain rfl ?_
                  refine op_val (v := .pointer (some ⟨r, 3, none⟩)) (w' := w') ?_ ⟨Below.refl _ _, rfl⟩
                  have hcon := E.con
                  clear E
                  go_simp
                · intro ρ w' E
                  have e81 : ρ (.tmp 81) = .pointer (some ⟨r, 3, none⟩) := E.pre 8 rfl rfl
                  refine step_plain rfl ?_
                  refine op_val (v := .slice (some ⟨tb, 0, none⟩) n tc) (w' := w') ?_ ⟨Below.refl _ _, rfl⟩
                  have hk : w'.cell? ⟨r, 3, none⟩ = some (.slice (some ⟨tb, 0, none⟩) n tc) := (World.cell?_of_block (w := w1) ((E.t.keep hob hob7).trans hob.symm)).trans c3
                  have hcon := E.con
                  clear E c0 c1 c2 c3 c4 m0 m1
                  go_simp
                · intro ρ w' E
                  have e3 : ρ (.tmp 3) = .pointer (some ⟨G3, 0, none⟩) := E.out 3 rfl
                  refine step_plain rfl ?_
                  refine op_val (v := .pointer (some ⟨G3, 0, none⟩)) (w' := w') ?_ ⟨Below.refl _ _, rfl⟩
                  have hcon := E.con
                  clear E
                  go_simp
                · intro ρ w' E
                  have e83 : ρ (.tmp 83) = .pointer (some ⟨G3, 0, none⟩) := E.pre 10 rfl rfl
                  refine step_plain rfl ?_
                  refine op_val (v := .int .i64 (x.i : Int)) (w' := w') ?_ ⟨Below.refl _ _, rfl⟩
                  have hk : w'.cell? ⟨G3, 0, none⟩ = some (.int .i64 (x.i : Int)) := (World.cell?_of_block (w := w1) ((E.t.keep hput hput7).trans hput.symm)).trans m0
                  have hcon := E.con
                  clear E c0 c1 c2 c3 c4 m0 m1
                  go_simp
                · intro ρ w' E
                  have e3 : ρ (.tmp 3) = .pointer (some ⟨G3, 0, none⟩) := E.out 3 rfl
                  refine step_plain rfl ?_
                  refine op_val (v := .pointer (some ⟨G3, 1, none⟩)) (w' := w') ?_ ⟨Below.refl _ _, rfl⟩
                  have hcon := E.con
                  clear E
                  go_simp
                · intro ρ w' E
                  have e85 : ρ (.tmp 85) = .pointer (some ⟨G3, 1, none⟩) := E.pre 12 rfl rfl
                  refine step_plain rfl ?_
                  refine op_val (v := .slice x.a x.b.length x.c) (w' := w') ?_ ⟨Below.refl _ _, rfl⟩
                  have hk : w'.cell? ⟨G3, 1, none⟩ = some (.slice x.a x.b.length x.c) := (World.cell?_of_block (w := w1) ((E.t.keep hput hput7).trans hput.symm)).trans m1
                  have hcon := E.con
                  clear E c0 c1 c2 c3 c4 m0 m1
                  go_simp
                · intro ρ w' E
                  have e76 : ρ (.tmp 76) = .slice (some ⟨sx, 0, none⟩) n sc := E.pre 3 rfl rfl
                  have e78 : ρ (.tmp 78) = .int .i64 (x.i : Int) := E.pre 5 rfl rfl
                  refine step_plain rfl ?_
                  refine op_val (v := .pointer (some ⟨sx, x.i, none⟩)) (w' := w') ?_ ⟨Below.refl _ _, rfl⟩
                  have hcon := E.con
                  clear E
                  go_simp
                · intro ρ w' E
                  have e82 : ρ (.tmp 82) = .slice (some ⟨tb, 0, none⟩) n tc := E.pre 9 rfl rfl
                  have e84 : ρ (.tmp 84) = .int .i64 (x.i : Int) := E.pre 11 rfl rfl
                  refine step_plain rfl ?_
                  refine op_val (v := .pointer (some ⟨tb, x.i, none⟩)) (w' := w') ?_ ⟨Below.refl _ _, rfl⟩
                  have hcon := E.con
                  clear E
                  go_simp
              · intro ρ1 w1c G1 E1
                have e87 : ρ1 (.tmp 87) = .pointer (some ⟨sx, x.i, none⟩) := E1.pre 14 rfl rfl
                have e86 : ρ1 (.tmp 86) = .slice x.a x.b.length x.c := E1.pre 13 rfl rfl
                refine step_plain rfl ?_
                have hc1 := Hc1.out.ext G1
                have hs1 := hc1.setSafe (y := ⟨x.a, x.c, x.b⟩) (n := x.b.length) (i := x.i) rfl (by rw [Hsk.out]; exact hxi) ((Hx1.out).mod (bmod G1 fun _ _ => False) fun _ _ _ h => h)
                obtain ⟨g', hg', _, _, hat, hfz⟩ := hc1.safe.at (i := x.i) (by rw [Hsk.out]; exact hxi)
                simp only [Option.some.injEq, Addr.mk.injEq, and_self, and_true] at hg'
                subst hg'
                refine op_store rfl e87 e86 rfl (hat x.i (by rw [List.length_map, Hsk.out]; exact hxi)) (hfz _) (by kernel_rfl) ⟨hs1.2, ?_⟩
                clear hat hfz
                intro ρ2 w2c G2 E2
                have e88 : ρ2 (.tmp 88) = .pointer (some ⟨tb, x.i, none⟩) := E2.pre 16 rfl rfl
                refine step_plain rfl ?_
                have hc2 := hs1.1.ext G2
                have hs2 := hc2.setTorn (i := x.i) false (by rw [Htk.out]; exact hxi)
                obtain ⟨g', hg', _, _, hat, hfz⟩ := hc2.torn.at (i := x.i) (by rw [Htk.out]; exact hxi)
                simp only [Option.some.injEq, Addr.mk.injEq, and_self, and_true] at hg'
                subst hg'
                refine op_store rfl e88 (E2.con _) rfl (hat x.i (by rw [bovs_length, Htk.out]; exact hxi)) (hfz _) (by kernel_rfl) ⟨trivial, ?_⟩
                clear hat hfz
                intro σ wF GF hκ
                simp only [upd, updL, dstsOf', elemB, List.filterMap_cons, List.filterMap_nil, Nat.reduceAdd, Nat.reduceBEq, Bool.or_false, Bool.false_or, Bool.or_true, Bool.true_or, cond_true, cond_false, Nat.zero_add]
                have HC2 := Lib.hid (hs2.1.ext GF)
                have HP2 := Lib.hid (((((Hp1.out.ext G1).rf7 hs1.2 HtR.out).ext G2).rf7 hs2.2 HtR.out).ext GF)
                have HM2 := Lib.hid (((((Hm1.out.ext G1).trans (RF7_rdf hs1.2)).ext G2).trans (RF7_rdf hs2.2)).ext GF)
                clear c0 c1 c2 c3 c4 m0 m1 hfg hlg hlm p0 p1 p6 hlq hs1 hs2 hc1 hc2 G1 G2 GF E1 E2 hκ hob hob7 hput7 hput e87 e86 e88
                go_wp2_with fail
                go_roundw
                case rel =>
                  refine ⟨k + 1, sk.set x.i ⟨x.a, x.c, x.b⟩, tk.set x.i false, _, rfl, by omega, by go_num, by rw [List.length_set]; exact Hsk.out, by rw [List.length_set]; exact Htk.out, HC2.out, ?_, HP2.out, HM2.out⟩
                  rw [Hst2.out, ← Hap.out, List.map_set]
                  rfl
                case measure => simp [intOf]; omega
            | false =>
              rw [if_neg (by rw [hkk]; decide)] at hst
              have Hst2 := Lib.hid hst
              have Hkk := Lib.hid hkk
              clear hst hkk
              go_wp2_with (refine wpList_store_row rfl rfl 169 (.tmp 3) (.tmp 50) rfl wr.heap.size rfl 169 #[.int .i64 0, .slice none 0 0] #[.int .i64 (x.i : Int), .slice x.a x.b.length x.c] rfl (heap_alloc_new wr _) rfl (by kernel_rfl) (by simp [Value.oneCell']) ?_
                           generalize hws : World.setRow _ _ _ = w1 at *
                           generalize hGG : wr.heap.size = G3 at *
                           have Hb01 := Lib.hid hbp
                           have HGG := Lib.hid hGG
                           clear hws hbp c0 c1 c2 c3 c4 hfg p0 p1 p6 m0 m1 hGG hlg hlq hpxl
                           have hbx : Below wr.heap.size wr w1 := by rw [HGG.out]; exact Hb01.out
                           have hc1 := Hck.out.ext hbx
                           have hp1 := Hpk.out.ext hbx
                           have Hx1 : Hid (Held w1 K x.a x.c x.b) := Lib.hid (Hx.out.mod (bmod hbx fun _ _ => False) fun _ _ _ h => h)
                           have Hm1 := Lib.hid (Hmk.out.ext hbx)
                           obtain ⟨c0, c1, c2, c3, c4, hfg, hlg⟩ := hc1.cells
                           obtain ⟨p0, p1, p6, hlq⟩ := rpow_cells hp1
                           rw [Hsk.out] at c2
                           rw [Htk.out] at c3
                           rw [HM0.out] at c4
                           have Hc1 := Lib.hid hc1
                           have Hp1 := Lib.hid hp1
                           have hlm := heap_lt hput
                           have m0 : w1.cell? ⟨G3, 0, none⟩ = some (.int .i64 (x.i : Int)) := cell_of_row w1 _ 0 _ _ _ hput
                           have m1 : w1.cell? ⟨G3, 1, none⟩ = some (.slice x.a x.b.length x.c) := cell_of_row w1 _ 1 _ _ _ hput
                           clear hc1 hp1 hbx)
              refine (rpow_kept p (k : Int) w1 Hp1.out Hkk.out).mono ?_
              rintro e w2 ⟨rfl, rfl⟩
              clear c0 c1 c2 c3 c4 m0 m1 hfg hlg hlm p0 p1 p6 hlq hput
              go_wp2_with fail
              go_roundw
              case rel => exact ⟨k + 1, sk, tk, _, rfl, by omega, by go_num, Hsk.out, Htk.out, Hc1.out, by rw [Hst2.out]; exact Hap.out, Hp1.out, Hm1.out⟩
              case measure => simp [intOf]; omega
        · have hkm : m = k := by omega
          subst hkm
          have hap := Hap.out
          rw [List.take_of_length_le (by have := HPl.out; omega)] at hap
          have HapF := Lib.hid hap
          have hmF := Hck.out.of_mod 4 (.slice none 0 0)
          have HCF := Lib.hid Hck.out.setNil
          have HPF := Lib.hid (Hpk.out.mod hmF (OF7_no_pow _))
          have HMF := Lib.hid (Hmk.out.trans (OF7_rdf hmF Hck.out.low))
          clear hap hmF
          go_wp2
          go_end0
          exact ⟨rfl, ⟨sa, sc, sk, tc, none, 0, [], by rw [← HapF.out]; exact HCF.out, by rw [← HapF.out], rfl⟩, HPF.out, HMF.out⟩
end Go.Proofs.Ytclkkhpnnbkfmaa
