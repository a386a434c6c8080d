/- The page's robot: Put. -/
import Derived.Test.YtmaagkdehdmhlaaRobotExactPartU
import Derived.Test.YtmaagkdehdmhlaaRobotExactPartN
import Derived.Test.YtmaagkdehdmhlaaRobotExactPartG
import Derived.Test.YtmaagkdehdmhlaaRegionPhase
import Derived.Test.YtmaagkdehdmhlaaRegionLast
import Derived.Test.YtmaagkdehdmhlaaRegionChainL
import Derived.Test.YtmaagkdehdmhlaaRobotExactPartR
namespace Go.Proofs.Ytmaagkdehdmhlaa
open Go.RowKit

variable {B : Nat} {Z : Nat → Prop} {w w' : World} {r q : Nat} {S : RS} {V : RRV} {D : Nat → Nat} {s : PS}
set_option maxRecDepth 100000 in
set_option maxHeartbeats 4000000 in
theorem rrob_put_bad (v cap : Int) (aM : Option Addr) (cM n : Nat) (us : List CellV) (w : World) (h : RRobP B Z w r q S D s) (hs : CMat w aM us) (hn : n = us.length) (hn2 : n ≤ 100000)
    (hbad : v < 0 ∨ (S.vols.length : Int) ≤ v ∨ (medOf cap us).ok = false ∨ cap ≠ S.size) :
    Calls Try.prog 15 #[.pointer (some ⟨r, 0, none⟩), .int .i64 v, .agg #[.int .i64 cap, .slice aM n cM]] w fun e w' => e = .returned (.int .i64 1) ∧ Below w.heap.size w w' := by
  have hz := heap_alloc_new w (.cells #[.int .i64 cap, .slice aM n cM] 45)
  have hb := ext_alloc w (.cells #[.int .i64 cap, .slice aM n cM] 45)
  obtain ⟨⟨V, h1, h2⟩, hok, hp⟩ := h.ext hb
  obtain ⟨_, r1, _, _, _, _, _, hfr, hlr⟩ := h1.cells
  have hlM := heap_lt hz
  have m0 := cell_of_row _ w.heap.size 0 _ _ _ hz
  have m1 := cell_of_row _ w.heap.size 1 _ _ _ hz
  have HS := Lib.hid (hs.ext hb)
  have Hn := Lib.hid hn
  have hv8 := hok.vols.2
  have HB := Lib.hid hb
  obtain ⟨gV, x0, eV, lV, ht0⟩ := h1.tapeAt (v := 0) (by have := hok.vols; omega)
  have H1 := Lib.hid h1
  have HeV := Lib.hid eV
  obtain ⟨nV, hnV⟩ : ∃ n, n = S.vols.length := ⟨_, rfl⟩
  obtain ⟨sz, hsz⟩ : ∃ n, n = S.size := ⟨_, rfl⟩
  rw [← hnV, eV] at r1
  rw [← hnV] at hbad hv8
  rw [← hsz] at hbad
  have HnV := Lib.hid hnV
  have Hsz := Lib.hid hsz
  generalize V.cV = cV at *
  clear h h1 h2 hok hp hs hn hb hnV hsz ht0 x0 eV hfr lV
  go_enter Try.func15, Try.ntmps15
  go_wp2_with fail
  generalize w.alloc (.cells #[.int .i64 cap, .slice aM n cM] 45) = wx at *
  obtain ⟨G, hG⟩ : ∃ G, G = w.heap.size := ⟨_, rfl⟩
  rw [← hG] at hlM m0 m1 hz ⊢
  clear hG hz
  by_cases ha : v < 0
  · have hvf : decide (v < 0) = true := by simpa using ha
    clear hbad
    refine wp_region_phase (by kernel_rfl) [] (by kernel_rfl) (by kernel_rfl) ?_
    refine stage_last [Sp.eq (.int .i64 v), Sp.eq (.bool true), Sp.eq (.bool true), Sp.eq (undef), Sp.eq (undef), Sp.eq (undef), Sp.eq (undef), Sp.eq (undef), Sp.eq (undef), Sp.eq (undef), Sp.eq (.bool true), Sp.eq (.bool true), Sp.eq (undef), Sp.eq (undef), Sp.eq (undef), Sp.eq (.bool true), Sp.eq (.bool true), Sp.eq (undef), Sp.eq (undef), Sp.eq (undef), Sp.eq (undef), Sp.eq (undef), Sp.eq (undef), Sp.eq (undef), Sp.eq (undef), Sp.eq (undef), Sp.eq (undef), Sp.eq (undef), Sp.eq (.bool true)] ?_ ?_
    · refine stepsG_cons ?_ (stepsG_cons ?_ (stepsG_cons ?_ (stepsG_cons ?_ (stepsG_cons ?_ (stepsG_cons ?_ (stepsG_cons ?_ (stepsG_cons ?_ (stepsG_cons ?_ (stepsG_cons ?_ (stepsG_cons ?_ (stepsG_cons ?_ (stepsG_cons ?_ (stepsG_cons ?_ (stepsG_cons ?_ (stepsG_cons ?_ (stepsG_cons ?_ (stepsG_cons ?_ (stepsG_cons ?_ (stepsG_cons ?_ (stepsG_cons ?_ (stepsG_cons ?_ (stepsG_cons ?_ (stepsG_cons ?_ (stepsG_cons ?_ (stepsG_cons ?_ (stepsG_cons ?_ (stepsG_cons ?_ (stepsG_cons ?_ (stepsG_nil)))))))))))))))))))))))))))))
      · intro ρ w' E
        have e1 : ρ (.tmp 1) = .int .i64 v := E.out 1 rfl
        refine step_plain rfl ?_
        exact op_move (.inl rfl) e1 ⟨Below.refl _ _, rfl⟩
      · intro ρ w' E
        have e8 : ρ (.tmp 8) = .int .i64 v := E.pre 0 rfl rfl
        refine step_plain rfl ?_
        refine op_val (v := .bool true) (w' := w') ?_ ⟨Below.refl _ _, rfl⟩
        have hv := hvf
        have hcon := E.con
        clear E r1 m0 m1
        go_simp
      · intro ρ w' E
        have e9 : ρ (.tmp 9) = .bool true := E.pre 1 rfl rfl
        refine step_plain rfl ?_
        exact op_move (.inl rfl) e9 ⟨Below.refl _ _, rfl⟩
      · intro ρ w' E
        exact step_no rfl (E.pre 2 rfl rfl) ⟨Below.refl _ _, rfl⟩
      · intro ρ w' E
        exact step_no rfl (E.pre 2 rfl rfl) ⟨Below.refl _ _, rfl⟩
      · intro ρ w' E
        exact step_no rfl (E.pre 2 rfl rfl) ⟨Below.refl _ _, rfl⟩
      · intro ρ w' E
        exact step_no rfl (E.pre 2 rfl rfl) ⟨Below.refl _ _, rfl⟩
      · intro ρ w' E
        exact step_no rfl (E.pre 2 rfl rfl) ⟨Below.refl _ _, rfl⟩
      · intro ρ w' E
        exact step_no rfl (E.pre 2 rfl rfl) ⟨Below.refl _ _, rfl⟩
      · intro ρ w' E
        exact step_no rfl (E.pre 2 rfl rfl) ⟨Below.refl _ _, rfl⟩
      · intro ρ w' E
        have e10 : ρ (.tmp 10) = .bool true := E.pre 2 rfl rfl
        have e17 : ρ (.tmp 17) = undef := E.pre 9 rfl rfl
        refine step_plain rfl ?_
        exact op_pick (b := true) rfl e10 rfl ⟨Below.refl _ _, (E.con _)⟩
      · intro ρ w' E
        have e18 : ρ (.tmp 18) = .bool true := E.pre 10 rfl rfl
        refine step_plain rfl ?_
        exact op_move (.inl rfl) e18 ⟨Below.refl _ _, rfl⟩
      · intro ρ w' E
        exact step_no rfl (E.pre 11 rfl rfl) ⟨Below.refl _ _, rfl⟩
      · intro ρ w' E
        exact step_no rfl (E.pre 11 rfl rfl) ⟨Below.refl _ _, rfl⟩
      · intro ρ w' E
        exact step_no rfl (E.pre 11 rfl rfl) ⟨Below.refl _ _, rfl⟩
      · intro ρ w' E
        have e19 : ρ (.tmp 19) = .bool true := E.pre 11 rfl rfl
        have e22 : ρ (.tmp 22) = undef := E.pre 14 rfl rfl
        refine step_plain rfl ?_
        exact op_pick (b := true) rfl e19 rfl ⟨Below.refl _ _, (E.con _)⟩
      · intro ρ w' E
        have e23 : ρ (.tmp 23) = .bool true := E.pre 15 rfl rfl
        refine step_plain rfl ?_
        exact op_move (.inl rfl) e23 ⟨Below.refl _ _, rfl⟩
      · intro ρ w' E
        exact step_no rfl (E.pre 16 rfl rfl) ⟨Below.refl _ _, rfl⟩
      · intro ρ w' E
        exact step_no rfl (E.pre 16 rfl rfl) ⟨Below.refl _ _, rfl⟩
      · intro ρ w' E
        exact step_no rfl (E.pre 16 rfl rfl) ⟨Below.refl _ _, rfl⟩
      · intro ρ w' E
        exact step_no rfl (E.pre 16 rfl rfl) ⟨Below.refl _ _, rfl⟩
      · intro ρ w' E
        exact step_no rfl (E.pre 16 rfl rfl) ⟨Below.refl _ _, rfl⟩
      · intro ρ w' E
        exact step_no rfl (E.pre 16 rfl rfl) ⟨Below.refl _ _, rfl⟩
      · intro ρ w' E
        exact step_no rfl (E.pre 16 rfl rfl) ⟨Below.refl _ _, rfl⟩
      · intro ρ w' E
        exact step_no rfl (E.pre 16 rfl rfl) ⟨Below.refl _ _, rfl⟩
      · intro ρ w' E
        exact step_no rfl (E.pre 16 rfl rfl) ⟨Below.refl _ _, rfl⟩
      · intro ρ w' E
        exact step_no rfl (E.pre 16 rfl rfl) ⟨Below.refl _ _, rfl⟩
      · intro ρ w' E
        exact step_no rfl (E.pre 16 rfl rfl) ⟨Below.refl _ _, rfl⟩
      · intro ρ w' E
        have e24 : ρ (.tmp 24) = .bool true := E.pre 16 rfl rfl
        have e35 : ρ (.tmp 35) = undef := E.pre 27 rfl rfl
        refine step_plain rfl ?_
        exact op_pick (b := true) rfl e24 rfl ⟨Below.refl _ _, (E.con _)⟩
    · intro σF wF GF OF HF
      have s36 : σF 36 = .bool true := HF 28 rfl rfl
      clear OF HF
      have HBF := Lib.hid (bthen HB.out GF (Nat.le_refl _))
      clear GF m0 m1 r1
      simp only [upd, updL, dstsOf', elemB, List.filterMap_cons, List.filterMap_nil, Nat.reduceAdd, Nat.reduceBEq, Bool.or_false, Bool.false_or, Bool.or_true, Bool.true_or, cond_true, cond_false, Nat.zero_add, s36]
      go_wp2
      go_ret
      exact ⟨rfl, HBF.out⟩
  have hvf : decide (v < 0) = false := by simpa using ha
  by_cases hb2 : (nV : Int) ≤ v
  · have hvg : decide (v ≥ (nV : Int)) = true := by simpa using hb2
    clear hbad
    refine wp_region_phase (by kernel_rfl) [] (by kernel_rfl) (by kernel_rfl) ?_
    refine stage_last [Sp.eq (.int .i64 v), Sp.eq (.bool false), Sp.eq (.bool false), Sp.eq (.int .i64 v), Sp.eq (.pointer (some ⟨r, 0, none⟩)), Sp.eq (.pointer (some ⟨r, 0, none⟩)), Sp.eq (.pointer (some ⟨r, 1, none⟩)), Sp.eq (.slice (some ⟨gV, 0, none⟩) nV cV), Sp.eq (.int .i64 (nV : Int)), Sp.eq (.bool true), Sp.eq (.bool true), Sp.eq (.bool true), Sp.eq (undef), Sp.eq (undef), Sp.eq (undef), Sp.eq (.bool true), Sp.eq (.bool true), Sp.eq (undef), Sp.eq (undef), Sp.eq (undef), Sp.eq (undef), Sp.eq (undef), Sp.eq (undef), Sp.eq (undef), Sp.eq (undef), Sp.eq (undef), Sp.eq (undef), Sp.eq (undef), Sp.eq (.bool true)] ?_ ?_
    · refine stepsG_cons ?_ (stepsG_cons ?_ (stepsG_cons ?_ (stepsG_cons ?_ (stepsG_cons ?_ (stepsG_cons ?_ (stepsG_cons ?_ (stepsG_cons ?_ (stepsG_cons ?_ (stepsG_cons ?_ (stepsG_cons ?_ (stepsG_cons ?_ (stepsG_cons ?_ (stepsG_cons ?_ (stepsG_cons ?_ (stepsG_cons ?_ (stepsG_cons ?_ (stepsG_cons ?_ (stepsG_cons ?_ (stepsG_cons ?_ (stepsG_cons ?_ (stepsG_cons ?_ (stepsG_cons ?_ (stepsG_cons ?_ (stepsG_cons ?_ (stepsG_cons ?_ (stepsG_cons ?_ (stepsG_cons ?_ (stepsG_cons ?_ (stepsG_nil)))))))))))))))))))))))))))))
      · intro ρ w' E
        have e1 : ρ (.tmp 1) = .int .i64 v := E.out 1 rfl
        refine step_plain rfl ?_
        exact op_move (.inl rfl) e1 ⟨Below.refl _ _, rfl⟩
      · intro ρ w' E
        have e8 : ρ (.tmp 8) = .int .i64 v := E.pre 0 rfl rfl
        refine step_plain rfl ?_
        refine op_val (v := .bool false) (w' := w') ?_ ⟨Below.refl _ _, rfl⟩
        have hv := hvf
        have hcon := E.con
        clear E r1 m0 m1
        go_simp
      · intro ρ w' E
        have e9 : ρ (.tmp 9) = .bool false := E.pre 1 rfl rfl
        refine step_plain rfl ?_
        exact op_move (.inl rfl) e9 ⟨Below.refl _ _, rfl⟩
      · intro ρ w' E
        have e1 : ρ (.tmp 1) = .int .i64 v := E.out 1 rfl
        refine step_yes rfl (E.pre 2 rfl rfl) ?_
        exact op_move (.inl rfl) e1 ⟨Below.refl _ _, rfl⟩
      · intro ρ w' E
        have e0 : ρ (.tmp 0) = .pointer (some ⟨r, 0, none⟩) := E.out 0 rfl
        refine step_yes rfl (E.pre 2 rfl rfl) ?_
        exact op_move (.inl rfl) e0 ⟨Below.refl _ _, rfl⟩
      · intro ρ w' E
        have e12 : ρ (.tmp 12) = .pointer (some ⟨r, 0, none⟩) := E.pre 4 rfl rfl
        refine step_yes rfl (E.pre 2 rfl rfl) ?_
        refine op_val (v := .pointer (some ⟨r, 0, none⟩)) (w' := w') ?_ ⟨Below.refl _ _, rfl⟩
        have hcon := E.con
        clear E
        go_simp
      · intro ρ w' E
        have e13 : ρ (.tmp 13) = .pointer (some ⟨r, 0, none⟩) := E.pre 5 rfl rfl
        refine step_yes rfl (E.pre 2 rfl rfl) ?_
        refine op_val (v := .pointer (some ⟨r, 1, none⟩)) (w' := w') ?_ ⟨Below.refl _ _, rfl⟩
        have hcon := E.con
        clear E
        go_simp
      · intro ρ w' E
        have e14 : ρ (.tmp 14) = .pointer (some ⟨r, 1, none⟩) := E.pre 6 rfl rfl
        refine step_yes rfl (E.pre 2 rfl rfl) ?_
        refine op_val (v := .slice (some ⟨gV, 0, none⟩) nV cV) (w' := w') ?_ ⟨Below.refl _ _, rfl⟩
        have hk := (World.cell?_of_block (w := wx) (E.below.block _ hlr)).trans r1
        have hcon := E.con
        clear E r1 m0 m1
        go_simp
      · intro ρ w' E
        have e15 : ρ (.tmp 15) = .slice (some ⟨gV, 0, none⟩) nV cV := E.pre 7 rfl rfl
        refine step_yes rfl (E.pre 2 rfl rfl) ?_
        refine op_val (v := .int .i64 (nV : Int)) (w' := w') ?_ ⟨Below.refl _ _, rfl⟩
        have hcon := E.con
        clear E
        go_simp
      · intro ρ w' E
        have e11 : ρ (.tmp 11) = .int .i64 v := E.pre 3 rfl rfl
        have e16 : ρ (.tmp 16) = .int .i64 (nV : Int) := E.pre 8 rfl rfl
        refine step_yes rfl (E.pre 2 rfl rfl) ?_
        refine op_val (v := .bool true) (w' := w') ?_ ⟨Below.refl _ _, rfl⟩
        have hv := hvg
        have hcon := E.con
        clear E r1 m0 m1
        go_simp
      · intro ρ w' E
        have e10 : ρ (.tmp 10) = .bool false := E.pre 2 rfl rfl
        have e17 : ρ (.tmp 17) = .bool true := E.pre 9 rfl rfl
        refine step_plain rfl ?_
        exact op_pick (b := false) rfl e10 rfl ⟨Below.refl _ _, e17⟩
      · intro ρ w' E
        have e18 : ρ (.tmp 18) = .bool true := E.pre 10 rfl rfl
        refine step_plain rfl ?_
        exact op_move (.inl rfl) e18 ⟨Below.refl _ _, rfl⟩
      · intro ρ w' E
        exact step_no rfl (E.pre 11 rfl rfl) ⟨Below.refl _ _, rfl⟩
      · intro ρ w' E
        exact step_no rfl (E.pre 11 rfl rfl) ⟨Below.refl _ _, rfl⟩
      · intro ρ w' E
        exact step_no rfl (E.pre 11 rfl rfl) ⟨Below.refl _ _, rfl⟩
      · intro ρ w' E
        have e19 : ρ (.tmp 19) = .bool true := E.pre 11 rfl rfl
        have e22 : ρ (.tmp 22) = undef := E.pre 14 rfl rfl
        refine step_plain rfl ?_
        exact op_pick (b := true) rfl e19 rfl ⟨Below.refl _ _, (E.con _)⟩
      · intro ρ w' E
        have e23 : ρ (.tmp 23) = .bool true := E.pre 15 rfl rfl
        refine step_plain rfl ?_
        exact op_move (.inl rfl) e23 ⟨Below.refl _ _, rfl⟩
      · intro ρ w' E
        exact step_no rfl (E.pre 16 rfl rfl) ⟨Below.refl _ _, rfl⟩
      · intro ρ w' E
        exact step_no rfl (E.pre 16 rfl rfl) ⟨Below.refl _ _, rfl⟩
      · intro ρ w' E
        exact step_no rfl (E.pre 16 rfl rfl) ⟨Below.refl _ _, rfl⟩
      · intro ρ w' E
        exact step_no rfl (E.pre 16 rfl rfl) ⟨Below.refl _ _, rfl⟩
      · intro ρ w' E
        exact step_no rfl (E.pre 16 rfl rfl) ⟨Below.refl _ _, rfl⟩
      · intro ρ w' E
        exact step_no rfl (E.pre 16 rfl rfl) ⟨Below.refl _ _, rfl⟩
      · intro ρ w' E
        exact step_no rfl (E.pre 16 rfl rfl) ⟨Below.refl _ _, rfl⟩
      · intro ρ w' E
        exact step_no rfl (E.pre 16 rfl rfl) ⟨Below.refl _ _, rfl⟩
      · intro ρ w' E
        exact step_no rfl (E.pre 16 rfl rfl) ⟨Below.refl _ _, rfl⟩
      · intro ρ w' E
        exact step_no rfl (E.pre 16 rfl rfl) ⟨Below.refl _ _, rfl⟩
      · intro ρ w' E
        exact step_no rfl (E.pre 16 rfl rfl) ⟨Below.refl _ _, rfl⟩
      · intro ρ w' E
        have e24 : ρ (.tmp 24) = .bool true := E.pre 16 rfl rfl
        have e35 : ρ (.tmp 35) = undef := E.pre 27 rfl rfl
        refine step_plain rfl ?_
        exact op_pick (b := true) rfl e24 rfl ⟨Below.refl _ _, (E.con _)⟩
    · intro σF wF GF OF HF
      have s36 : σF 36 = .bool true := HF 28 rfl rfl
      clear OF HF
      have HBF := Lib.hid (bthen HB.out GF (Nat.le_refl _))
      clear GF m0 m1 r1
      simp only [upd, updL, dstsOf', elemB, List.filterMap_cons, List.filterMap_nil, Nat.reduceAdd, Nat.reduceBEq, Bool.or_false, Bool.false_or, Bool.or_true, Bool.true_or, cond_true, cond_false, Nat.zero_add, s36]
      go_wp2
      go_ret
      exact ⟨rfl, HBF.out⟩
  have hvg : decide (v ≥ (nV : Int)) = false := by simpa using hb2
  cases hck : (medOf cap us).ok with
  | false =>
    have Hok := Lib.hid hck
    clear hbad hck
    refine wp_region_phase (by kernel_rfl) [] (by kernel_rfl) (by kernel_rfl) ?_
    refine stage_last [Sp.eq (.int .i64 v), Sp.eq (.bool false), Sp.eq (.bool false), Sp.eq (.int .i64 v), Sp.eq (.pointer (some ⟨r, 0, none⟩)), Sp.eq (.pointer (some ⟨r, 0, none⟩)), Sp.eq (.pointer (some ⟨r, 1, none⟩)), Sp.eq (.slice (some ⟨gV, 0, none⟩) nV cV), Sp.eq (.int .i64 (nV : Int)), Sp.eq (.bool false), Sp.eq (.bool false), Sp.eq (.bool false), Sp.eq (.agg #[.int .i64 cap, .slice aM n cM]), Sp.eq (.bool false), Sp.eq (.bool true), Sp.eq (.bool true), Sp.eq (.bool true), Sp.eq (undef), Sp.eq (undef), Sp.eq (undef), Sp.eq (undef), Sp.eq (undef), Sp.eq (undef), Sp.eq (undef), Sp.eq (undef), Sp.eq (undef), Sp.eq (undef), Sp.eq (undef), Sp.eq (.bool true)] ?_ ?_
    · refine stepsG_cons ?_ (stepsG_cons ?_ (stepsG_cons ?_ (stepsG_cons ?_ (stepsG_cons ?_ (stepsG_cons ?_ (stepsG_cons ?_ (stepsG_cons ?_ (stepsG_cons ?_ (stepsG_cons ?_ (stepsG_cons ?_ (stepsG_cons ?_ (stepsG_cons ?_ (stepsG_cons ?_ (stepsG_cons ?_ (stepsG_cons ?_ (stepsG_cons ?_ (stepsG_cons ?_ (stepsG_cons ?_ (stepsG_cons ?_ (stepsG_cons ?_ (stepsG_cons ?_ (stepsG_cons ?_ (stepsG_cons ?_ (stepsG_cons ?_ (stepsG_cons ?_ (stepsG_cons ?_ (stepsG_cons ?_ (stepsG_cons ?_ (stepsG_nil)))))))))))))))))))))))))))))
      · intro ρ w' E
        have e1 : ρ (.tmp 1) = .int .i64 v := E.out 1 rfl
        refine step_plain rfl ?_
        exact op_move (.inl rfl) e1 ⟨Below.refl _ _, rfl⟩
      · intro ρ w' E
        have e8 : ρ (.tmp 8) = .int .i64 v := E.pre 0 rfl rfl
        refine step_plain rfl ?_
        refine op_val (v := .bool false) (w' := w') ?_ ⟨Below.refl _ _, rfl⟩
        have hv := hvf
        have hcon := E.con
        clear E r1 m0 m1
        go_simp
      · intro ρ w' E
        have e9 : ρ (.tmp 9) = .bool false := E.pre 1 rfl rfl
        refine step_plain rfl ?_
        exact op_move (.inl rfl) e9 ⟨Below.refl _ _, rfl⟩
      · intro ρ w' E
        have e1 : ρ (.tmp 1) = .int .i64 v := E.out 1 rfl
        refine step_yes rfl (E.pre 2 rfl rfl) ?_
        exact op_move (.inl rfl) e1 ⟨Below.refl _ _, rfl⟩
      · intro ρ w' E
        have e0 : ρ (.tmp 0) = .pointer (some ⟨r, 0, none⟩) := E.out 0 rfl
        refine step_yes rfl (E.pre 2 rfl rfl) ?_
        exact op_move (.inl rfl) e0 ⟨Below.refl _ _, rfl⟩
      · intro ρ w' E
        have e12 : ρ (.tmp 12) = .pointer (some ⟨r, 0, none⟩) := E.pre 4 rfl rfl
        refine step_yes rfl (E.pre 2 rfl rfl) ?_
        refine op_val (v := .pointer (some ⟨r, 0, none⟩)) (w' := w') ?_ ⟨Below.refl _ _, rfl⟩
        have hcon := E.con
        clear E
        go_simp
      · intro ρ w' E
        have e13 : ρ (.tmp 13) = .pointer (some ⟨r, 0, none⟩) := E.pre 5 rfl rfl
        refine step_yes rfl (E.pre 2 rfl rfl) ?_
        refine op_val (v := .pointer (some ⟨r, 1, none⟩)) (w' := w') ?_ ⟨Below.refl _ _, rfl⟩
        have hcon := E.con
        clear E
        go_simp
      · intro ρ w' E
        have e14 : ρ (.tmp 14) = .pointer (some ⟨r, 1, none⟩) := E.pre 6 rfl rfl
        refine step_yes rfl (E.pre 2 rfl rfl) ?_
        refine op_val (v := .slice (some ⟨gV, 0, none⟩) nV cV) (w' := w') ?_ ⟨Below.refl _ _, rfl⟩
        have hk := (World.cell?_of_block (w := wx) (E.below.block _ hlr)).trans r1
        have hcon := E.con
        clear E r1 m0 m1
        go_simp
      · intro ρ w' E
        have e15 : ρ (.tmp 15) = .slice (some ⟨gV, 0, none⟩) nV cV := E.pre 7 rfl rfl
        refine step_yes rfl (E.pre 2 rfl rfl) ?_
        refine op_val (v := .int .i64 (nV : Int)) (w' := w') ?_ ⟨Below.refl _ _, rfl⟩
        have hcon := E.con
        clear E
        go_simp
      · intro ρ w' E
        have e11 : ρ (.tmp 11) = .int .i64 v := E.pre 3 rfl rfl
        have e16 : ρ (.tmp 16) = .int .i64 (nV : Int) := E.pre 8 rfl rfl
        refine step_yes rfl (E.pre 2 rfl rfl) ?_
        refine op_val (v := .bool false) (w' := w') ?_ ⟨Below.refl _ _, rfl⟩
        have hv := hvg
        have hcon := E.con
        clear E r1 m0 m1
        go_simp
      · intro ρ w' E
        have e10 : ρ (.tmp 10) = .bool false := E.pre 2 rfl rfl
        have e17 : ρ (.tmp 17) = .bool false := E.pre 9 rfl rfl
        refine step_plain rfl ?_
        exact op_pick (b := false) rfl e10 rfl ⟨Below.refl _ _, e17⟩
      · intro ρ w' E
        have e18 : ρ (.tmp 18) = .bool false := E.pre 10 rfl rfl
        refine step_plain rfl ?_
        exact op_move (.inl rfl) e18 ⟨Below.refl _ _, rfl⟩
      · intro ρ w' E
        have e5 : ρ (.tmp 5) = .pointer (some ⟨G, 0, none⟩) := E.out 5 rfl
        refine step_yes rfl (E.pre 11 rfl rfl) ?_
        refine op_val (v := .agg #[.int .i64 cap, .slice aM n cM]) (w' := w') ?_ ⟨Below.refl _ _, rfl⟩
        have k0 := (World.cell?_of_block (w := wx) (E.below.block _ hlM)).trans m0
        have k1 := (World.cell?_of_block (w := wx) (E.below.block _ hlM)).trans m1
        have hcon := E.con
        clear E r1 m0 m1
        go_simp
      · intro ρ w' E
        have e20 : ρ (.tmp 20) = .agg #[.int .i64 cap, .slice aM n cM] := E.pre 12 rfl rfl
        refine step_yes rfl (E.pre 11 rfl rfl) ?_
        refine op_call (f := 44) (args := #[.agg #[.int .i64 cap, .slice aM n cM]]) (w' := w') (by have hcon := E.con; have hfn := E.fn; clear E; go_simp) ?_
        refine (refmed_any cap aM cM n us false w' (HS.out.ext E.below) Hn.out (by omega) Hok.out).mono ?_
        rintro e w2 ⟨rfl, hb⟩
        exact ⟨_, rfl, hb, rfl⟩
      · intro ρ w' E
        have e21 : ρ (.tmp 21) = .bool false := E.pre 13 rfl rfl
        refine step_yes rfl (E.pre 11 rfl rfl) ?_
        refine op_val (v := .bool true) (w' := w') ?_ ⟨Below.refl _ _, rfl⟩
        have hcon := E.con
        clear E
        go_simp
      · intro ρ w' E
        have e19 : ρ (.tmp 19) = .bool false := E.pre 11 rfl rfl
        have e22 : ρ (.tmp 22) = .bool true := E.pre 14 rfl rfl
        refine step_plain rfl ?_
        exact op_pick (b := false) rfl e19 rfl ⟨Below.refl _ _, e22⟩
      · intro ρ w' E
        have e23 : ρ (.tmp 23) = .bool true := E.pre 15 rfl rfl
        refine step_plain rfl ?_
        exact op_move (.inl rfl) e23 ⟨Below.refl _ _, rfl⟩
      · intro ρ w' E
        exact step_no rfl (E.pre 16 rfl rfl) ⟨Below.refl _ _, rfl⟩
      · intro ρ w' E
        exact step_no rfl (E.pre 16 rfl rfl) ⟨Below.refl _ _, rfl⟩
      · intro ρ w' E
        exact step_no rfl (E.pre 16 rfl rfl) ⟨Below.refl _ _, rfl⟩
      · intro ρ w' E
        exact step_no rfl (E.pre 16 rfl rfl) ⟨Below.refl _ _, rfl⟩
      · intro ρ w' E
        exact step_no rfl (E.pre 16 rfl rfl) ⟨Below.refl _ _, rfl⟩
      · intro ρ w' E
        exact step_no rfl (E.pre 16 rfl rfl) ⟨Below.refl _ _, rfl⟩
      · intro ρ w' E
        exact step_no rfl (E.pre 16 rfl rfl) ⟨Below.refl _ _, rfl⟩
      · intro ρ w' E
        exact step_no rfl (E.pre 16 rfl rfl) ⟨Below.refl _ _, rfl⟩
      · intro ρ w' E
        exact step_no rfl (E.pre 16 rfl rfl) ⟨Below.refl _ _, rfl⟩
      · intro ρ w' E
        exact step_no rfl (E.pre 16 rfl rfl) ⟨Below.refl _ _, rfl⟩
      · intro ρ w' E
        exact step_no rfl (E.pre 16 rfl rfl) ⟨Below.refl _ _, rfl⟩
      · intro ρ w' E
        have e24 : ρ (.tmp 24) = .bool true := E.pre 16 rfl rfl
        have e35 : ρ (.tmp 35) = undef := E.pre 27 rfl rfl
        refine step_plain rfl ?_
        exact op_pick (b := true) rfl e24 rfl ⟨Below.refl _ _, (E.con _)⟩
    · intro σF wF GF OF HF
      have s36 : σF 36 = .bool true := HF 28 rfl rfl
      clear OF HF
      have HBF := Lib.hid (bthen HB.out GF (Nat.le_refl _))
      clear GF m0 m1 r1
      simp only [upd, updL, dstsOf', elemB, List.filterMap_cons, List.filterMap_nil, Nat.reduceAdd, Nat.reduceBEq, Bool.or_false, Bool.false_or, Bool.or_true, Bool.true_or, cond_true, cond_false, Nat.zero_add, s36]
      go_wp2
      go_ret
      exact ⟨rfl, HBF.out⟩
  | true =>
    have Hok := Lib.hid hck
    have hcq : (cap != sz) = true := by
      have : cap ≠ sz := by
        rcases hbad with h | h | h | h
        · exact absurd h ha
        · exact absurd h hb2
        · rw [hck] at h; cases h
        · exact h
      simpa using this
    obtain ⟨vn, rfl⟩ := Int.eq_ofNat_of_zero_le (show 0 ≤ v by omega)
    have hvn : vn < nV := by omega
    obtain ⟨gV', xv, eV', hlV, hts, t0, t1, hTI, hXok, hXcap, hXv⟩ := H1.out.tapeAt (v := vn) (by rw [← HnV.out]; exact hvn)
    rw [HeV.out] at eV'
    simp only [Option.some.injEq, Addr.mk.injEq, and_self, and_true] at eV'
    subst eV'
    rw [hXcap, ← Hsz.out] at t0
    clear hbad hck hts t1 hTI hXok hXcap hXv
    refine wp_region_phase (by kernel_rfl) [] (by kernel_rfl) (by kernel_rfl) ?_
    refine stage_last [Sp.eq (.int .i64 (vn : Int)), Sp.eq (.bool false), Sp.eq (.bool false), Sp.eq (.int .i64 (vn : Int)), Sp.eq (.pointer (some ⟨r, 0, none⟩)), Sp.eq (.pointer (some ⟨r, 0, none⟩)), Sp.eq (.pointer (some ⟨r, 1, none⟩)), Sp.eq (.slice (some ⟨gV, 0, none⟩) nV cV), Sp.eq (.int .i64 (nV : Int)), Sp.eq (.bool false), Sp.eq (.bool false), Sp.eq (.bool false), Sp.eq (.agg #[.int .i64 cap, .slice aM n cM]), Sp.eq (.bool true), Sp.eq (.bool false), Sp.eq (.bool false), Sp.eq (.bool false), Sp.eq (.pointer (some ⟨G, 0, none⟩)), Sp.eq (.int .i64 cap), Sp.eq (.pointer (some ⟨r, 0, none⟩)), Sp.eq (.pointer (some ⟨r, 0, none⟩)), Sp.eq (.pointer (some ⟨r, 1, none⟩)), Sp.eq (.slice (some ⟨gV, 0, none⟩) nV cV), Sp.eq (.int .i64 (vn : Int)), Sp.eq (.pointer (some ⟨gV, vn * 2, none⟩)), Sp.eq (.pointer (some ⟨gV, vn * 2, none⟩)), Sp.eq (.int .i64 sz), Sp.eq (.bool true), Sp.eq (.bool true)] ?_ ?_
    · refine stepsG_cons ?_ (stepsG_cons ?_ (stepsG_cons ?_ (stepsG_cons ?_ (stepsG_cons ?_ (stepsG_cons ?_ (stepsG_cons ?_ (stepsG_cons ?_ (stepsG_cons ?_ (stepsG_cons ?_ (stepsG_cons ?_ (stepsG_cons ?_ (stepsG_cons ?_ (stepsG_cons ?_ (stepsG_cons ?_ (stepsG_cons ?_ (stepsG_cons ?_ (stepsG_cons ?_ (stepsG_cons ?_ (stepsG_cons ?_ (stepsG_cons ?_ (stepsG_cons ?_ (stepsG_cons ?_ (stepsG_cons ?_ (stepsG_cons ?_ (stepsG_cons ?_ (stepsG_cons ?_ (stepsG_cons ?_ (stepsG_cons ?_ (stepsG_nil)))))))))))))))))))))))))))))
      · intro ρ w' E
        have e1 : ρ (.tmp 1) = .int .i64 (vn : Int) := E.out 1 rfl
        refine step_plain rfl ?_
        exact op_move (.inl rfl) e1 ⟨Below.refl _ _, rfl⟩
      · intro ρ w' E
        have e8 : ρ (.tmp 8) = .int .i64 (vn : Int) := E.pre 0 rfl rfl
        refine step_plain rfl ?_
        refine op_val (v := .bool false) (w' := w') ?_ ⟨Below.refl _ _, rfl⟩
        have hv := hvf
        have hcon := E.con
        clear E r1 m0 m1 t0
        go_simp
      · intro ρ w' E
        have e9 : ρ (.tmp 9) = .bool false := E.pre 1 rfl rfl
        refine step_plain rfl ?_
        exact op_move (.inl rfl) e9 ⟨Below.refl _ _, rfl⟩
      · intro ρ w' E
        have e1 : ρ (.tmp 1) = .int .i64 (vn : Int) := E.out 1 rfl
        refine step_yes rfl (E.pre 2 rfl rfl) ?_
        exact op_move (.inl rfl) e1 ⟨Below.refl _ _, rfl⟩
      · intro ρ w' E
        have e0 : ρ (.tmp 0) = .pointer (some ⟨r, 0, none⟩) := E.out 0 rfl
        refine step_yes rfl (E.pre 2 rfl rfl) ?_
        exact op_move (.inl rfl) e0 ⟨Below.refl _ _, rfl⟩
      · intro ρ w' E
        have e12 : ρ (.tmp 12) = .pointer (some ⟨r, 0, none⟩) := E.pre 4 rfl rfl
        refine step_yes rfl (E.pre 2 rfl rfl) ?_
        refine op_val (v := .pointer (some ⟨r, 0, none⟩)) (w' := w') ?_ ⟨Below.refl _ _, rfl⟩
        have hcon := E.con
        clear E
        go_simp
      · intro ρ w' E
        have e13 : ρ (.tmp 13) = .pointer (some ⟨r, 0, none⟩) := E.pre 5 rfl rfl
        refine step_yes rfl (E.pre 2 rfl rfl) ?_
        refine op_val (v := .pointer (some ⟨r, 1, none⟩)) (w' := w') ?_ ⟨Below.refl _ _, rfl⟩
        have hcon := E.con
        clear E
        go_simp
      · intro ρ w' E
        have e14 : ρ (.tmp 14) = .pointer (some ⟨r, 1, none⟩) := E.pre 6 rfl rfl
        refine step_yes rfl (E.pre 2 rfl rfl) ?_
        refine op_val (v := .slice (some ⟨gV, 0, none⟩) nV cV) (w' := w') ?_ ⟨Below.refl _ _, rfl⟩
        have hk := (World.cell?_of_block (w := wx) (E.below.block _ hlr)).trans r1
        have hcon := E.con
        clear E r1 m0 m1 t0
        go_simp
      · intro ρ w' E
        have e15 : ρ (.tmp 15) = .slice (some ⟨gV, 0, none⟩) nV cV := E.pre 7 rfl rfl
        refine step_yes rfl (E.pre 2 rfl rfl) ?_
        refine op_val (v := .int .i64 (nV : Int)) (w' := w') ?_ ⟨Below.refl _ _, rfl⟩
        have hcon := E.con
        clear E
        go_simp
      · intro ρ w' E
        have e11 : ρ (.tmp 11) = .int .i64 (vn : Int) := E.pre 3 rfl rfl
        have e16 : ρ (.tmp 16) = .int .i64 (nV : Int) := E.pre 8 rfl rfl
        refine step_yes rfl (E.pre 2 rfl rfl) ?_
        refine op_val (v := .bool false) (w' := w') ?_ ⟨Below.refl _ _, rfl⟩
        have hv := hvg
        have hcon := E.con
        clear E r1 m0 m1 t0
        go_simp
      · intro ρ w' E
        have e10 : ρ (.tmp 10) = .bool false := E.pre 2 rfl rfl
        have e17 : ρ (.tmp 17) = .bool false := E.pre 9 rfl rfl
        refine step_plain rfl ?_
        exact op_pick (b := false) rfl e10 rfl ⟨Below.refl _ _, e17⟩
      · intro ρ w' E
        have e18 : ρ (.tmp 18) = .bool false := E.pre 10 rfl rfl
        refine step_plain rfl ?_
        exact op_move (.inl rfl) e18 ⟨Below.refl _ _, rfl⟩
      · intro ρ w' E
        have e5 : ρ (.tmp 5) = .pointer (some ⟨G, 0, none⟩) := E.out 5 rfl
        refine step_yes rfl (E.pre 11 rfl rfl) ?_
        refine op_val (v := .agg #[.int .i64 cap, .slice aM n cM]) (w' := w') ?_ ⟨Below.refl _ _, rfl⟩
        have k0 := (World.cell?_of_block (w := wx) (E.below.block _ hlM)).trans m0
        have k1 := (World.cell?_of_block (w := wx) (E.below.block _ hlM)).trans m1
        have hcon := E.con
        clear E r1 m0 m1 t0
        go_simp
      · intro ρ w' E
        have e20 : ρ (.tmp 20) = .agg #[.int .i64 cap, .slice aM n cM] := E.pre 12 rfl rfl
        refine step_yes rfl (E.pre 11 rfl rfl) ?_
        refine op_call (f := 44) (args := #[.agg #[.int .i64 cap, .slice aM n cM]]) (w' := w') (by have hcon := E.con; have hfn := E.fn; clear E; go_simp) ?_
        refine (refmed_any cap aM cM n us true w' (HS.out.ext E.below) Hn.out (by omega) Hok.out).mono ?_
        rintro e w2 ⟨rfl, hb⟩
        exact ⟨_, rfl, hb, rfl⟩
      · intro ρ w' E
        have e21 : ρ (.tmp 21) = .bool true := E.pre 13 rfl rfl
        refine step_yes rfl (E.pre 11 rfl rfl) ?_
        refine op_val (v := .bool false) (w' := w') ?_ ⟨Below.refl _ _, rfl⟩
        have hcon := E.con
        clear E
        go_simp
      · intro ρ w' E
        have e19 : ρ (.tmp 19) = .bool false := E.pre 11 rfl rfl
        have e22 : ρ (.tmp 22) = .bool false := E.pre 14 rfl rfl
        refine step_plain rfl ?_
        exact op_pick (b := false) rfl e19 rfl ⟨Below.refl _ _, e22⟩
      · intro ρ w' E
        have e23 : ρ (.tmp 23) = .bool false := E.pre 15 rfl rfl
        refine step_plain rfl ?_
        exact op_move (.inl rfl) e23 ⟨Below.refl _ _, rfl⟩
      · intro ρ w' E
        have e5 : ρ (.tmp 5) = .pointer (some ⟨G, 0, none⟩) := E.out 5 rfl
        refine step_yes rfl (E.pre 16 rfl rfl) ?_
        refine op_val (v := .pointer (some ⟨G, 0, none⟩)) (w' := w') ?_ ⟨Below.refl _ _, rfl⟩
        have hcon := E.con
        clear E
        go_simp
      · intro ρ w' E
        have e25 : ρ (.tmp 25) = .pointer (some ⟨G, 0, none⟩) := E.pre 17 rfl rfl
        refine step_yes rfl (E.pre 16 rfl rfl) ?_
        refine op_val (v := .int .i64 cap) (w' := w') ?_ ⟨Below.refl _ _, rfl⟩
        have hk := (World.cell?_of_block (w := wx) (E.below.block _ hlM)).trans m0
        have hcon := E.con
        clear E r1 m0 m1 t0
        go_simp
      · intro ρ w' E
        have e0 : ρ (.tmp 0) = .pointer (some ⟨r, 0, none⟩) := E.out 0 rfl
        refine step_yes rfl (E.pre 16 rfl rfl) ?_
        exact op_move (.inl rfl) e0 ⟨Below.refl _ _, rfl⟩
      · intro ρ w' E
        have e27 : ρ (.tmp 27) = .pointer (some ⟨r, 0, none⟩) := E.pre 19 rfl rfl
        refine step_yes rfl (E.pre 16 rfl rfl) ?_
        refine op_val (v := .pointer (some ⟨r, 0, none⟩)) (w' := w') ?_ ⟨Below.refl _ _, rfl⟩
        have hcon := E.con
        clear E
        go_simp
      · intro ρ w' E
        have e28 : ρ (.tmp 28) = .pointer (some ⟨r, 0, none⟩) := E.pre 20 rfl rfl
        refine step_yes rfl (E.pre 16 rfl rfl) ?_
        refine op_val (v := .pointer (some ⟨r, 1, none⟩)) (w' := w') ?_ ⟨Below.refl _ _, rfl⟩
        have hcon := E.con
        clear E
        go_simp
      · intro ρ w' E
        have e29 : ρ (.tmp 29) = .pointer (some ⟨r, 1, none⟩) := E.pre 21 rfl rfl
        refine step_yes rfl (E.pre 16 rfl rfl) ?_
        refine op_val (v := .slice (some ⟨gV, 0, none⟩) nV cV) (w' := w') ?_ ⟨Below.refl _ _, rfl⟩
        have hk := (World.cell?_of_block (w := wx) (E.below.block _ hlr)).trans r1
        have hcon := E.con
        clear E r1 m0 m1 t0
        go_simp
      · intro ρ w' E
        have e1 : ρ (.tmp 1) = .int .i64 (vn : Int) := E.out 1 rfl
        refine step_yes rfl (E.pre 16 rfl rfl) ?_
        exact op_move (.inl rfl) e1 ⟨Below.refl _ _, rfl⟩
      · intro ρ w' E
        have e30 : ρ (.tmp 30) = .slice (some ⟨gV, 0, none⟩) nV cV := E.pre 22 rfl rfl
        have e31 : ρ (.tmp 31) = .int .i64 (vn : Int) := E.pre 23 rfl rfl
        refine step_yes rfl (E.pre 16 rfl rfl) ?_
        refine op_val (v := .pointer (some ⟨gV, vn * 2, none⟩)) (w' := w') ?_ ⟨Below.refl _ _, rfl⟩
        have hcon := E.con
        clear E
        go_simp
      · intro ρ w' E
        have e32 : ρ (.tmp 32) = .pointer (some ⟨gV, vn * 2, none⟩) := E.pre 24 rfl rfl
        refine step_yes rfl (E.pre 16 rfl rfl) ?_
        refine op_val (v := .pointer (some ⟨gV, vn * 2, none⟩)) (w' := w') ?_ ⟨Below.refl _ _, rfl⟩
        have hcon := E.con
        clear E
        go_simp
      · intro ρ w' E
        have e33 : ρ (.tmp 33) = .pointer (some ⟨gV, vn * 2, none⟩) := E.pre 25 rfl rfl
        refine step_yes rfl (E.pre 16 rfl rfl) ?_
        refine op_val (v := .int .i64 sz) (w' := w') ?_ ⟨Below.refl _ _, rfl⟩
        have hk := (World.cell?_of_block (w := wx) (E.below.block _ hlV)).trans t0
        have hcon := E.con
        clear E r1 m0 m1 t0
        go_simp
      · intro ρ w' E
        have e26 : ρ (.tmp 26) = .int .i64 cap := E.pre 18 rfl rfl
        have e34 : ρ (.tmp 34) = .int .i64 sz := E.pre 26 rfl rfl
        refine step_yes rfl (E.pre 16 rfl rfl) ?_
        refine op_val (v := .bool true) (w' := w') ?_ ⟨Below.refl _ _, rfl⟩
        have hv := hcq
        have hcon := E.con
        clear E r1 m0 m1 t0
        go_simp
      · intro ρ w' E
        have e24 : ρ (.tmp 24) = .bool false := E.pre 16 rfl rfl
        have e35 : ρ (.tmp 35) = .bool true := E.pre 27 rfl rfl
        refine step_plain rfl ?_
        exact op_pick (b := false) rfl e24 rfl ⟨Below.refl _ _, e35⟩
    · intro σF wF GF OF HF
      have s36 : σF 36 = .bool true := HF 28 rfl rfl
      clear OF HF
      have HBF := Lib.hid (bthen HB.out GF (Nat.le_refl _))
      clear GF m0 m1 r1 t0
      simp only [upd, updL, dstsOf', elemB, List.filterMap_cons, List.filterMap_nil, Nat.reduceAdd, Nat.reduceBEq, Bool.or_false, Bool.false_or, Bool.or_true, Bool.true_or, cond_true, cond_false, Nat.zero_add, s36]
      go_wp2
      go_ret
      exact ⟨rfl, HBF.out⟩
/-- A volume's tape is another one; the drive that holds it keeps its own. -/
theorem RRbL.putTape {v : Nat} {x : TapeV} (h : RRbL B Z w r q S V) (hv : v < S.vols.length) (hg : x.M.ok = true ∧ x.M.cap = S.size) (hx : RRaw B Z w' r q { V with ts := V.ts.set v x } S.bays.length (V.bs.map BayV.ptr) (V.bs.map BayV.held) (V.bs.map BayV.used) S.asked S.mounts) (hm : Mod (RR0 B Z) w w') :
    ((findV v S.bays).isSome = true → RRbL B Z w' r q S { V with ts := V.ts.set v x }) ∧ (findV v S.bays = none → RRbL B Z w' r q { S with vols := S.vols.set v x.M } { V with ts := V.ts.set v x }) := by
  have hok : ∀ y ∈ V.ts.set v x, y.M.ok = true ∧ y.M.cap = S.size := fun y hy => by
    rcases List.mem_or_eq_of_mem_set hy with hy | rfl
    · exact (h.tape y hy).2
    · exact hg
  have hdrv : ∀ (i : Nat) (y : BayV), V.bs[i]? = some y → 0 ≤ y.b.vol → ∃ a k c cs, RDr B w' y.d q y.b.M y.b.at_ a k c cs ∧ RowsIn Z a k c cs := fun i y hy hv => by
    obtain ⟨a, k, c, cs, hd, hz⟩ := h.drv i y hy hv
    exact ⟨a, k, c, cs, rdr_rr0 hd hz hm, hz⟩
  refine ⟨fun hf => RRaw.rob (V := { V with ts := V.ts.set v x }) hx h.len.symm h.bays (by simp only [List.length_set]; exact h.nts) hok (fun u hu hfu => ?_) hdrv h.one, fun hf => RRaw.rob (V := { V with ts := V.ts.set v x }) (S := { S with vols := S.vols.set v x.M }) hx h.len.symm h.bays (by simp only [List.length_set]; exact h.nts) hok (fun u hu hfu => ?_) hdrv h.one⟩
  · have huv : v ≠ u := by
      rintro rfl
      rw [hfu] at hf
      cases hf
    obtain ⟨y, h1, h2⟩ := h.vol u hu hfu
    exact ⟨y, by simpa [huv] using h1, h2⟩
  · by_cases huv : v = u
    · subst huv
      exact ⟨x, by simp [h.nts, hv], by simp [hv]⟩
    · obtain ⟨y, h1, h2⟩ := h.vol u (by simpa using hu) hfu
      exact ⟨y, by simpa [huv] using h1, by simpa [huv] using h2⟩
abbrev OFd (B : Nat) : Nat → TypeId → Prop := fun b T => B ≤ b ∧ T = 63

theorem OFd.rrf (h : Mod (OFd B) w w') : Mod (RRF B Z) w w' := h.mono fun b T _ hf => ⟨hf.1, .inl (by rw [hf.2]; decide)⟩

set_option maxRecDepth 100000 in
set_option maxHeartbeats 8000000 in
theorem rrob_put (v : Nat) (cap : Int) (aM : Option Addr) (cM n : Nat) (us : List CellV) (w : World) (h : RRobP B Z w r q S D s) (hu : Up B Z w) (hs : ∀ w', Mod (RRF B Z) w w' → CMat w' aM us) (hn : n = us.length) (hn2 : n ≤ 100000) (hx : ∀ x ∈ us, x.d.l.length ≤ 140737488355328)
    (hv : v < S.vols.length) (hck : (medOf cap us).ok = true) (hcap : cap = S.size) :
    Calls Try.prog 15 #[.pointer (some ⟨r, 0, none⟩), .int .i64 v, .agg #[.int .i64 cap, .slice aM n cM]] w fun e w' => e = .returned (.int .i64 0) ∧ RRobP B Z w' r q (S.put v ⟨cap, pls us⟩) D s ∧ Mod (RRF B Z) w w' := by
  have hz := heap_alloc_new w (.cells #[.int .i64 cap, .slice aM n cM] 45)
  have hb := ext_alloc w (.cells #[.int .i64 cap, .slice aM n cM] 45)
  obtain ⟨⟨V, h0, h2⟩, hok, hp⟩ := h
  obtain ⟨gV, xv, eV, hgV, hre⟩ := h0.tapeAt (v := v) hv
  clear hre xv
  have h1 := h0.ext hb
  obtain ⟨_, r1, _, _, _, _, _, hfr, hlr⟩ := h1.cells
  have hlM := heap_lt hz
  have m0 := cell_of_row _ w.heap.size 0 _ _ _ hz
  have m1 := cell_of_row _ w.heap.size 1 _ _ _ hz
  have HS0 := Lib.hid hs
  have HS := Lib.hid (hs _ (bmod hb _))
  have Hn := Lib.hid hn
  have Hx := Lib.hid hx
  have Hok := Lib.hid hck
  have hv8 := hok.vols.2
  have HB := Lib.hid hb
  have HUp := Lib.hid hu
  have HOK := Lib.hid hok
  have H1 := Lib.hid h1
  have H2 := Lib.hid h2
  have HP := Lib.hid (hp.ext hb)
  obtain ⟨gV', xv, eV', hlV, hts, t0, t1, hTI, hXok, hXcap, hXv⟩ := h1.tapeAt (v := v) hv
  rw [eV] at eV'
  simp only [Option.some.injEq, Addr.mk.injEq, and_self, and_true] at eV'
  subst eV'
  have HeV := Lib.hid eV
  obtain ⟨nV, hnV⟩ : ∃ n, n = S.vols.length := ⟨_, rfl⟩
  obtain ⟨sz, hsz⟩ : ∃ n, n = S.size := ⟨_, rfl⟩
  rw [← hnV, eV] at r1
  rw [hXcap, ← hsz] at t0
  obtain ⟨vn, hvn0⟩ : ∃ n, n = v := ⟨_, rfl⟩
  rw [← hvn0] at t0
  have hvn : vn < nV := by omega
  rw [← hnV] at hv8
  have hcq : (cap != sz) = false := by simp [hsz, hcap]
  have hvf : decide ((vn : Int) < 0) = false := by simp
  have hvg : decide ((vn : Int) ≥ (nV : Int)) = false := by simp; omega
  have HnV := Lib.hid hnV
  have Hcap := Lib.hid hcap
  have Hvn := Lib.hid hvn0
  have Hv := Lib.hid hv
  obtain ⟨cV, hcV⟩ : ∃ c, c = V.cV := ⟨_, rfl⟩
  rw [← hcV] at r1
  have HcV := Lib.hid hcV
  rw [← hvn0]
  clear h0 h1 h2 hok hp hs hn hb hnV hsz eV hfr hts t1 hTI hXok hXcap hXv hck hcap hu hx hcV xv hv hvn0
  go_enter Try.func15, Try.ntmps15
  go_wp2_with fail
  generalize hwx : w.alloc (.cells #[.int .i64 cap, .slice aM n cM] 45) = wx at *
  obtain ⟨G, hG⟩ : ∃ G, G = w.heap.size := ⟨_, rfl⟩
  have HG := Lib.hid hG
  rw [← hG] at hlM m0 m1 hz hgV ⊢
  have Hz := Lib.hid hz
  clear hG hz hwx
  refine wp_region_phase (by kernel_rfl) [] (by kernel_rfl) (by kernel_rfl) ?_
  refine stage_last [Sp.eq (.int .i64 (vn : Int)), Sp.eq (.bool false), Sp.eq (.bool false), Sp.eq (.int .i64 (vn : Int)), Sp.eq (.pointer (some ⟨r, 0, none⟩)), Sp.eq (.pointer (some ⟨r, 0, none⟩)), Sp.eq (.pointer (some ⟨r, 1, none⟩)), Sp.eq (.slice (some ⟨gV, 0, none⟩) nV cV), Sp.eq (.int .i64 (nV : Int)), Sp.eq (.bool false), Sp.eq (.bool false), Sp.eq (.bool false), Sp.eq (.agg #[.int .i64 cap, .slice aM n cM]), Sp.eq (.bool true), Sp.eq (.bool false), Sp.eq (.bool false), Sp.eq (.bool false), Sp.eq (.pointer (some ⟨G, 0, none⟩)), Sp.eq (.int .i64 cap), Sp.eq (.pointer (some ⟨r, 0, none⟩)), Sp.eq (.pointer (some ⟨r, 0, none⟩)), Sp.eq (.pointer (some ⟨r, 1, none⟩)), Sp.eq (.slice (some ⟨gV, 0, none⟩) nV cV), Sp.eq (.int .i64 (vn : Int)), Sp.eq (.pointer (some ⟨gV, vn * 2, none⟩)), Sp.eq (.pointer (some ⟨gV, vn * 2, none⟩)), Sp.eq (.int .i64 sz), Sp.eq (.bool false), Sp.eq (.bool false)] ?_ ?_
  · refine stepsG_cons ?_ (stepsG_cons ?_ (stepsG_cons ?_ (stepsG_cons ?_ (stepsG_cons ?_ (stepsG_cons ?_ (stepsG_cons ?_ (stepsG_cons ?_ (stepsG_cons ?_ (stepsG_cons ?_ (stepsG_cons ?_ (stepsG_cons ?_ (stepsG_cons ?_ (stepsG_cons ?_ (stepsG_cons ?_ (stepsG_cons ?_ (stepsG_cons ?_ (stepsG_cons ?_ (stepsG_cons ?_ (stepsG_cons ?_ (stepsG_cons ?_ (stepsG_cons ?_ (stepsG_cons ?_ (stepsG_cons ?_ (stepsG_cons ?_ (stepsG_cons ?_ (stepsG_cons ?_ (stepsG_cons ?_ (stepsG_cons ?_ (stepsG_nil)))))))))))))))))))))))))))))
    · intro ρ w' E
      have e1 : ρ (.tmp 1) = .int .i64 (vn : Int) := E.out 1 rfl
      refine step_plain rfl ?_
      exact op_move (.inl rfl) e1 ⟨Below.refl _ _, rfl⟩
    · intro ρ w' E
      have e8 : ρ (.tmp 8) = .int .i64 (vn : Int) := E.pre 0 rfl rfl
      refine step_plain rfl ?_
      refine op_val (v := .bool false) (w' := w') ?_ ⟨Below.refl _ _, rfl⟩
      have hv := hvf
      have hcon := E.con
      clear E r1 m0 m1 t0
      go_simp
    · intro ρ w' E
      have e9 : ρ (.tmp 9) = .bool false := E.pre 1 rfl rfl
      refine step_plain rfl ?_
      exact op_move (.inl rfl) e9 ⟨Below.refl _ _, rfl⟩
    · intro ρ w' E
      have e1 : ρ (.tmp 1) = .int .i64 (vn : Int) := E.out 1 rfl
      refine step_yes rfl (E.pre 2 rfl rfl) ?_
      exact op_move (.inl rfl) e1 ⟨Below.refl _ _, rfl⟩
    · intro ρ w' E
      have e0 : ρ (.tmp 0) = .pointer (some ⟨r, 0, none⟩) := E.out 0 rfl
      refine step_yes rfl (E.pre 2 rfl rfl) ?_
      exact op_move (.inl rfl) e0 ⟨Below.refl _ _, rfl⟩
    · intro ρ w' E
      have e12 : ρ (.tmp 12) = .pointer (some ⟨r, 0, none⟩) := E.pre 4 rfl rfl
      refine step_yes rfl (E.pre 2 rfl rfl) ?_
      refine op_val (v := .pointer (some ⟨r, 0, none⟩)) (w' := w') ?_ ⟨Below.refl _ _, rfl⟩
      have hcon := E.con
      clear E
      go_simp
    · intro ρ w' E
      have e13 : ρ (.tmp 13) = .pointer (some ⟨r, 0, none⟩) := E.pre 5 rfl rfl
      refine step_yes rfl (E.pre 2 rfl rfl) ?_
      refine op_val (v := .pointer (some ⟨r, 1, none⟩)) (w' := w') ?_ ⟨Below.refl _ _, rfl⟩
      have hcon := E.con
      clear E
      go_simp
    · intro ρ w' E
      have e14 : ρ (.tmp 14) = .pointer (some ⟨r, 1, none⟩) := E.pre 6 rfl rfl
      refine step_yes rfl (E.pre 2 rfl rfl) ?_
      refine op_val (v := .slice (some ⟨gV, 0, none⟩) nV cV) (w' := w') ?_ ⟨Below.refl _ _, rfl⟩
      have hk := (World.cell?_of_block (w := wx) (E.below.block _ hlr)).trans r1
      have hcon := E.con
      clear E r1 m0 m1 t0
      go_simp
    · intro ρ w' E
      have e15 : ρ (.tmp 15) = .slice (some ⟨gV, 0, none⟩) nV cV := E.pre 7 rfl rfl
      refine step_yes rfl (E.pre 2 rfl rfl) ?_
      refine op_val (v := .int .i64 (nV : Int)) (w' := w') ?_ ⟨Below.refl _ _, rfl⟩
      have hcon := E.con
      clear E
      go_simp
    · intro ρ w' E
      have e11 : ρ (.tmp 11) = .int .i64 (vn : Int) := E.pre 3 rfl rfl
      have e16 : ρ (.tmp 16) = .int .i64 (nV : Int) := E.pre 8 rfl rfl
      refine step_yes rfl (E.pre 2 rfl rfl) ?_
      refine op_val (v := .bool false) (w' := w') ?_ ⟨Below.refl _ _, rfl⟩
      have hv := hvg
      have hcon := E.con
      clear E r1 m0 m1 t0
      go_simp
    · intro ρ w' E
      have e10 : ρ (.tmp 10) = .bool false := E.pre 2 rfl rfl
      have e17 : ρ (.tmp 17) = .bool false := E.pre 9 rfl rfl
      refine step_plain rfl ?_
      exact op_pick (b := false) rfl e10 rfl ⟨Below.refl _ _, e17⟩
    · intro ρ w' E
      have e18 : ρ (.tmp 18) = .bool false := E.pre 10 rfl rfl
      refine step_plain rfl ?_
      exact op_move (.inl rfl) e18 ⟨Below.refl _ _, rfl⟩
    · intro ρ w' E
      have e5 : ρ (.tmp 5) = .pointer (some ⟨G, 0, none⟩) := E.out 5 rfl
      refine step_yes rfl (E.pre 11 rfl rfl) ?_
      refine op_val (v := .agg #[.int .i64 cap, .slice aM n cM]) (w' := w') ?_ ⟨Below.refl _ _, rfl⟩
      have k0 := (World.cell?_of_block (w := wx) (E.below.block _ hlM)).trans m0
      have k1 := (World.cell?_of_block (w := wx) (E.below.block _ hlM)).trans m1
      have hcon := E.con
      clear E r1 m0 m1 t0
      go_simp
    · intro ρ w' E
      have e20 : ρ (.tmp 20) = .agg #[.int .i64 cap, .slice aM n cM] := E.pre 12 rfl rfl
      refine step_yes rfl (E.pre 11 rfl rfl) ?_
      refine op_call (f := 44) (args := #[.agg #[.int .i64 cap, .slice aM n cM]]) (w' := w') (by have hcon := E.con; have hfn := E.fn; clear E; go_simp) ?_
      refine (refmed_any cap aM cM n us true w' (HS.out.ext E.below) Hn.out (by omega) Hok.out).mono ?_
      rintro e w2 ⟨rfl, hb⟩
      exact ⟨_, rfl, hb, rfl⟩
    · intro ρ w' E
      have e21 : ρ (.tmp 21) = .bool true := E.pre 13 rfl rfl
      refine step_yes rfl (E.pre 11 rfl rfl) ?_
      refine op_val (v := .bool false) (w' := w') ?_ ⟨Below.refl _ _, rfl⟩
      have hcon := E.con
      clear E
      go_simp
    · intro ρ w' E
      have e19 : ρ (.tmp 19) = .bool false := E.pre 11 rfl rfl
      have e22 : ρ (.tmp 22) = .bool false := E.pre 14 rfl rfl
      refine step_plain rfl ?_
      exact op_pick (b := false) rfl e19 rfl ⟨Below.refl _ _, e22⟩
    · intro ρ w' E
      have e23 : ρ (.tmp 23) = .bool false := E.pre 15 rfl rfl
      refine step_plain rfl ?_
      exact op_move (.inl rfl) e23 ⟨Below.refl _ _, rfl⟩
    · intro ρ w' E
      have e5 : ρ (.tmp 5) = .pointer (some ⟨G, 0, none⟩) := E.out 5 rfl
      refine step_yes rfl (E.pre 16 rfl rfl) ?_
      refine op_val (v := .pointer (some ⟨G, 0, none⟩)) (w' := w') ?_ ⟨Below.refl _ _, rfl⟩
      have hcon := E.con
      clear E
      go_simp
    · intro ρ w' E
      have e25 : ρ (.tmp 25) = .pointer (some ⟨G, 0, none⟩) := E.pre 17 rfl rfl
      refine step_yes rfl (E.pre 16 rfl rfl) ?_
      refine op_val (v := .int .i64 cap) (w' := w') ?_ ⟨Below.refl _ _, rfl⟩
      have hk := (World.cell?_of_block (w := wx) (E.below.block _ hlM)).trans m0
      have hcon := E.con
      clear E r1 m0 m1 t0
      go_simp
    · intro ρ w' E
      have e0 : ρ (.tmp 0) = .pointer (some ⟨r, 0, none⟩) := E.out 0 rfl
      refine step_yes rfl (E.pre 16 rfl rfl) ?_
      exact op_move (.inl rfl) e0 ⟨Below.refl _ _, rfl⟩
    · intro ρ w' E
      have e27 : ρ (.tmp 27) = .pointer (some ⟨r, 0, none⟩) := E.pre 19 rfl rfl
      refine step_yes rfl (E.pre 16 rfl rfl) ?_
      refine op_val (v := .pointer (some ⟨r, 0, none⟩)) (w' := w') ?_ ⟨Below.refl _ _, rfl⟩
      have hcon := E.con
      clear E
      go_simp
    · intro ρ w' E
      have e28 : ρ (.tmp 28) = .pointer (some ⟨r, 0, none⟩) := E.pre 20 rfl rfl
      refine step_yes rfl (E.pre 16 rfl rfl) ?_
      refine op_val (v := .pointer (some ⟨r, 1, none⟩)) (w' := w') ?_ ⟨Below.refl _ _, rfl⟩
      have hcon := E.con
      clear E
      go_simp
    · intro ρ w' E
      have e29 : ρ (.tmp 29) = .pointer (some ⟨r, 1, none⟩) := E.pre 21 rfl rfl
      refine step_yes rfl (E.pre 16 rfl rfl) ?_
      refine op_val (v := .slice (some ⟨gV, 0, none⟩) nV cV) (w' := w') ?_ ⟨Below.refl _ _, rfl⟩
      have hk := (World.cell?_of_block (w := wx) (E.below.block _ hlr)).trans r1
      have hcon := E.con
      clear E r1 m0 m1 t0
      go_simp
    · intro ρ w' E
      have e1 : ρ (.tmp 1) = .int .i64 (vn : Int) := E.out 1 rfl
      refine step_yes rfl (E.pre 16 rfl rfl) ?_
      exact op_move (.inl rfl) e1 ⟨Below.refl _ _, rfl⟩
    · intro ρ w' E
      have e30 : ρ (.tmp 30) = .slice (some ⟨gV, 0, none⟩) nV cV := E.pre 22 rfl rfl
      have e31 : ρ (.tmp 31) = .int .i64 (vn : Int) := E.pre 23 rfl rfl
      refine step_yes rfl (E.pre 16 rfl rfl) ?_
      refine op_val (v := .pointer (some ⟨gV, vn * 2, none⟩)) (w' := w') ?_ ⟨Below.refl _ _, rfl⟩
      have hcon := E.con
      clear E
      go_simp
    · intro ρ w' E
      have e32 : ρ (.tmp 32) = .pointer (some ⟨gV, vn * 2, none⟩) := E.pre 24 rfl rfl
      refine step_yes rfl (E.pre 16 rfl rfl) ?_
      refine op_val (v := .pointer (some ⟨gV, vn * 2, none⟩)) (w' := w') ?_ ⟨Below.refl _ _, rfl⟩
      have hcon := E.con
      clear E
      go_simp
    · intro ρ w' E
      have e33 : ρ (.tmp 33) = .pointer (some ⟨gV, vn * 2, none⟩) := E.pre 25 rfl rfl
      refine step_yes rfl (E.pre 16 rfl rfl) ?_
      refine op_val (v := .int .i64 sz) (w' := w') ?_ ⟨Below.refl _ _, rfl⟩
      have hk := (World.cell?_of_block (w := wx) (E.below.block _ hlV)).trans t0
      have hcon := E.con
      clear E r1 m0 m1 t0
      go_simp
    · intro ρ w' E
      have e26 : ρ (.tmp 26) = .int .i64 cap := E.pre 18 rfl rfl
      have e34 : ρ (.tmp 34) = .int .i64 sz := E.pre 26 rfl rfl
      refine step_yes rfl (E.pre 16 rfl rfl) ?_
      refine op_val (v := .bool false) (w' := w') ?_ ⟨Below.refl _ _, rfl⟩
      have hv := hcq
      have hcon := E.con
      clear E r1 m0 m1 t0
      go_simp
    · intro ρ w' E
      have e24 : ρ (.tmp 24) = .bool false := E.pre 16 rfl rfl
      have e35 : ρ (.tmp 35) = .bool false := E.pre 27 rfl rfl
      refine step_plain rfl ?_
      exact op_pick (b := false) rfl e24 rfl ⟨Below.refl _ _, e35⟩
  · intro σF wF GF OF HF
    have s36 : σF 36 = .bool false := HF 28 rfl rfl
    clear OF HF
    simp only [upd, updL, dstsOf', elemB, List.filterMap_cons, List.filterMap_nil, Nat.reduceAdd, Nat.reduceBEq, Bool.or_false, Bool.false_or, Bool.or_true, Bool.true_or, cond_true, cond_false, Nat.zero_add, s36]
    have hzF := (GF.block _ (heap_lt Hz.out)).trans Hz.out
    have m0' := cell_of_row _ G 0 _ _ _ hzF
    have m1' := cell_of_row _ G 1 _ _ _ hzF
    have HzF := Lib.hid hzF
    have r1' := (World.cell?_of_block (w := wx) (a := ⟨r, 1, none⟩) (GF.block _ hlr)).trans r1
    have H1F := Lib.hid (H1.out.ext GF)
    have HPF := Lib.hid (HP.out.ext GF)
    have HBF := Lib.hid (bthen HB.out GF (Nat.le_refl _))
    have hlr' : r < wF.heap.size := Nat.lt_of_lt_of_le hlr GF.size
    have hlM' := heap_lt hzF
    have HSF := Lib.hid (HS0.out _ (bmod (bthen HB.out GF (Nat.le_refl _)) _))
    clear GF hzF m0 m1 r1 t0 hlr hlM hlV H1 HP HB Hz HS
    have m0 := m0'
    have m1 := m1'
    have r1 := r1'
    have hlr := hlr'
    have hlM := hlM'
    have HS := HSF
    clear m0' m1' r1' hlr' hlM' HSF
    go_wp2_with fail
    refine wp_region_last2 _ _ (by simp only [lastSplit, Option.map_some]; rfl) (by kernel_rfl) [Sp.eq (.pointer (some ⟨r, 0, none⟩)), Sp.eq (.pointer (some ⟨r, 0, none⟩)), Sp.eq (.pointer (some ⟨r, 1, none⟩)), Sp.eq (.slice (some ⟨gV, 0, none⟩) nV cV), Sp.eq (.int .i64 (vn : Int)), Sp.eq (.agg #[.int .i64 cap, .slice aM n cM]), ⟨AnsV wF.heap.size ⟨cap, pls us⟩, AnsV.st⟩, Sp.eq (.pointer (some ⟨gV, vn * 2, none⟩))] (by kernel_rfl) (by kernel_rfl) ?_ ?_
    · refine stepsOk_cons ?_ (stepsOk_cons ?_ (stepsOk_cons ?_ (stepsOk_cons ?_ (stepsOk_cons ?_ (stepsOk_cons ?_ (stepsOk_cons ?_ (stepsOk_cons ?_ (stepsOk_nil))))))))
      · intro ρ w' E
        have e0 : ρ (.tmp 0) = .pointer (some ⟨r, 0, none⟩) := E.out 0 rfl
        refine step_plain rfl ?_
        exact op_move (.inl rfl) e0 ⟨Below.refl _ _, rfl⟩
      · intro ρ w' E
        have e37 : ρ (.tmp 37) = .pointer (some ⟨r, 0, none⟩) := E.pre 0 rfl
        refine step_plain rfl ?_
        refine op_val (v := .pointer (some ⟨r, 0, none⟩)) (w' := w') ?_ ⟨Below.refl _ _, rfl⟩
        have hcon := E.con
        clear E
        go_simp
      · intro ρ w' E
        have e38 : ρ (.tmp 38) = .pointer (some ⟨r, 0, none⟩) := E.pre 1 rfl
        refine step_plain rfl ?_
        refine op_val (v := .pointer (some ⟨r, 1, none⟩)) (w' := w') ?_ ⟨Below.refl _ _, rfl⟩
        have hcon := E.con
        clear E
        go_simp
      · intro ρ w' E
        have e39 : ρ (.tmp 39) = .pointer (some ⟨r, 1, none⟩) := E.pre 2 rfl
        refine step_plain rfl ?_
        refine op_val (v := .slice (some ⟨gV, 0, none⟩) nV cV) (w' := w') ?_ ⟨Below.refl _ _, rfl⟩
        have hk := (World.cell?_of_block (w := wF) (E.below.block _ hlr)).trans r1
        have hcon := E.con
        clear E r1 m0 m1
        go_simp
      · intro ρ w' E
        have e1 : ρ (.tmp 1) = .int .i64 (vn : Int) := E.out 1 rfl
        refine step_plain rfl ?_
        exact op_move (.inl rfl) e1 ⟨Below.refl _ _, rfl⟩
      · intro ρ w' E
        have e5 : ρ (.tmp 5) = .pointer (some ⟨G, 0, none⟩) := E.out 5 rfl
        refine step_plain rfl ?_
        refine op_val (v := .agg #[.int .i64 cap, .slice aM n cM]) (w' := w') ?_ ⟨Below.refl _ _, rfl⟩
        have k0 := (World.cell?_of_block (w := wF) (E.below.block _ hlM)).trans m0
        have k1 := (World.cell?_of_block (w := wF) (E.below.block _ hlM)).trans m1
        have hcon := E.con
        clear E r1 m0 m1
        go_simp
      · intro ρ w' E
        have e42 : ρ (.tmp 42) = .agg #[.int .i64 cap, .slice aM n cM] := E.pre 5 rfl
        refine step_plain rfl ?_
        refine op_call (f := 13) (args := #[.agg #[.int .i64 cap, .slice aM n cM]]) (w' := w') (by have hcon := E.con; have hfn := E.fn; clear E; go_simp) ?_
        refine (twinmed_any cap aM cM n us w' (HS.out.ext E.below) Hn.out (by omega) Hx.out).mono ?_
        rintro e w2 ⟨aX, cX, csX, rfl, hlX, hoX, hpX, hb⟩
        exact ⟨_, rfl, hb, aX, n, cX, csX, rfl, ⟨hoX.mono E.below.size, hlX, hpX⟩, by have := hoX.row.len.1; rw [hlX] at this; exact this⟩
      · intro ρ w' E
        have e40 : ρ (.tmp 40) = .slice (some ⟨gV, 0, none⟩) nV cV := E.pre 3 rfl
        have e41 : ρ (.tmp 41) = .int .i64 (vn : Int) := E.pre 4 rfl
        refine step_plain rfl ?_
        refine op_val (v := .pointer (some ⟨gV, vn * 2, none⟩)) (w' := w') ?_ ⟨Below.refl _ _, rfl⟩
        have hcon := E.con
        clear E
        go_simp
    · intro σ wq hb12 hall
      have h43 : AnsV wF.heap.size ⟨cap, pls us⟩ wq (σ 43) := by obtain ⟨_, _, _, _, _, _, h, _⟩ := hall; exact h
      have h44 : σ 44 = .pointer (some ⟨gV, vn * 2, none⟩) := by obtain ⟨_, _, _, _, _, _, _, h, _⟩ := hall; exact h
      clear hall
      obtain ⟨aX, kX, cX, csX, hX43, hMX, hcX⟩ := h43
      obtain ⟨xn, hxn⟩ : ∃ x : TapeV, x = ⟨⟨cap, pls us⟩, aX, kX, cX, csX⟩ := ⟨_, rfl⟩
      have hxM : xn.M = ⟨cap, pls us⟩ := by rw [hxn]
      have hxc : xn.cells = [.int .i64 cap, .slice aX kX cX] := by rw [hxn]; rfl
      have hBF : B ≤ wF.heap.size := Nat.le_trans HUp.out.le HBF.out.size
      have hTI : TapeIn B Z wq xn := by
        rw [hxn]
        exact ⟨hMX.mono hBF, hcX, hMX.newRow.mono fun b hb => HUp.out.up b (by have := HBF.out.size; omega)⟩
      have hgd : xn.M.ok = true ∧ xn.M.cap = S.size := by rw [hxM]; exact ⟨Hok.out, Hcap.out⟩
      have H1q := H1F.out.ext hb12
      have hown := H1q.rowV
      rw [HeV.out] at hown
      have hts : V.ts.length = nV := by rw [HnV.out]; exact H1q.nts
      have HTI := Lib.hid hTI
      have HH1 := Lib.hid H1q
      have HPq := Lib.hid (HPF.out.ext hb12)
      have HBq := Lib.hid (bthen HBF.out hb12 (Nat.le_refl _))
      have HMq := Lib.hid (bmod (w := w) (HBq.out) (RRF B Z))
      have hbox := (hb12.block _ hlM).trans HzF.out
      have Hbox := Lib.hid hbox
      have Hgd := Lib.hid hgd
      have HxM := Lib.hid hxM
      have h43' : σ 43 = .agg #[.int .i64 cap, .slice aX kX cX] := hX43
      clear hX43 hMX hcX hxn hTI H1q hbox hgd hxM H1F HPF HBF HzF hb12 m0 m1 r1 hlr hlM HS hBF
      simp only [upd, updL, dstsOf', elemB, List.filterMap_cons, List.filterMap_nil, Nat.reduceAdd, Nat.reduceBEq, Bool.or_false, Bool.false_or, Bool.or_true, Bool.true_or, cond_true, cond_false, Nat.zero_add, h43', h44]
      go_wp2_with (refine wpList_store_elem rfl rfl 45 (.tmp 44) (.tmp 43) rfl TapeV.cells 2 TapeV.len (by decide) hown vn xn (by rw [hts]; exact hvn) rfl (by rw [hxc]; rfl) (by kernel_rfl) (TapeV.one _) ?_; intro w2 ho3 hbe3 hot3 hm3 hz3)
      have hpv := HH1.out.raw.putV HeV.out (u := vn) (by rw [hts]; exact hvn) HTI.out ho3 hm3
      have hpt := HH1.out.putTape (v := vn) (by rw [← HnV.out]; exact hvn) Hgd.out hpv.1 hpv.2
      have hbox2 := (hot3 G (by omega)).trans Hbox.out
      have Hbox2 := Lib.hid hbox2
      have HM2 := Lib.hid (HMq.out.trans (RR0.rrf hpv.2))
      have HP2 := Lib.hid (HPq.out.rr0 hpv.2)
      have HPT := Lib.hid hpt
      clear hpv hpt hbox2 ho3 hbe3 hot3 hm3 hz3 hown HTI HMq HPq Hbox HBq hxc hts h44 h43'
      obtain ⟨nB, hnB⟩ : ∃ n, n = S.bays.length := ⟨_, rfl⟩
      have HnB := Lib.hid hnB
      have hnB0 : 0 < nB ∧ nB ≤ 4 := by have := HOK.out.drives; omega
      obtain ⟨bz, hbz⟩ : ∃ b, S.bays[0]? = some b := ⟨_, List.getElem?_eq_getElem (by omega)⟩
      have Hbz := Lib.hid hbz
      clear hbz
      cases hf : findV (vn : Int) S.bays with
      | none =>
        as_aux_lemma =>
          have hR2 : RRobP B Z w2 r q (S.put vn ⟨cap, pls us⟩) D s := by
            have hp2 := RS.put_none (S := S) (v := vn) (m := ⟨cap, pls us⟩) hf
            have hokp := RS.put_ok HOK.out (v := vn) (m := ⟨cap, pls us⟩) (by rw [← HxM.out]; exact Hgd.out)
            rw [hp2] at hokp ⊢
            have hL := HPT.out.2 hf
            rw [HxM.out] at hL
            exact ⟨⟨_, hL, H2.out⟩, hokp, HP2.out⟩
          have HR2 := Lib.hid hR2
          have Hf := Lib.hid hf
          have hLn := HPT.out.2 hf
          obtain ⟨_, _, q2, q3, _, _, _, hfr, hlr⟩ := hLn.cells
          obtain ⟨gD, gH, gU, y0, eD, eH, eU, hrest⟩ := hLn.at (i := 0) (b := bz) Hbz.out
          have HgH := Lib.hid eH
          change w2.cell? ⟨r, 2, none⟩ = some (.slice V.aD S.bays.length V.cD) at q2
          change w2.cell? ⟨r, 3, none⟩ = some (.slice V.aH S.bays.length V.cH) at q3
          change V.aD = some ⟨gD, 0, none⟩ at eD
          change V.aH = some ⟨gH, 0, none⟩ at eH
          rw [← hnB, eD] at q2
          rw [← hnB, eH] at q3
          have HLn := Lib.hid hLn
          generalize V.cD = cD at *
          generalize V.cH = cH at *
          clear hR2 hf hLn hrest eD eH eU hnB y0
          go_wp2_with fail
          go_loopw [7] (fun iv wx => ∃ (k : Nat) (wr : World), wr = wx ∧ wr = w2 ∧ k ≤ nB ∧ iv = .int .i64 (k : Int)) (fun iv _ => nB - (intOf iv).toNat)
          case atStart => exact ⟨0, _, rfl, rfl, by omega, rfl⟩
          case round =>
            obtain ⟨k, wr, hwr, hwr1, hk, rfl⟩ := hrel
            subst hwr
            subst hwr1
            by_cases hkn : k < nB
            · obtain ⟨b, hbk⟩ : ∃ b, S.bays[k]? = some b := ⟨_, List.getElem?_eq_getElem (by have := HnB.out; omega)⟩
              obtain ⟨gD', gH', gU', y, eD, eH, eU, lD, lH, lU, hy, hyb, d1, h1, u1, fD, fH, fU, hne⟩ := HLn.out.at (i := k) (b := b) hbk
              have eH9 := eH.symm.trans HgH.out
              simp only [Option.some.injEq, Addr.mk.injEq, and_self, and_true] at eH9
              subst eH9
              clear eH
              have hbv : b.vol ≠ (vn : Int) := findV_none Hf.out b (List.mem_of_getElem? hbk)
              have ebv : (b.vol == (vn : Int)) = false := by simpa using hbv
              clear hbk hy hyb d1 u1 fD fH fU hne hbv eU eD lD lU
              go_wp2_with fail
              go_roundw
              case rel => exact ⟨k + 1, _, rfl, rfl, by omega, by go_num⟩
              case measure => simp [intOf]; omega
            · obtain rfl : nB = k := by omega
              go_wp2
              go_ret
              exact ⟨rfl, HR2.out, HM2.out⟩
      | some i =>
        as_aux_lemma =>
          obtain ⟨bi, hbi, hbv, hbl⟩ := findV_some hf
          have hil := (List.getElem?_eq_some_iff.1 hbi).1
          have hL := HPT.out.1 (by rw [hf]; rfl)
          have HfS := Lib.hid hf
          have Hbi := Lib.hid hbi
          have Hbv := Lib.hid hbv
          have HR2 : Hid (RRobP B Z w2 r q S D s) := Lib.hid ⟨⟨_, hL, H2.out⟩, HOK.out, HP2.out⟩
          have HGD : Hid (DGood ⟨cap, pls us⟩ 0 ∧ (⟨cap, pls us⟩ : Med).cap = S.size) := Lib.hid ⟨⟨Hok.out, 0, rfl, Nat.zero_le _⟩, Hcap.out⟩
          obtain ⟨d0, hd0⟩ : ∃ d, d = D i := ⟨_, rfl⟩
          have Hd0 := Lib.hid hd0
          have hdlow : B ≤ d0 := by
            obtain ⟨⟨a, k, c, cs, hd, _⟩, _⟩ := HR2.out.drv hbi (by omega)
            rw [hd0]; exact hd.low
          have Hdl := Lib.hid hdlow
          have hiB : i < nB := by have := HnB.out; omega
          have HiB := Lib.hid hiB
          have hob := hL.obj
          obtain ⟨_, _, q2, q3, _, _, _, hfr, hlr⟩ := hL.cells
          obtain ⟨gD, gH, gU, y0, eD, eH, eU, hrest⟩ := hL.at (i := 0) (b := bz) Hbz.out
          have hrD := hL.rowD
          have hrH := hL.rowH
          have HgH := Lib.hid eH
          have HgD := Lib.hid eD
          change w2.cell? ⟨r, 2, none⟩ = some (.slice V.aD S.bays.length V.cD) at q2
          change w2.cell? ⟨r, 3, none⟩ = some (.slice V.aH S.bays.length V.cH) at q3
          change V.aD = some ⟨gD, 0, none⟩ at eD
          change V.aH = some ⟨gH, 0, none⟩ at eH
          rw [← hnB, eD] at q2
          rw [← hnB, eH] at q3
          rw [HgD.out] at hrD
          rw [HgH.out] at hrH
          have hbl : 0 < V.bs.length := by rw [HH1.out.len]; omega
          obtain ⟨_, curD, hdo⟩ := own_at1 hrD hbl
          obtain ⟨_, curH, hho⟩ := own_at1 hrH hbl
          have HLn := Lib.hid hL
          have Hob := Lib.hid hob
          have Hdo := Lib.hid hdo
          have Hho := Lib.hid hho
          have Hq2 := Lib.hid q2
          have Hq3 := Lib.hid q3
          generalize V.cD = cD at *
          generalize V.cH = cH at *
          clear hf hbi hbv hL hd0 hdlow hiB hob q2 q3 hrest eD eH eU y0 hrD hrH hbl hdo hho hfr hlr hil
          go_wp2_with fail
          go_loopw [7] (fun iv wx => ∃ (k : Nat) (wr : World), wr = wx ∧ Hid (Mod (fun b T => b = d0 ∧ T = 63) w2 wr) ∧ Hid (k ≤ i ∧ RRobP B Z wr r q S D s ∨ i < k ∧ RRobP B Z wr r q (S.drive i ⟨cap, pls us⟩ 0) D s) ∧ k ≤ nB ∧ iv = .int .i64 (k : Int)) (fun iv _ => nB - (intOf iv).toNat)
          case atStart => exact ⟨0, _, rfl, Lib.hid (Mod.refl _ _), Lib.hid (.inl ⟨Nat.zero_le _, HR2.out⟩), by omega, rfl⟩
          case round =>
            obtain ⟨k, wr, hwr, HMr, HRr, hk, rfl⟩ := hrel
            subst hwr
            by_cases hkn : k < nB
            · obtain ⟨b, hbk⟩ : ∃ b, S.bays[k]? = some b := ⟨_, List.getElem?_eq_getElem (by have := HnB.out; omega)⟩
              obtain ⟨gD', gH', gU', y, eD, eH, eU, lD, lH, lU, hy, hyb, d1, h1, u1, fD, fH, fU, hne⟩ := HLn.out.at (i := k) (b := b) hbk
              have eH9 := HgH.out.symm.trans eH
              have eD9 := HgD.out.symm.trans eD
              simp only [Option.some.injEq, Addr.mk.injEq, and_self, and_true] at eH9 eD9
              subst eH9
              subst eD9
              have hob := HMr.out.keep Hob.out (fun hf => absurd hf.2 (by decide))
              have hdo := HMr.out.keep Hdo.out (fun hf => absurd hf.2 (by decide))
              have hho := HMr.out.keep Hho.out (fun hf => absurd hf.2 (by decide))
              have hmo := HMr.out.keep Hbox2.out (fun hf => absurd hf.2 (by decide))
              have q2 := (World.cell?_of_block (w := w2) (a := ⟨r, 2, none⟩) (hob.trans Hob.out.symm)).trans Hq2.out
              have q3 := (World.cell?_of_block (w := w2) (a := ⟨r, 3, none⟩) (hob.trans Hob.out.symm)).trans Hq3.out
              have h1 := (World.cell?_of_block (w := w2) (a := ⟨gH, k, none⟩) (hho.trans Hho.out.symm)).trans h1
              have d1 := (World.cell?_of_block (w := w2) (a := ⟨gD, k, none⟩) (hdo.trans Hdo.out.symm)).trans d1
              have hlr := heap_lt hob
              by_cases hki : k = i
              · subst hki
                have hbb : b = bi := Option.some.inj (hbk.symm.trans Hbi.out)
                have ebv : (b.vol == (vn : Int)) = true := by rw [hbb, Hbv.out]; simp
                have hyd : y.d = d0 := by rw [Hd0.out]; exact H2.out k y hy (by rw [hyb, hbb, Hbv.out]; omega)
                have hyp : y.ptr = .pointer (some ⟨d0, 0, none⟩) := by
                  unfold BayV.ptr
                  rw [if_neg (by rw [hyb, hbb, Hbv.out]; omega), hyd]
                rw [hyp] at d1
                have hRr : RRobP B Z wr r q S D s := by
                  rcases HRr.out with ⟨_, h⟩ | ⟨h, _⟩
                  · exact h
                  · omega
                obtain ⟨⟨aO, kO, cO, csO, hrd, _⟩, _⟩ := hRr.drv Hbi.out (by rw [Hbv.out]; omega)
                rw [← Hd0.out] at hrd
                obtain ⟨bat, hbat⟩ : ∃ z, z = bi.at_ := ⟨_, rfl⟩
                rw [← hbat] at hrd
                have HRD := Lib.hid hrd
                have HRr2 := Lib.hid hRr
                have m0 := cell_of_row _ G 0 _ _ _ hmo
                have m1 := cell_of_row _ G 1 _ _ _ hmo
                have HSr : Hid (CMat wr aM us) := Lib.hid (HS0.out _ (HM2.out.trans (HMr.out.mono fun b T _ hf => ⟨by rw [hf.1]; exact Hdl.out, .inl (by rw [hf.2]; decide)⟩)))
                have hlM := heap_lt hmo
                have hkB := hkn
                clear hbk hy hyb u1 fD fH fU hne hbb hyd hyp hRr hrd hbat eU eD eH lD lH lU HRr
                go_wp2_with fail
                refine wp_region_chainL (by kernel_rfl) [15, 18, 21] (Mod.rel (fun b T => b = d0 ∧ T = 63)) [SpT.eq (.pointer (some ⟨r, 0, none⟩)), SpT.eq (.pointer (some ⟨r, 0, none⟩)), SpT.eq (.pointer (some ⟨r, 2, none⟩)), SpT.eq (.slice (some ⟨gD, 0, none⟩) nB cD), SpT.eq (.int .i64 (k : Int)), SpT.eq (.pointer (some ⟨gD, k, none⟩)), SpT.eq (.pointer (some ⟨d0, 0, none⟩)), SpT.eq (.pointer (some ⟨r, 0, none⟩)), SpT.eq (.pointer (some ⟨r, 0, none⟩)), SpT.eq (.pointer (some ⟨r, 2, none⟩)), SpT.eq (.slice (some ⟨gD, 0, none⟩) nB cD), SpT.eq (.int .i64 (k : Int)), SpT.eq (.pointer (some ⟨gD, k, none⟩)), SpT.eq (.pointer (some ⟨d0, 0, none⟩)), SpT.eq (.agg #[.int .i64 cap, .slice aM n cM]), SpT.top, SpT.eq (.pointer (some ⟨d0, 0, none⟩)), SpT.eq (.pointer (some ⟨d0, 1, none⟩)), SpT.top, SpT.eq (.pointer (some ⟨d0, 0, none⟩)), SpT.eq (.pointer (some ⟨d0, 3, none⟩)), SpT.top] (by kernel_rfl) (by kernel_rfl) (by kernel_rfl) (by kernel_rfl) ?_ ?_
                · refine stepsL_free rfl ?_ (stepsL_free rfl ?_ (stepsL_free rfl ?_ (stepsL_free rfl ?_ (stepsL_free rfl ?_ (stepsL_free rfl ?_ (stepsL_free rfl ?_ (stepsL_free rfl ?_ (stepsL_free rfl ?_ (stepsL_free rfl ?_ (stepsL_free rfl ?_ (stepsL_free rfl ?_ (stepsL_free rfl ?_ (stepsL_free rfl ?_ (stepsL_free rfl ?_ (stepsL_chain rfl (stepsL_free rfl ?_ (stepsL_free rfl ?_ (stepsL_chain rfl (stepsL_free rfl ?_ (stepsL_free rfl ?_ (stepsL_chain rfl (stepsL_nil))))))))))))))))))))))
                  · intro ρ w' E
                    have e0 : ρ (.tmp 0) = .pointer (some ⟨r, 0, none⟩) := E.out 0 rfl
                    refine step_plain rfl ?_
                    exact op_move (.inl rfl) e0 ⟨Below.refl _ _, rfl⟩
                  · intro ρ w' E
                    have e63 : ρ (.tmp 63) = .pointer (some ⟨r, 0, none⟩) := E.pre 0 rfl rfl
                    refine step_plain rfl ?_
                    refine op_val (v := .pointer (some ⟨r, 0, none⟩)) (w' := w') ?_ ⟨Below.refl _ _, rfl⟩
                    have hcon := E.con
                    clear E
                    go_simp
                  · intro ρ w' E
                    have e64 : ρ (.tmp 64) = .pointer (some ⟨r, 0, none⟩) := E.pre 1 rfl rfl
                    refine step_plain rfl ?_
                    refine op_val (v := .pointer (some ⟨r, 2, none⟩)) (w' := w') ?_ ⟨Below.refl _ _, rfl⟩
                    have hcon := E.con
                    clear E
                    go_simp
                  · intro ρ w' E
                    have e65 : ρ (.tmp 65) = .pointer (some ⟨r, 2, none⟩) := E.pre 2 rfl rfl
                    refine step_plain rfl ?_
                    refine op_val (v := .slice (some ⟨gD, 0, none⟩) nB cD) (w' := w') ?_ ⟨Below.refl _ _, rfl⟩
                    have hk : w'.cell? ⟨r, 2, none⟩ = some (.slice (some ⟨gD, 0, none⟩) nB cD) := (World.cell?_of_block (w := wr) ((E.t.keep hob (fun hf => absurd hf.2 (by decide))).trans hob.symm)).trans q2
                    have hcon := E.con
                    clear E q2 d1 m0 m1
                    go_simp
                  · intro ρ w' E
                    have e7 : ρ (.tmp 7) = .int .i64 (k : Int) := E.out 7 rfl
                    refine step_plain rfl ?_
                    exact op_move (.inl rfl) e7 ⟨Below.refl _ _, rfl⟩
                  · intro ρ w' E
                    have e66 : ρ (.tmp 66) = .slice (some ⟨gD, 0, none⟩) nB cD := E.pre 3 rfl rfl
                    have e67 : ρ (.tmp 67) = .int .i64 (k : Int) := E.pre 4 rfl rfl
                    refine step_plain rfl ?_
                    refine op_val (v := .pointer (some ⟨gD, k, none⟩)) (w' := w') ?_ ⟨Below.refl _ _, rfl⟩
                    have hcon := E.con
                    clear E
                    go_simp
                  · intro ρ w' E
                    have e68 : ρ (.tmp 68) = .pointer (some ⟨gD, k, none⟩) := E.pre 5 rfl rfl
                    refine step_plain rfl ?_
                    refine op_val (v := .pointer (some ⟨d0, 0, none⟩)) (w' := w') ?_ ⟨Below.refl _ _, rfl⟩
                    have hk : w'.cell? ⟨gD, k, none⟩ = some (.pointer (some ⟨d0, 0, none⟩)) := (World.cell?_of_block (w := wr) ((E.t.keep hdo (fun hf => absurd hf.2 (by decide))).trans hdo.symm)).trans d1
                    have hcon := E.con
                    clear E q2 d1 m0 m1
                    go_simp
                  · intro ρ w' E
                    have e0 : ρ (.tmp 0) = .pointer (some ⟨r, 0, none⟩) := E.out 0 rfl
                    refine step_plain rfl ?_
                    exact op_move (.inl rfl) e0 ⟨Below.refl _ _, rfl⟩
                  · intro ρ w' E
                    have e70 : ρ (.tmp 70) = .pointer (some ⟨r, 0, none⟩) := E.pre 7 rfl rfl
                    refine step_plain rfl ?_
                    refine op_val (v := .pointer (some ⟨r, 0, none⟩)) (w' := w') ?_ ⟨Below.refl _ _, rfl⟩
                    have hcon := E.con
                    clear E
                    go_simp
                  · intro ρ w' E
                    have e71 : ρ (.tmp 71) = .pointer (some ⟨r, 0, none⟩) := E.pre 8 rfl rfl
                    refine step_plain rfl ?_
                    refine op_val (v := .pointer (some ⟨r, 2, none⟩)) (w' := w') ?_ ⟨Below.refl _ _, rfl⟩
                    have hcon := E.con
                    clear E
                    go_simp
                  · intro ρ w' E
                    have e72 : ρ (.tmp 72) = .pointer (some ⟨r, 2, none⟩) := E.pre 9 rfl rfl
                    refine step_plain rfl ?_
                    refine op_val (v := .slice (some ⟨gD, 0, none⟩) nB cD) (w' := w') ?_ ⟨Below.refl _ _, rfl⟩
                    have hk : w'.cell? ⟨r, 2, none⟩ = some (.slice (some ⟨gD, 0, none⟩) nB cD) := (World.cell?_of_block (w := wr) ((E.t.keep hob (fun hf => absurd hf.2 (by decide))).trans hob.symm)).trans q2
                    have hcon := E.con
                    clear E q2 d1 m0 m1
                    go_simp
                  · intro ρ w' E
                    have e7 : ρ (.tmp 7) = .int .i64 (k : Int) := E.out 7 rfl
                    refine step_plain rfl ?_
                    exact op_move (.inl rfl) e7 ⟨Below.refl _ _, rfl⟩
                  · intro ρ w' E
                    have e73 : ρ (.tmp 73) = .slice (some ⟨gD, 0, none⟩) nB cD := E.pre 10 rfl rfl
                    have e74 : ρ (.tmp 74) = .int .i64 (k : Int) := E.pre 11 rfl rfl
                    refine step_plain rfl ?_
                    refine op_val (v := .pointer (some ⟨gD, k, none⟩)) (w' := w') ?_ ⟨Below.refl _ _, rfl⟩
                    have hcon := E.con
                    clear E
                    go_simp
                  · intro ρ w' E
                    have e75 : ρ (.tmp 75) = .pointer (some ⟨gD, k, none⟩) := E.pre 12 rfl rfl
                    refine step_plain rfl ?_
                    refine op_val (v := .pointer (some ⟨d0, 0, none⟩)) (w' := w') ?_ ⟨Below.refl _ _, rfl⟩
                    have hk : w'.cell? ⟨gD, k, none⟩ = some (.pointer (some ⟨d0, 0, none⟩)) := (World.cell?_of_block (w := wr) ((E.t.keep hdo (fun hf => absurd hf.2 (by decide))).trans hdo.symm)).trans d1
                    have hcon := E.con
                    clear E q2 d1 m0 m1
                    go_simp
                  · intro ρ w' E
                    have e5 : ρ (.tmp 5) = .pointer (some ⟨G, 0, none⟩) := E.out 5 rfl
                    refine step_plain rfl ?_
                    refine op_val (v := .agg #[.int .i64 cap, .slice aM n cM]) (w' := w') ?_ ⟨Below.refl _ _, rfl⟩
                    have hmb := (E.t.keep hmo (fun hf => absurd hf.2 (by decide))).trans hmo.symm
                    have k0 := (World.cell?_of_block (w := wr) hmb).trans m0
                    have k1 := (World.cell?_of_block (w := wr) hmb).trans m1
                    have hcon := E.con
                    clear E hmb q2 d1 m0 m1
                    go_simp
                  · intro ρ w' E
                    have e69 : ρ (.tmp 69) = .pointer (some ⟨d0, 0, none⟩) := E.pre 6 rfl rfl
                    refine step_plain rfl ?_
                    refine op_val (v := .pointer (some ⟨d0, 0, none⟩)) (w' := w') ?_ ⟨Below.refl _ _, rfl⟩
                    have hcon := E.con
                    clear E
                    go_simp
                  · intro ρ w' E
                    have e79 : ρ (.tmp 79) = .pointer (some ⟨d0, 0, none⟩) := E.pre 16 rfl rfl
                    refine step_plain rfl ?_
                    refine op_val (v := .pointer (some ⟨d0, 1, none⟩)) (w' := w') ?_ ⟨Below.refl _ _, rfl⟩
                    have hcon := E.con
                    clear E
                    go_simp
                  · intro ρ w' E
                    have e76 : ρ (.tmp 76) = .pointer (some ⟨d0, 0, none⟩) := E.pre 13 rfl rfl
                    refine step_plain rfl ?_
                    refine op_val (v := .pointer (some ⟨d0, 0, none⟩)) (w' := w') ?_ ⟨Below.refl _ _, rfl⟩
                    have hcon := E.con
                    clear E
                    go_simp
                  · intro ρ w' E
                    have e81 : ρ (.tmp 81) = .pointer (some ⟨d0, 0, none⟩) := E.pre 19 rfl rfl
                    refine step_plain rfl ?_
                    refine op_val (v := .pointer (some ⟨d0, 3, none⟩)) (w' := w') ?_ ⟨Below.refl _ _, rfl⟩
                    have hcon := E.con
                    clear E
                    go_simp
                · intro ρ1 w1c G1 E1
                  have e77 : ρ1 (.tmp 77) = .agg #[.int .i64 cap, .slice aM n cM] := E1.pre 14 rfl rfl
                  refine step_plain rfl ?_
                  refine op_call (f := 13) (args := #[.agg #[.int .i64 cap, .slice aM n cM]]) (w' := w1c) (by have hcon := E1.con; have hfn := E1.fn; clear E1 q2 d1 m0 m1; go_simp) ?_
                  refine (twinmed_any cap aM cM n us w1c (HSr.out.ext G1) Hn.out (by omega) Hx.out).mono ?_
                  rintro e wx1 ⟨a2, c2, cs2, rfl, hl2, ho2, hp2, hb2⟩
                  refine ⟨_, rfl, (Mod.rel (fun b T => b = d0 ∧ T = 63)).of hb2, ?_⟩
                  intro ρ2 w2c G2 E2
                  have e80 : ρ2 (.tmp 80) = .pointer (some ⟨d0, 1, none⟩) := E2.pre 17 rfl rfl
                  have e78 : ρ2 (.tmp 78) = .agg #[.int .i64 cap, .slice a2 n c2] := E2.chn 15 78 rfl rfl rfl
                  refine step_plain rfl ?_
                  have hb02 := bthen (bthen G1 hb2 (Nat.le_refl _)) G2 (Nat.le_refl _)
                  have ho2c := (hb02.block d0 (heap_lt HRD.out.obj)).trans HRD.out.obj
                  refine op_store_part rfl e80 e78 ho2c (by simp) (by kernel_rfl) (by simp [Value.oneCell']) (new := #[.pointer (some ⟨q, 0, none⟩), .int .i64 cap, .slice a2 n c2, .int .i64 bat]) (by simp) ⟨Mod.one (bsetRow (Below.refl d0 _) (Nat.le_refl _) _) (fun b hb => setRow_other _ _ b _ hb) ho2c (setRow_heap _ _ _ _ _ _ ho2c) ⟨rfl, rfl⟩, ?_⟩
                  have hs2 := setRow_heap w2c d0 _ #[.pointer (some ⟨q, 0, none⟩), .int .i64 cap, .slice a2 n c2, .int .i64 bat] _ _ ho2c
                  have hm2 : Mod (fun b T => b = d0 ∧ T = 63) w2c _ := Mod.one (bsetRow (Below.refl d0 w2c) (Nat.le_refl _) #[.pointer (some ⟨q, 0, none⟩), .int .i64 cap, .slice a2 n c2, .int .i64 bat]) (fun b hb => setRow_other _ _ b _ hb) ho2c hs2 ⟨rfl, rfl⟩
                  intro ρ3 w3c G3 E3
                  have e82 : ρ3 (.tmp 82) = .pointer (some ⟨d0, 3, none⟩) := E3.pre 20 rfl rfl
                  refine step_plain rfl ?_
                  have ho3c := (G3.block d0 (heap_lt hs2)).trans hs2
                  refine op_store rfl e82 (E3.con _) rfl (cell_of_row _ d0 3 _ _ _ ho3c) (frozen_of_row _ d0 3 _ _ ho3c) (by kernel_rfl) ⟨trivial, ?_⟩
                  have hs3 := heap_setCell_same w3c d0 3 _ _ (.int .i64 0) ho3c
                  have hm3 := (Mod.refl (fun b T => b = d0 ∧ T = 63) w3c).setCell ho3c ⟨rfl, rfl⟩ 3 (.int .i64 0)
                  intro σ wF2 GF hκ
                  simp only [upd, updL, dstsOf', elemB, List.filterMap_cons, List.filterMap_nil, Nat.reduceAdd, Nat.reduceBEq, Bool.or_false, Bool.false_or, Bool.or_true, Bool.true_or, cond_true, cond_false, Nat.zero_add]
                  have hobjF : wF2.heap[d0]? = some (.cells #[.pointer (some ⟨q, 0, none⟩), .int .i64 cap, .slice a2 n c2, .int .i64 0] 63 (0, 0)) := (GF.block d0 (heap_lt hs3)).trans hs3
                  have hmx : Mod (fun b T => b = d0 ∧ T = 63) wx1 wF2 := ((((bmod G2 _).trans hm2).ext G3).trans hm3).ext GF
                  have hmA : Mod (fun b T => b = d0 ∧ T = 63) wr wF2 := (bmod (bthen G1 hb2 (Nat.le_refl _)) _).trans hmx
                  have hMx : MedR wx1 w1c.heap.size ⟨cap, pls us⟩ a2 n c2 cs2 := ⟨ho2, hl2, hp2⟩
                  have hsz : w.heap.size ≤ w1c.heap.size := Nat.le_trans HM2.out.size (Nat.le_trans HMr.out.size G1.size)
                  have hzn : RowsIn Z a2 n c2 cs2 := hMx.newRow.mono fun b hb => HUp.out.up b (by omega)
                  have hk2 : n ≤ c2 := by
                    have := ho2.row.len
                    rw [hl2] at this
                    exact this.1
                  have hMB := hMx.mono (Nat.le_trans HUp.out.le hsz)
                  have hrd : RDr B wF2 d0 q ⟨cap, pls us⟩ 0 a2 n c2 cs2 := ⟨Hdl.out, hobjF, ⟨hMB.own.mod hmx fun b T hf => by rw [hf.2]; exact ⟨by decide, by decide⟩, hMB.len, hMB.pls⟩, hk2⟩
                  have hdp : RDrvP B Z wF2 (D k) q ⟨cap, pls us⟩ 0 s := ⟨⟨a2, n, c2, cs2, by rw [← Hd0.out]; exact hrd, hzn⟩, HRr2.out.pow.mod hmA fun b T hf => by rw [hf.2]; decide⟩
                  have hnew := HRr2.out.driveAt Hbi.out (by rw [Hbv.out]; omega) hdp (hmA.mono fun b T _ hf => ⟨by rw [hf.1]; exact Hdl.out, .inr (by rw [← Hd0.out]; exact hf)⟩) HGD.out
                  have HNEW := Lib.hid hnew
                  have HMA := Lib.hid (HMr.out.trans hmA)
                  clear hobjF hmx hmA hMx hsz hzn hk2 hMB hrd hdp hnew GF G1 G2 G3 E1 E2 E3 hs2 hs3 hm2 hm3 ho2c ho3c ho2 hl2 hp2 hb2 hb02 hκ
                  go_wp2_with fail
                  go_roundw
                  case rel => exact ⟨k + 1, _, rfl, HMA, Lib.hid (.inr ⟨by omega, HNEW.out⟩), by omega, by go_num⟩
                  case measure => simp [intOf]; omega
              · have hbv : b.vol ≠ (vn : Int) := fun he => hki (HOK.out.one k i b bi hbk Hbi.out (by rw [he, Hbv.out]) (by rw [he]; omega))
                have ebv : (b.vol == (vn : Int)) = false := by simpa using hbv
                have HRr' : Hid (k + 1 ≤ i ∧ RRobP B Z wr r q S D s ∨ i < k + 1 ∧ RRobP B Z wr r q (S.drive i ⟨cap, pls us⟩ 0) D s) := Lib.hid (HRr.out.imp (fun h => ⟨by omega, h.2⟩) (fun h => ⟨by omega, h.2⟩))
                clear hbk hy hyb d1 u1 fD fH fU hne hbv eU eD eH lD lU HRr
                go_wp2_with fail
                go_roundw
                case rel => exact ⟨k + 1, _, rfl, HMr, HRr', by omega, by go_num⟩
                case measure => simp [intOf]; omega
            · obtain rfl : nB = k := by omega
              have hob := HMr.out.keep Hob.out (fun hf => absurd hf.2 (by decide))
              have q2 := (World.cell?_of_block (w := w2) (a := ⟨r, 2, none⟩) (hob.trans Hob.out.symm)).trans Hq2.out
              go_wp2
              go_ret
              rw [RS.put_some HfS.out]
              refine ⟨rfl, ?_, HM2.out.trans (HMr.out.mono fun b T _ hf => ⟨by rw [hf.1]; exact Hdl.out, .inl (by rw [hf.2]; decide)⟩)⟩
              rcases HRr.out with ⟨h, _⟩ | ⟨_, h⟩
              · have := HiB.out; omega
              · exact h
end Go.Proofs.Ytmaagkdehdmhlaa
