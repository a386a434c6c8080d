/- medium.End. -/
import Derived.Test.YtilmldkaagbofaaMedOps
import Derived.Test.YtilmldkaagbofaaKeepMed
namespace Go.Proofs.Ytilmldkaagbofaa
open Go.RowKit

set_option maxRecDepth 100000 in
set_option maxHeartbeats 4000000 in
theorem end_any (cap : Int) (a : Option Addr) (c n : Nat) (cs : List CellV) (p : Int) (M : Med) (E : Int) (w : World) (hs : CMat w a cs) (hn : n = cs.length) (hn2 : n ≤ 90000) (hx : ∀ x ∈ cs, x.d.l.length ≤ 140737488355328) (hnc : n ≤ c) (hr : (medOf cap cs).end_ p = (M, E)) :
    Calls Try.prog 53 #[.agg #[.int .i64 cap, .slice a n c], .int .i64 p] w fun e w' => ∃ a' c' k cs', e = .returned (.tuple #[.agg #[.int .i64 M.cap, .slice a' k c'], .int .i64 E]) ∧ MedR w' w.heap.size M a' k c' cs' ∧ k ≤ c' ∧ Below w.heap.size w w' := by
  have Hs := Lib.hid hs
  have Hn := Lib.hid hn
  have Hx := Lib.hid hx
  have hcl : (medOf cap cs).cells.length = n := (pls_length cs).trans hn.symm
  have HR : Hid ((if (medOf cap cs).ok = false ∨ p < 0 ∨ (n : Int) < p then (Med.none, (1 : Int)) else (⟨cap, (pls cs).take p.toNat⟩, 0)) = (M, E)) := Lib.hid (by rw [← hr]; unfold Med.end_; rw [hcl]; rfl)
  have hz1 := heap_alloc_new w (.cells #[.int .i64 cap, .slice a n c] 32)
  have hz2 := heap_alloc_new (w.alloc (.cells #[.int .i64 cap, .slice a n c] 32)) (.cells #[.int .i64 0, .slice none 0 0] 32)
  rw [World.size_alloc] at hz2
  have hb1 := ext_alloc w (.cells #[.int .i64 cap, .slice a n c] 32)
  have hb2 := ext_alloc (w.alloc (.cells #[.int .i64 cap, .slice a n c] 32)) (.cells #[.int .i64 0, .slice none 0 0] 32)
  have hz1' := (hb2.block w.heap.size (by rw [World.size_alloc]; omega)).trans hz1
  have hb02 := bthen hb1 hb2 (Nat.le_refl _)
  clear hs hn hx hb1 hb2 hz1 hr hcl
  by_cases hbad : (medOf cap cs).ok = false ∨ p < 0 ∨ (n : Int) < p
  · have hl : M = Med.none ∧ E = 1 := by have h := HR.out; rw [if_pos hbad] at h; simp at h; exact ⟨h.1.symm, h.2.symm⟩
    obtain ⟨rfl, rfl⟩ := hl
    clear HR
    have HB := Lib.hid hbad
    clear hbad
    go_enter Try.func53, Try.ntmps53
    go_wp2_with fail
    generalize hw2 : World.alloc _ (Obj.cells #[.int .i64 0, .slice none 0 0] 32) = w2 at *
    clear hw2
    refine (check_any cap a c n cs (medOf cap cs).ok w2 (Hs.out.ext hb02) Hn.out (by omega) rfl).mono ?_
    rintro e w3 ⟨rfl, hb3⟩
    have g1 := (hb3.block _ (heap_lt hz1')).trans hz1'
    have g2 := (hb3.block _ (heap_lt hz2)).trans hz2
    have hb03 := bthen hb02 hb3 (Nat.le_refl _)
    have d1 := cell_of_row w3 w.heap.size 1 _ _ _ g1
    have hg3 := setRow_heap w3 (w.heap.size + 1) _ #[.int .i64 0, .slice none 0 0] _ _ g2
    have hbF := bsetRow hb03 (show w.heap.size ≤ w.heap.size + 1 by omega) #[.int .i64 0, .slice none 0 0]
    clear hb3 hz1' hz2
    cases hok : (medOf cap cs).ok with
    | false =>
      go_wp2_with (refine wpList_store_row rfl rfl 32 (.tmp 4) (.tmp 20) rfl (w.heap.size + 1) rfl 32 #[.int .i64 0, .slice none 0 0] #[.int .i64 0, .slice none 0 0] rfl g2 rfl (by kernel_rfl) (by simp [Value.oneCell']) ?_)
      exact bodyPost_ret (results_cellm (p := 4) (u := 5) rfl _ _ (w.heap.size + 1) _ #[.int .i64 0, .slice none 0 0] _ _ rfl hg3 Try.underlying32 rfl (by kernel_rfl)) rfl
        ⟨none, 0, 0, [], rfl, MedR.none _ _, Nat.le_refl _, hbF⟩
    | true =>
      by_cases h0 : p < 0
      · go_wp2_with (refine wpList_store_row rfl rfl 32 (.tmp 4) (.tmp 20) rfl (w.heap.size + 1) rfl 32 #[.int .i64 0, .slice none 0 0] #[.int .i64 0, .slice none 0 0] rfl g2 rfl (by kernel_rfl) (by simp [Value.oneCell']) ?_)
        exact bodyPost_ret (results_cellm (p := 4) (u := 5) rfl _ _ (w.heap.size + 1) _ #[.int .i64 0, .slice none 0 0] _ _ rfl hg3 Try.underlying32 rfl (by kernel_rfl)) rfl
          ⟨none, 0, 0, [], rfl, MedR.none _ _, Nat.le_refl _, hbF⟩
      · have h1 : (n : Int) < p := by
          rcases HB.out with h | h | h
          · rw [hok] at h; cases h
          · exact absurd h h0
          · exact h
        go_wp2_with (refine wpList_store_row rfl rfl 32 (.tmp 4) (.tmp 20) rfl (w.heap.size + 1) rfl 32 #[.int .i64 0, .slice none 0 0] #[.int .i64 0, .slice none 0 0] rfl g2 rfl (by kernel_rfl) (by simp [Value.oneCell']) ?_)
        exact bodyPost_ret (results_cellm (p := 4) (u := 5) rfl _ _ (w.heap.size + 1) _ #[.int .i64 0, .slice none 0 0] _ _ rfl hg3 Try.underlying32 rfl (by kernel_rfl)) rfl
          ⟨none, 0, 0, [], rfl, MedR.none _ _, Nat.le_refl _, hbF⟩
  · have hok : (medOf cap cs).ok = true := by cases h : (medOf cap cs).ok with | true => rfl | false => exact absurd (.inl h) hbad
    have hp0 : 0 ≤ p := by omega
    obtain ⟨p, rfl⟩ := Int.eq_ofNat_of_zero_le hp0
    have hpn : p ≤ n := by omega
    have hl : M = ⟨cap, (pls cs).take p⟩ ∧ E = 0 := by have h := HR.out; rw [if_neg hbad, Int.toNat_natCast] at h; simp at h; exact ⟨h.1.symm, h.2.symm⟩
    obtain ⟨rfl, rfl⟩ := hl
    have g0 : ¬ (p : Int) < 0 := by omega
    have g1' : ¬ n < p := by omega
    have hpc : (p : Int) ≤ (c : Int) := by omega
    have hpc2 : ¬ c < p := by omega
    clear HR hbad hp0
    go_enter Try.func53, Try.ntmps53
    go_wp2_with fail
    generalize hw2 : World.alloc _ (Obj.cells #[.int .i64 0, .slice none 0 0] 32) = w2 at *
    clear hw2
    refine (check_any cap a c n cs true w2 (Hs.out.ext hb02) Hn.out (by omega) hok).mono ?_
    rintro e w3 ⟨rfl, hb3⟩
    have g1 := (hb3.block _ (heap_lt hz1')).trans hz1'
    have g2 := (hb3.block _ (heap_lt hz2)).trans hz2
    have hb03 := bthen hb02 hb3 (Nat.le_refl _)
    have d0 := cell_of_row w3 w.heap.size 0 _ _ _ g1
    have d1 := cell_of_row w3 w.heap.size 1 _ _ _ g1
    have hl1 := heap_lt g1
    have hl2 := heap_lt g2
    clear hb3 hz1' hz2 hok
    go_wp2_with fail
    refine wp_region_chainL (by kernel_rfl) [7, 8, 9] (Keeps.rel (fun b => b = w.heap.size)) [SpT.eq (.pointer (some ⟨w.heap.size, 0, none⟩)), SpT.eq (.int .i64 cap), SpT.eq (.pointer (some ⟨w.heap.size, 1, none⟩)), SpT.eq (.slice a n c), SpT.eq (.int .i64 (p : Int)), SpT.eq (.slice a p c), SpT.eq (.agg #[.int .i64 cap, .slice a p c]), SpT.top, SpT.top, SpT.top] (by kernel_rfl) (by kernel_rfl) (by kernel_rfl) (by kernel_rfl) ?_ ?_
    · refine stepsL_free rfl ?_ (stepsL_free rfl ?_ (stepsL_free rfl ?_ (stepsL_free rfl ?_ (stepsL_free rfl ?_ (stepsL_free rfl ?_ (stepsL_free rfl ?_ (stepsL_chain rfl (stepsL_chain rfl (stepsL_chain rfl (stepsL_nil))))))))))
      · intro ρ w' E
        have e2 : ρ (.tmp 2) = .pointer (some ⟨w.heap.size, 0, none⟩) := E.out 2 rfl
        refine step_plain rfl ?_
        refine op_val (v := .pointer (some ⟨w.heap.size, 0, none⟩)) (w' := w') ?_ ⟨Below.refl _ _, rfl⟩
        have hcon := E.con
        clear E
        go_simp
      · intro ρ w' E
        have e21 : ρ (.tmp 21) = .pointer (some ⟨w.heap.size, 0, none⟩) := E.pre 0 rfl rfl
        refine step_plain rfl ?_
        refine op_val (v := .int .i64 cap) (w' := w') ?_ ⟨Below.refl _ _, rfl⟩
        have hk : w'.cell? ⟨w.heap.size, 0, none⟩ = some (.int .i64 cap) := (World.cell?_of_block (w := w3) (E.t.block w.heap.size rfl hl1)).trans d0
        have hcon := E.con
        clear E d0 d1
        go_simp
      · intro ρ w' E
        have e2 : ρ (.tmp 2) = .pointer (some ⟨w.heap.size, 0, none⟩) := E.out 2 rfl
        refine step_plain rfl ?_
        refine op_val (v := .pointer (some ⟨w.heap.size, 1, none⟩)) (w' := w') ?_ ⟨Below.refl _ _, rfl⟩
        have hcon := E.con
        clear E
        go_simp
      · intro ρ w' E
        have e23 : ρ (.tmp 23) = .pointer (some ⟨w.heap.size, 1, none⟩) := E.pre 2 rfl rfl
        refine step_plain rfl ?_
        refine op_val (v := .slice a n c) (w' := w') ?_ ⟨Below.refl _ _, rfl⟩
        have hk : w'.cell? ⟨w.heap.size, 1, none⟩ = some (.slice a n c) := (World.cell?_of_block (w := w3) (E.t.block w.heap.size rfl hl1)).trans d1
        have hcon := E.con
        clear E d0 d1
        go_simp
      · intro ρ w' E
        have e1 : ρ (.tmp 1) = .int .i64 (p : Int) := E.out 1 rfl
        refine step_plain rfl ?_
        exact op_move (.inl rfl) e1 ⟨Below.refl _ _, rfl⟩
      · intro ρ w' E
        have e24 : ρ (.tmp 24) = .slice a n c := E.pre 3 rfl rfl
        have e25 : ρ (.tmp 25) = .int .i64 (p : Int) := E.pre 4 rfl rfl
        refine step_plain rfl ?_
        refine op_val (v := .slice a p c) (w' := w') ?_ ⟨Below.refl _ _, rfl⟩
        have hcon := E.con
        clear E d0 d1
        go_simp
      · intro ρ w' E
        have e22 : ρ (.tmp 22) = .int .i64 cap := E.pre 1 rfl rfl
        have e26 : ρ (.tmp 26) = .slice a p c := E.pre 5 rfl rfl
        refine step_plain rfl ?_
        refine op_val (v := .agg #[.int .i64 cap, .slice a p c]) (w' := w') ?_ ⟨Below.refl _ _, rfl⟩
        have hcon := E.con
        clear E
        go_simp
    · intro ρ1 w1c G1 E1
      have e27 : ρ1 (.tmp 27) = .agg #[.int .i64 cap, .slice a p c] := E1.pre 6 rfl rfl
      refine step_plain rfl ?_
      refine op_call (f := 102) (args := #[.agg #[.int .i64 cap, .slice a p c]]) (w' := w1c) (by have hcon := E1.con; have hfn := E1.fn; clear E1 d0 d1; go_simp) ?_
      refine (med_twin cap a c p (cs.take p) w1c (((Hs.out.take p).ext hb03).ext G1) (by rw [List.length_take]; have := Hn.out; omega) (by omega) fun x hx => Hx.out x (List.mem_of_mem_take hx)).mono ?_
      rintro e wx1 ⟨a4, c4, cs4, rfl, hl4, ho4, hp4, hb4⟩
      refine ⟨_, rfl, (Keeps.rel (fun b => b = w.heap.size)).of hb4, ?_⟩
      intro ρ2 w2c G2 E2
      have e4 : ρ2 (.tmp 4) = .pointer (some ⟨(w.heap.size + 1), 0, none⟩) := E2.out 4 rfl
      have e28 : ρ2 (.tmp 28) = .agg #[.int .i64 cap, .slice a4 p c4] := E2.chn 7 28 rfl rfl rfl
      refine step_plain rfl ?_
      have hb2c := bthen G1 (bthen hb4 G2 (Nat.le_refl _)) (Nat.le_refl _)
      have gq := (hb2c.block _ hl2).trans g2
      refine op_store_row rfl (E2.out 4 rfl) e28 gq rfl (by kernel_rfl) (by simp [Value.oneCell']) ⟨⟨by simp, fun b hb _ => by subst hb; exact setRow_other _ _ _ _ (by omega)⟩, ?_⟩
      have hgr := setRow_heap w2c (w.heap.size + 1) _ #[.int .i64 cap, .slice a4 p c4] _ _ gq
      intro ρ3 w3c G3 E3
      refine step_plain rfl ?_
      refine op_move (.inr rfl) (E3.con _) ⟨trivial, ?_⟩
      intro σ wF GF hκ
      have h5 : σ 5 = .int .i64 0 := hκ 9 5 rfl rfl
      simp only [upd, updL, dstsOf', elemB, List.filterMap_cons, List.filterMap_nil, Nat.reduceAdd, Nat.reduceBEq, Bool.or_false, Bool.false_or, Bool.or_true, Bool.true_or, cond_true, cond_false, Nat.zero_add, h5]
      have hMR : MedR w2c w.heap.size ⟨cap, (pls cs).take p⟩ a4 p c4 cs4 := ⟨(ho4.ext G2).mono (bthen hb03 G1 (Nat.le_refl _)).size, hl4, by rw [hp4, pls_take]⟩
      have hMF := ((hMR.setRow (new := #[.int .i64 cap, .slice a4 p c4]) gq).ext (bthen G3 GF (Nat.le_refl _)))
      have hgF := ((bthen G3 GF (Nat.le_refl _)).block _ (heap_lt hgr)).trans hgr
      have hbF := bthen (bsetRow (bthen hb03 hb2c (Nat.le_refl _)) (show w.heap.size ≤ w.heap.size + 1 by omega) #[.int .i64 cap, .slice a4 p c4]) (bthen G3 GF (Nat.le_refl _)) (Nat.le_refl _)
      have hkc : p ≤ c4 := by have := ho4.row.len.1; rw [hl4] at this; exact this
      have HMF := Lib.hid hMF
      have HgF := Lib.hid hgF
      clear hMR hMF hgF hgr gq hb2c hb4 ho4 hp4 G1 G2 G3 GF E1 E2 E3 hκ d0 d1 g1 g2
      go_wp2_with fail
      exact bodyPost_ret (results_cellm (p := 4) (u := 5) rfl _ _ (w.heap.size + 1) _ #[.int .i64 cap, .slice a4 p c4] _ _ rfl HgF.out Try.underlying32 rfl (by kernel_rfl)) rfl
        ⟨a4, c4, p, cs4, rfl, HMF.out, hkc, hbF⟩
end Go.Proofs.Ytilmldkaagbofaa
