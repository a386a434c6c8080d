/- The law LabelUnlike, walked. -/
import Derived.Test.YthhgngknmjocpaaLabelWakes
import Derived.Test.YthhgngknmjocpaaRegion
namespace Go.Proofs.Ythhgngknmjocpaa
open Go.RowKit

set_option maxRecDepth 100000 in
set_option maxHeartbeats 2000000 in
theorem labelUnlike_walk (w : World) (v p e v' p' e' : Int) :
    Calls Try.prog 9 #[.agg #[.int .i64 v, .int .i64 p, .int .i64 e], .agg #[.int .i64 v', .int .i64 p', .int .i64 e']] w fun r w' => r = .returned (.bool true) ∧ Below w.heap.size w w' := by
  have hb1 := (ext_alloc w (.cells #[.int .i64 v, .int .i64 p, .int .i64 e] 37)).alloc (by simp) (.cells #[.int .i64 v', .int .i64 p', .int .i64 e'] 37)
  have hl1 := (LabAt.new w v p e).ext (ext_alloc _ (.cells #[.int .i64 v', .int .i64 p', .int .i64 e'] 37))
  have hm1 := LabAt.new (w.alloc (.cells #[.int .i64 v, .int .i64 p, .int .i64 e] 37)) v' p' e'
  rw [World.size_alloc] at hm1
  obtain ⟨k0, k1, k2⟩ := hl1.cells
  obtain ⟨l, hl⟩ : ∃ l, labB v p e = l := ⟨_, rfl⟩
  obtain ⟨E, hE⟩ : ∃ E, labE v p e = E := ⟨_, rfl⟩
  obtain ⟨m, hm⟩ : ∃ m, labB v' p' e' = m := ⟨_, rfl⟩
  obtain ⟨F, hF⟩ : ∃ F, labE v' p' e' = F := ⟨_, rfl⟩
  have HB := Lib.hid fun w => labbytes_at v p e E l _ w hl rfl hE
  have HC := Lib.hid fun w => labbytes_at v' p' e' F m _ w hm rfl hF
  have HK := Lib.hid fun w => keeplabel_at v p e v' p' e' _ w rfl
  have hcase : (E = 0 ∧ F = 0 ∧ l.length = 14 ∧ m.length = 14 ∧ decide (l = m) = decide (v = v' ∧ p = p' ∧ e = e')) ∨ (E = 0 ∧ F = 1 ∧ m.length = 0) ∨ (E = 1 ∧ l.length = 0 ∧ F = 0) ∨ (E = 1 ∧ l.length = 0 ∧ F = 1 ∧ m.length = 0) := by
    subst hl hE hm hF
    cases h1 : okL v p e <;> cases h2 : okL v' p' e'
    · exact .inr (.inr (.inr ⟨labE_no h1, by rw [labB_no h1]; rfl, labE_no h2, by rw [labB_no h2]; rfl⟩))
    · exact .inr (.inr (.inl ⟨labE_no h1, by rw [labB_no h1]; rfl, labE_ok h2⟩))
    · exact .inr (.inl ⟨labE_ok h1, labE_no h2, by rw [labB_no h2]; rfl⟩)
    · refine .inl ⟨labE_ok h1, labE_ok h2, labB_length_ok h1, labB_length_ok h2, ?_⟩
      rw [labB_ok h1, labB_ok h2]
      congr 1
      exact propext ⟨fun h => lbytes_inj h1 h2 h, fun ⟨a, b, c⟩ => by rw [a, b, c]⟩
  clear hl hE hm hF
  generalize decide (v = v' ∧ p = p' ∧ e = e') = b at *
  have Hc := Lib.hid hcase
  clear hcase
  unfold labV at *
  go_enter Try.func9, Try.ntmps9
  go_wp2_with fail
  refine (HB.out _).mono ?_
  rintro r w2 ⟨a2, c2, rfl, ho2, hb2⟩
  have hs2 := ho2.src
  have hl2 := hl1.ext hb2
  have hm2 := hm1.ext hb2
  have hb12 := bthen hb1 hb2 (Nat.le_refl _)
  clear k0 k1 k2 hl1 hb1 hb2 ho2 hm1
  obtain ⟨k0, k1, k2⟩ := hm2.cells
  go_wp2_with fail
  refine (HC.out _).mono ?_
  rintro r w3 ⟨a3, c3, rfl, ho3, hb3⟩
  have ht3 := ho3.src
  have hs3 := hs2.ext hb3
  have hl3 := hl2.ext hb3
  have hm3 := hm2.ext hb3
  have hb13 := bthen hb12 hb3 (Nat.le_refl _)
  clear k0 k1 k2 hl2 hb12 hb3 ho3 hm2 hs2
  rcases Hc.out with ⟨rfl, rfl, hL, hM, hd⟩ | ⟨rfl, rfl, hM⟩ | ⟨rfl, hL, rfl⟩ | ⟨rfl, hL, rfl, hM⟩
  · have Hd := Lib.hid hd
    have HL := Lib.hid hL
    have HM := Lib.hid hM
    have i1 : (((l.length : Nat) : Int) == 14) = true := by rw [HL.out]; rfl
    have i2 : (((m.length : Nat) : Int) == 14) = true := by rw [HM.out]; rfl
    clear hd Hc hL hM
    go_wp2_with fail
    refine wp_region_sp (by kernel_rfl) [Sp.eq (.slice a2 l.length c2), Sp.eq (.int .i64 (l.length : Int)), Sp.eq (.bool true), Sp.eq (.bool true), Sp.eq (.slice a3 m.length c3), Sp.eq (.int .i64 (m.length : Int)), Sp.eq (.bool true), Sp.eq (.bool true), Sp.eq (.bool true), Sp.eq (.slice a2 l.length c2), Sp.eq (.slice a3 m.length c3), Sp.eq (.bool b), Sp.eq (.agg #[.int .i64 v, .int .i64 p, .int .i64 e]), Sp.eq (.agg #[.int .i64 v', .int .i64 p', .int .i64 e']), Sp.eq (.bool b), Sp.eq (.bool true), Sp.eq (.bool true), Sp.eq (.bool true), Sp.eq (.bool true), Sp.eq (.bool true), Sp.eq (.bool true)] (by kernel_rfl) ?_ ?_
    · refine stepsOk_cons ?_ (stepsOk_cons ?_ (stepsOk_cons ?_ (stepsOk_cons ?_ (stepsOk_cons ?_ (stepsOk_cons ?_ (stepsOk_cons ?_ (stepsOk_cons ?_ (stepsOk_cons ?_ (stepsOk_cons ?_ (stepsOk_cons ?_ (stepsOk_cons ?_ (stepsOk_cons ?_ (stepsOk_cons ?_ (stepsOk_cons ?_ (stepsOk_cons ?_ (stepsOk_cons ?_ (stepsOk_cons ?_ (stepsOk_cons ?_ (stepsOk_cons ?_ (stepsOk_cons ?_ (stepsOk_nil)))))))))))))))))))))
      · intro ρ w' E
        have e5 : ρ (.tmp 5) = .slice a2 l.length c2 := E.out 5 rfl
        refine step_plain rfl ?_
        exact op_move (.inl rfl) e5 ⟨Below.refl _ _, rfl⟩
      · intro ρ w' E
        have e44 : ρ (.tmp 44) = .slice a2 l.length c2 := E.pre 0 rfl
        refine step_plain rfl ?_
        refine op_val (v := .int .i64 (l.length : Int)) (w' := w') ?_ ⟨Below.refl _ _, rfl⟩
        have hcon := E.con
        clear E
        go_simp
      · intro ρ w' E
        have e45 : ρ (.tmp 45) = .int .i64 (l.length : Int) := E.pre 1 rfl
        refine step_plain rfl ?_
        refine op_val (v := .bool true) (w' := w') ?_ ⟨Below.refl _ _, rfl⟩
        have hcon := E.con
        clear E
        go_simp
      · intro ρ w' E
        have e46 : ρ (.tmp 46) = .bool true := E.pre 2 rfl
        refine step_plain rfl ?_
        exact op_move (.inl rfl) e46 ⟨Below.refl _ _, rfl⟩
      · intro ρ w' E
        have e7 : ρ (.tmp 7) = .slice a3 m.length c3 := E.out 7 rfl
        refine step_yes rfl (E.pre 3 rfl) ?_
        exact op_move (.inl rfl) e7 ⟨Below.refl _ _, rfl⟩
      · intro ρ w' E
        have e48 : ρ (.tmp 48) = .slice a3 m.length c3 := E.pre 4 rfl
        refine step_yes rfl (E.pre 3 rfl) ?_
        refine op_val (v := .int .i64 (m.length : Int)) (w' := w') ?_ ⟨Below.refl _ _, rfl⟩
        have hcon := E.con
        clear E
        go_simp
      · intro ρ w' E
        have e49 : ρ (.tmp 49) = .int .i64 (m.length : Int) := E.pre 5 rfl
        refine step_yes rfl (E.pre 3 rfl) ?_
        refine op_val (v := .bool true) (w' := w') ?_ ⟨Below.refl _ _, rfl⟩
        have hcon := E.con
        clear E
        go_simp
      · intro ρ w' E
        have e47 : ρ (.tmp 47) = .bool true := E.pre 3 rfl
        have e50 : ρ (.tmp 50) = .bool true := E.pre 6 rfl
        refine step_plain rfl ?_
        exact op_pick (b := true) rfl e47 rfl ⟨Below.refl _ _, e50⟩
      · intro ρ w' E
        have e51 : ρ (.tmp 51) = .bool true := E.pre 7 rfl
        refine step_plain rfl ?_
        exact op_move (.inl rfl) e51 ⟨Below.refl _ _, rfl⟩
      · intro ρ w' E
        have e5 : ρ (.tmp 5) = .slice a2 l.length c2 := E.out 5 rfl
        refine step_yes rfl (E.pre 8 rfl) ?_
        exact op_move (.inl rfl) e5 ⟨Below.refl _ _, rfl⟩
      · intro ρ w' E
        have e7 : ρ (.tmp 7) = .slice a3 m.length c3 := E.out 7 rfl
        refine step_yes rfl (E.pre 8 rfl) ?_
        exact op_move (.inl rfl) e7 ⟨Below.refl _ _, rfl⟩
      · intro ρ w' E
        have e53 : ρ (.tmp 53) = .slice a2 l.length c2 := E.pre 9 rfl
        have e54 : ρ (.tmp 54) = .slice a3 m.length c3 := E.pre 10 rfl
        refine step_yes rfl (E.pre 8 rfl) ?_
        refine op_call (f := 29) (args := #[.slice a2 l.length c2, .slice a3 m.length c3]) (w' := w') (by have hcon := E.con; have hfn := E.fn; clear E; go_simp) ?_
        refine (bytes_at a2 c2 l a3 c3 m w' _ _ b (hs3.ext E.below) (ht3.ext E.below) rfl rfl (by rw [HL.out]; omega) (by rw [HM.out]; omega) Hd.out).mono ?_
        rintro r w4 ⟨rfl, n, rfl⟩
        exact ⟨_, rfl, ext_drewN _ _ _, rfl⟩
      · intro ρ w' E
        have e2 : ρ (.tmp 2) = .pointer (some ⟨w.heap.size, 0, none⟩) := E.out 2 rfl
        refine step_yes rfl (E.pre 8 rfl) ?_
        refine op_val (v := .agg #[.int .i64 v, .int .i64 p, .int .i64 e]) (w' := w') ?_ ⟨Below.refl _ _, rfl⟩
        obtain ⟨k0, k1, k2⟩ := (hl3.ext E.below).cells
        have hcon := E.con
        clear E
        go_simp
      · intro ρ w' E
        have e3 : ρ (.tmp 3) = .pointer (some ⟨w.heap.size + 1, 0, none⟩) := E.out 3 rfl
        refine step_yes rfl (E.pre 8 rfl) ?_
        refine op_val (v := .agg #[.int .i64 v', .int .i64 p', .int .i64 e']) (w' := w') ?_ ⟨Below.refl _ _, rfl⟩
        obtain ⟨k0, k1, k2⟩ := (hm3.ext E.below).cells
        have hcon := E.con
        clear E
        go_simp
      · intro ρ w' E
        have e56 : ρ (.tmp 56) = .agg #[.int .i64 v, .int .i64 p, .int .i64 e] := E.pre 12 rfl
        have e57 : ρ (.tmp 57) = .agg #[.int .i64 v', .int .i64 p', .int .i64 e'] := E.pre 13 rfl
        refine step_yes rfl (E.pre 8 rfl) ?_
        refine op_call (f := 31) (args := #[.agg #[.int .i64 v, .int .i64 p, .int .i64 e], .agg #[.int .i64 v', .int .i64 p', .int .i64 e']]) (w' := w') (by have hcon := E.con; have hfn := E.fn; clear E; go_simp) ?_
        refine (HK.out w').mono ?_
        rintro r w4 ⟨rfl, hb⟩
        exact ⟨_, rfl, hb, rfl⟩
      · intro ρ w' E
        have e55 : ρ (.tmp 55) = .bool b := E.pre 11 rfl
        have e58 : ρ (.tmp 58) = .bool b := E.pre 14 rfl
        refine step_yes rfl (E.pre 8 rfl) ?_
        refine op_val (v := .bool true) (w' := w') ?_ ⟨Below.refl _ _, rfl⟩
        have hcon := E.con
        clear E
        go_simp
      · intro ρ w' E
        have e52 : ρ (.tmp 52) = .bool true := E.pre 8 rfl
        have e59 : ρ (.tmp 59) = .bool true := E.pre 15 rfl
        refine step_plain rfl ?_
        exact op_pick (b := true) rfl e52 rfl ⟨Below.refl _ _, e59⟩
      · intro ρ w' E
        have e60 : ρ (.tmp 60) = .bool true := E.pre 16 rfl
        refine step_plain rfl ?_
        exact op_move (.inl rfl) e60 ⟨Below.refl _ _, rfl⟩
      · intro ρ w' E
        refine step_yes rfl (E.pre 17 rfl) ?_
        refine op_call (f := 27) (args := #[]) (w' := w') (by have hcon := E.con; have hfn := E.fn; clear E; go_simp) ?_
        refine (wakes14_any w').mono ?_
        rintro r w4 ⟨rfl, hb⟩
        exact ⟨_, rfl, hb, rfl⟩
      · intro ρ w' E
        have e61 : ρ (.tmp 61) = .bool true := E.pre 17 rfl
        have e62 : ρ (.tmp 62) = .bool true := E.pre 18 rfl
        refine step_plain rfl ?_
        exact op_pick (b := true) rfl e61 rfl ⟨Below.refl _ _, e62⟩
      · intro ρ w' E
        have e63 : ρ (.tmp 63) = .bool true := E.pre 19 rfl
        refine step_plain rfl ?_
        exact op_move (.inr rfl) e63 ⟨Below.refl _ _, rfl⟩
    · intro σ w4 hb4 hall
      have h4 : σ 4 = .bool true := by obtain ⟨_, _, _, _, _, _, _, _, _, _, _, _, _, _, _, _, _, _, _, _, h, _⟩ := hall; exact h
      have hb14 := bthen hb13 hb4 (Nat.le_refl _)
      clear hall
      generalize hact : upd _ _ σ = act
      have hr : act.tmps.getD 4 undef = .bool true := by rw [← hact]; exact h4
      have hd : act.defers = [] := by rw [← hact]; rfl
      go_wp2
      exact bodyPost_ret (results_tmp rfl _ _ _) hd ⟨by rw [hr], hb14⟩
  · have i2 : (((m.length : Nat) : Int) == 0) = true := by rw [hM]; rfl
    clear hM Hc
    go_wp2_with fail
    refine (wakes14_any _).mono ?_
    rintro r w5 ⟨rfl, hb5⟩
    go_wp2
    go_ret
    exact ⟨rfl, bthen hb13 hb5 (Nat.le_refl _)⟩
  · have i2 : (((l.length : Nat) : Int) == 0) = true := by rw [hL]; rfl
    clear hL Hc
    go_wp2_with fail
    refine (wakes14_any _).mono ?_
    rintro r w5 ⟨rfl, hb5⟩
    go_wp2
    go_ret
    exact ⟨rfl, bthen hb13 hb5 (Nat.le_refl _)⟩
  · have i1 : (((l.length : Nat) : Int) == 0) = true := by rw [hL]; rfl
    have i2 : (((m.length : Nat) : Int) == 0) = true := by rw [hM]; rfl
    clear hL hM Hc
    go_wp2_with fail
    refine (wakes14_any _).mono ?_
    rintro r w5 ⟨rfl, hb5⟩
    go_wp2
    go_ret
    exact ⟨rfl, bthen hb13 hb5 (Nat.le_refl _)⟩
end Go.Proofs.Ythhgngknmjocpaa
