/- The law PowerArms, walked. -/
import Derived.Test.YthhgngknmjocpaaPowerWakes
namespace Go.Proofs.Ythhgngknmjocpaa
open Go.RowKit

/-- Armed for the n-th (from 1 on), j writes later; t is what is torn then, u what was. -/
def armS (n j : Nat) (t : Int) : PS := if n = 0 then PS.new else if j < n then { PS.new with trip := some ((n : Int) - (j : Int), [], t) } else { PS.new with off := true, torn := t }
theorem armS_zero (n : Nat) (t : Int) : PS.new.arm n [] t = armS n 0 t := by
  unfold PS.arm armS
  by_cases h : n = 0
  · subst h; rfl
  · rw [if_pos (by omega), if_neg h, if_pos (by omega)]; simp
theorem armS_again (n j : Nat) (t u : Int) (m : Nat) (hj : j < n) : (armS n j t).arm m [] u = armS m 0 u := by
  unfold PS.arm armS
  rw [if_neg (by omega), if_pos hj]
  by_cases h : m = 0
  · subst h; rfl
  · rw [if_pos (by omega), if_neg h, if_pos (by omega)]; simp
theorem armS_spend (n j : Nat) (t : Int) : (armS n j t).spend = (decide (n = 0) || decide (j + 1 < n), armS n (j + 1) t) := by
  unfold armS
  by_cases h : n = 0
  · subst h; rfl
  · simp only [if_neg h]
    by_cases h1 : j < n
    · rw [if_pos h1]
      show (PS.mk false 0 [] (-1) (some ((n : Int) - (j : Int), [], t))).spend = _
      rw [spend_some]
      by_cases h2 : j + 1 < n
      · rw [if_pos h2, if_pos (by omega)]
        simp only [h, h2, decide_false, decide_true, Bool.false_or, Prod.mk.injEq, true_and]
        show PS.mk _ _ _ _ _ = PS.mk _ _ _ _ _
        rw [show (n : Int) - (j : Int) - 1 = (n : Int) - ((j + 1 : Nat) : Int) by omega]
        rfl
      · rw [if_neg h2, if_neg (by omega)]
        simp only [h, h2, decide_false, Bool.false_or, Prod.mk.injEq, true_and]
        rfl
    · have h2 : ¬ j + 1 < n := by omega
      rw [if_neg h1, if_neg h2]
      simp only [h, h2, decide_false, Bool.false_or]
      rfl
theorem armS_nil (j : Nat) (t : Int) : armS 0 j t = PS.new := rfl
theorem armS_done (n j : Nat) (t : Int) (h0 : n ≠ 0) (h : n ≤ j) : armS n j t = ⟨true, 0, [], t, none⟩ := by
  unfold armS
  rw [if_neg h0, if_neg (by omega)]
  rfl

set_option maxRecDepth 100000 in
set_option maxHeartbeats 4000000 in
/-- From the start on. -/
theorem powerArms_walk (w : World) (a0 : Int) (wa : (Lit.int .i64 a0).wf = true) (b0 : Int) (wb : (Lit.int .i64 b0).wf = true) (c0 : Int) (wc : (Lit.int .i64 c0).wf = true) :
    Calls Try.prog 5 #[.int .i64 a0, .int .i64 b0, .int .i64 c0] w fun e w' => e = .returned (.bool true) ∧ Below w.heap.size w w' := by
  obtain ⟨a, ha, ea⟩ := umod a0 20 (by omega) (by omega)
  obtain ⟨b, hb, eb⟩ := umod b0 20 (by omega) (by omega)
  obtain ⟨c, hc, ec⟩ := umod c0 10 (by omega) (by omega)
  go_enter Try.func5, Try.ntmps5
  go_wp2_with fail
  rw [ea, eb, ec]
  clear ea eb ec wa wb wc
  refine (power_new w).mono ?_
  rintro e w1 ⟨g, rfl, hp, hb1⟩
  have hz1 := hb1.size
  obtain ⟨n, hn⟩ : ∃ n, n = a + c + 1 := ⟨_, rfl⟩
  have en : ((a : Int) + (c : Int) + 1) = (n : Int) := by omega
  have hcn : c < n := by omega
  have hn40 : n ≤ 40 := by omega
  have Hn := Lib.hid hn
  clear hn
  go_wp2_with fail
  clear en
  refine (arm_nil hz1 hp (armS_zero n 1) (by omega)).mono ?_
  rintro e w2 ⟨rfl, hp2, hb2⟩
  have hb12 := hb1.trans hb2
  clear hp hb1 hb2 hz1
  go_wp2_with fail
  go_loopw [8] (fun i wr => ∃ (j : Nat) (wz : World), wz = wr ∧ j ≤ c ∧ i = .int .i64 (j : Int) ∧ Pow w.heap.size wz g (armS n j 1) ∧ Below w.heap.size w wz) (fun i _ => c - (intOf i).toNat)
  case atStart => exact ⟨0, _, rfl, by omega, rfl, hp2, hb12⟩
  case round =>
    obtain ⟨j, wr, rfl, hj, rfl, hp3, hb3⟩ := hrel
    have hz3 := hb3.size
    by_cases hlt : j < c
    · have hsp : (armS n j 1).spend = (true, armS n (j + 1) 1) := by rw [armS_spend, show decide (j + 1 < n) = true by simp; omega]; simp
      go_wp2_with fail
      refine (spend_at hz3 hp3 hsp).mono ?_
      rintro e w4 ⟨rfl, hp4, hb4⟩
      go_wp2_with fail
      go_roundw
      case rel => exact ⟨j + 1, _, rfl, by omega, by go_num, hp4, hb3.trans hb4⟩
      case measure => simp [intOf] <;> omega
    · obtain rfl : j = c := by omega
      go_wp2_with fail
      refine (arm_nil hz3 hp3 (armS_again n j 1 2 b hcn) (by omega)).mono ?_
      rintro e w4 ⟨rfl, hp4, hb4⟩
      have hb34 := hb3.trans hb4
      clear hp3 hb3 hb4 hz3
      go_wp2_with fail
      go_loopw [9, 10] (fun v i wr => ∃ (j : Nat) (wz : World), wz = wr ∧ j ≤ 40 ∧ (b ≠ 0 → j < b) ∧ i = .int .i64 (j : Int) ∧ v = .int .i64 (j : Int) ∧ Pow w.heap.size wz g (armS b j 2) ∧ Below w.heap.size w wz) (fun _ i _ => 40 - (intOf i).toNat)
      case atStart => exact ⟨0, _, rfl, by omega, by omega, rfl, rfl, hp4, hb34⟩
      case round =>
        obtain ⟨j, wr, rfl, hj, hjb, rfl, rfl, hp5, hb5⟩ := hrel
        have hz5 := hb5.size
        by_cases hj40 : j < 40
        · have hsp := armS_spend b j 2
          by_cases hgo : b = 0 ∨ j + 1 < b
          · have hd : (decide (b = 0) || decide (j + 1 < b)) = true := by simpa using hgo
            rw [hd] at hsp
            clear hd
            have Hgo := Lib.hid hgo
            have Hjb := Lib.hid hjb
            clear hgo hjb
            go_wp2_with fail
            refine (spend_at hz5 hp5 hsp).mono ?_
            rintro e w6 ⟨rfl, hp6, hb6⟩
            go_wp2_with fail
            go_roundw
            case rel => exact ⟨j + 1, _, rfl, by omega, by have := Hgo.out; omega, by go_num, by go_num, hp6, hb5.trans hb6⟩
            case measure => simp [intOf] <;> omega
          · have hd : (decide (b = 0) || decide (j + 1 < b)) = false := by simpa using hgo
            rw [hd, armS_done b (j + 1) 2 (by omega) (by omega)] at hsp
            have hb0 : b ≠ 0 := by omega
            have hjb' := hjb hb0
            have t1 : ((((b : Nat) : Int)) == 0) = false := by simp; omega
            have t2 : (((j : Nat) : Int) != (b : Int) - 1) = false := by simp; omega
            have Hsp := Lib.hid hsp
            have Ht1 := Lib.hid t1
            have Ht2 := Lib.hid t2
            clear hd hjb hgo hb0 hjb' hsp t1 t2
            go_wp2_with fail
            refine (spend_at hz5 hp5 Hsp.out).mono ?_
            rintro e w6 ⟨rfl, hp6, hb6⟩
            have hb56 := hb5.trans hb6
            clear hp5 hb5 hb6 hz5 Hsp
            have t1 := Ht1.out
            have t2 := Ht2.out
            go_wp2_with fail
            refine (off_at hp6 rfl).mono ?_
            rintro e w7 ⟨rfl, rfl⟩
            go_wp2_with fail
            refine (torn_at hp6 rfl).mono ?_
            rintro e w7 ⟨rfl, rfl⟩
            go_wp2_with fail
            refine (start_at hp6 (show (PS.mk true 0 [] 2 none).start = ⟨false, 1, [], 2, none⟩ from rfl) (by decide) (by decide)).mono ?_
            rintro e w20 ⟨rfl, hp20, hb20⟩
            have hb20 := hb56.trans hb20
            have hz20 := hb20.size
            go_wp2_with fail
            refine (arm_nil (s' := ⟨false, 1, [], 2, some (3, [], 5)⟩) hz20 hp20 rfl (by omega)).mono ?_
            rintro e w21 ⟨rfl, hp21, hb21⟩
            have hb21 := hb20.trans hb21
            have hz21 := hb21.size
            go_wp2_with fail
            refine (cut_nil (s' := ⟨true, 1, [], 7, none⟩) hz21 hp21 rfl).mono ?_
            rintro e w22 ⟨rfl, hp22, hb22⟩
            have hb22 := hb21.trans hb22
            go_wp2_with fail
            refine (start_at (s' := ⟨false, 2, [], 7, none⟩) hp22 rfl (by decide) (by decide)).mono ?_
            rintro e w23 ⟨rfl, hp23, hb23⟩
            have hb23 := hb22.trans hb23
            clear hp20 hb20 hz20 hp21 hb21 hz21 hp22 hb22
            go_wp2_with fail
            go_loopw [11] (fun i wr => ∃ (j : Nat) (wz : World), wz = wr ∧ j ≤ 10 ∧ i = .int .i64 (j : Int) ∧ Pow w.heap.size wz g ⟨false, 2, [], 7, none⟩ ∧ Below w.heap.size w wz) (fun i _ => 10 - (intOf i).toNat)
            case atStart => exact ⟨0, _, rfl, by omega, rfl, hp23, hb23⟩
            case round =>
              obtain ⟨j, wr, rfl, hj, rfl, hp24, hb24⟩ := hrel
              have hz24 := hb24.size
              by_cases hlt : j < 10
              · go_wp2_with fail
                refine (spend_at (r := true) (s' := ⟨false, 2, [], 7, none⟩) hz24 hp24 rfl).mono ?_
                rintro e w25 ⟨rfl, hp25, hb25⟩
                go_wp2_with fail
                go_roundw
                case rel => exact ⟨j + 1, _, rfl, by omega, by go_num, hp25, hb24.trans hb25⟩
                case measure => simp [intOf] <;> omega
              · obtain rfl : j = 10 := by omega
                go_wp2_with fail
                refine (torn_at hp24 rfl).mono ?_
                rintro e w25 ⟨rfl, rfl⟩
                go_wp2_with fail
                refine (wakes08_any _).mono ?_
                rintro e w26 ⟨rfl, hb26⟩
                go_wp2
                go_ret
                exact ⟨rfl, bthen hb24 hb26 (Nat.le_refl _)⟩
        · obtain rfl : j = 40 := by omega
          have hb0 : b = 0 := by omega
          subst hb0
          rw [armS_nil] at hp5
          clear hjb
          go_wp2_with fail
          refine (off_at hp5 rfl).mono ?_
          rintro e w7 ⟨rfl, rfl⟩
          go_wp2_with fail
          refine (torn_at hp5 rfl).mono ?_
          rintro e w7 ⟨rfl, rfl⟩
          go_wp2_with fail
          refine (start_at hp5 (show (PS.new).start = ⟨false, 0, [], -1, none⟩ from rfl) (by decide) (by decide)).mono ?_
          rintro e w20 ⟨rfl, hp20, hb20⟩
          have hb20 := hb5.trans hb20
          have hz20 := hb20.size
          go_wp2_with fail
          refine (arm_nil (s' := ⟨false, 0, [], -1, some (3, [], 5)⟩) hz20 hp20 rfl (by omega)).mono ?_
          rintro e w21 ⟨rfl, hp21, hb21⟩
          have hb21 := hb20.trans hb21
          have hz21 := hb21.size
          go_wp2_with fail
          refine (cut_nil (s' := ⟨true, 0, [], 7, none⟩) hz21 hp21 rfl).mono ?_
          rintro e w22 ⟨rfl, hp22, hb22⟩
          have hb22 := hb21.trans hb22
          go_wp2_with fail
          refine (start_at (s' := ⟨false, 1, [], 7, none⟩) hp22 rfl (by decide) (by decide)).mono ?_
          rintro e w23 ⟨rfl, hp23, hb23⟩
          have hb23 := hb22.trans hb23
          clear hp20 hb20 hz20 hp21 hb21 hz21 hp22 hb22
          go_wp2_with fail
          go_loopw [11] (fun i wr => ∃ (j : Nat) (wz : World), wz = wr ∧ j ≤ 10 ∧ i = .int .i64 (j : Int) ∧ Pow w.heap.size wz g ⟨false, 1, [], 7, none⟩ ∧ Below w.heap.size w wz) (fun i _ => 10 - (intOf i).toNat)
          case atStart => exact ⟨0, _, rfl, by omega, rfl, hp23, hb23⟩
          case round =>
            obtain ⟨j, wr, rfl, hj, rfl, hp24, hb24⟩ := hrel
            have hz24 := hb24.size
            by_cases hlt : j < 10
            · go_wp2_with fail
              refine (spend_at (r := true) (s' := ⟨false, 1, [], 7, none⟩) hz24 hp24 rfl).mono ?_
              rintro e w25 ⟨rfl, hp25, hb25⟩
              go_wp2_with fail
              go_roundw
              case rel => exact ⟨j + 1, _, rfl, by omega, by go_num, hp25, hb24.trans hb25⟩
              case measure => simp [intOf] <;> omega
            · obtain rfl : j = 10 := by omega
              go_wp2_with fail
              refine (torn_at hp24 rfl).mono ?_
              rintro e w25 ⟨rfl, rfl⟩
              go_wp2_with fail
              refine (wakes08_any _).mono ?_
              rintro e w26 ⟨rfl, hb26⟩
              go_wp2
              go_ret
              exact ⟨rfl, bthen hb24 hb26 (Nat.le_refl _)⟩
end Go.Proofs.Ythhgngknmjocpaa
