/- The law PowerTrips, walked. -/
import Derived.Test.YthhgngknmjocpaaPowerWakes
namespace Go.Proofs.Ythhgngknmjocpaa
open Go.RowKit

/-- Armed for the n-th, j writes later. -/
def tripS (n j : Nat) : PS := if n = 0 then PS.new else if j < n then { PS.new with trip := some ((n : Int) - (j : Int), [], -1) } else { PS.new with off := true }
theorem tripS_zero (n : Nat) : PS.new.arm n [] (-1) = tripS n 0 := by
  unfold PS.arm tripS
  by_cases h : n = 0
  · subst h; rfl
  · rw [if_pos (by omega), if_neg h, if_pos (by omega)]; simp
theorem tripS_spend (n j : Nat) : (tripS n j).spend = (decide (n = 0) || decide (j + 1 < n), tripS n (j + 1)) := by
  unfold tripS
  by_cases h : n = 0
  · subst h; rfl
  · simp only [if_neg h]
    by_cases h1 : j < n
    · rw [if_pos h1]
      show (PS.mk false 0 [] (-1) (some ((n : Int) - (j : Int), [], -1))).spend = _
      rw [spend_some]
      by_cases h2 : j + 1 < n
      · rw [if_pos h2, if_pos (by omega)]
        simp only [h, h2, decide_false, decide_true, Bool.false_or, Prod.mk.injEq, true_and]
        show PS.mk _ _ _ _ _ = PS.mk _ _ _ _ _
        rw [show (n : Int) - (j : Int) - 1 = (n : Int) - ((j + 1 : Nat) : Int) by omega]
        rfl
      · rw [if_neg h2, if_neg (by omega)]
        simp only [h, h2, decide_false, Bool.false_or, Prod.mk.injEq, true_and]
        rfl
    · have h2 : ¬ j + 1 < n := by omega
      rw [if_neg h1, if_neg h2]
      simp only [h, h2, decide_false, Bool.false_or]
      rfl
/-- Behind the start. -/
def tripE (n : Nat) : PS := if n = 0 then PS.new else { PS.new with life := 1 }
theorem tripE_start (n j : Nat) (h : n ≤ j) : (tripS n j).start = tripE n := by
  unfold tripS tripE
  by_cases h0 : n = 0
  · simp [h0, PS.start, PS.new]
  · simp [h0, show ¬ j < n by omega, PS.start, PS.new]
theorem tripE_spend (n : Nat) : (tripE n).spend = (true, tripE n) := by
  unfold tripE; split <;> rfl
theorem tripE_life (n : Nat) : (tripE n).life = if n = 0 then 0 else 1 := by unfold tripE; split <;> rfl
theorem tripE_off (n : Nat) : (tripE n).off = false := by unfold tripE; split <;> rfl
theorem tripS_off (n j : Nat) (h : n ≤ j) : (tripS n j).off = decide (0 < n) := by
  unfold tripS
  by_cases h0 : n = 0
  · simp [h0, PS.new]
  · simp [h0, show ¬ j < n by omega, PS.new, Nat.pos_of_ne_zero h0]
theorem tripS_life (n j : Nat) : (tripS n j).life = 0 := by
  unfold tripS
  by_cases h : n = 0
  · rw [if_pos h]; rfl
  · rw [if_neg h]
    by_cases h1 : j < n
    · rw [if_pos h1]; rfl
    · rw [if_neg h1]; rfl

set_option maxRecDepth 100000 in
set_option maxHeartbeats 4000000 in
theorem powerTrips_walk (w : World) (n0 : Int) (wn : (Lit.int .i64 n0).wf = true) (m0 : Int) (wm : (Lit.int .i64 m0).wf = true) :
    Calls Try.prog 3 #[.int .i64 n0, .int .i64 m0] w fun e w' => e = .returned (.bool true) ∧ Below w.heap.size w w' := by
  obtain ⟨n, hn, en⟩ := umod n0 50 (by omega) (by omega)
  obtain ⟨m, hm, em⟩ := umod m0 50 (by omega) (by omega)
  go_enter Try.func3, Try.ntmps3
  go_wp2_with fail
  rw [en, em]
  clear en em wn wm
  refine (power_new w).mono ?_
  rintro e w1 ⟨g, rfl, hp, hb1⟩
  have hz1 := hb1.size
  go_wp2_with fail
  refine (arm_nil hz1 hp (tripS_zero n) (by omega)).mono ?_
  rintro e w2 ⟨rfl, hp2, hb2⟩
  have hb12 := hb1.trans hb2
  clear hp hb1 hb2 hz1
  go_wp2_with fail
  go_loopw [6] (fun i wr => ∃ (j : Nat) (wz : World), wz = wr ∧ j ≤ n + m ∧ i = .int .i64 ((j : Int) + 1) ∧ Pow w.heap.size wz g (tripS n j) ∧ Below w.heap.size w wz) (fun i _ => n + m + 1 - (intOf i).toNat)
  case atStart => exact ⟨0, _, rfl, by omega, rfl, hp2, hb12⟩
  case round =>
    obtain ⟨j, wr, rfl, hj, rfl, hp3, hb3⟩ := hrel
    have hz3 := hb3.size
    by_cases hlt : j < n + m
    · go_wp2_with fail
      refine (spend_at hz3 hp3 (tripS_spend n j)).mono ?_
      rintro e w4 ⟨rfl, hp4, hb4⟩
      obtain ⟨p, hp0⟩ : ∃ p, decide (n = 0) = p := ⟨_, rfl⟩
      obtain ⟨q, hq0⟩ : ∃ q, decide (j + 1 < n) = q := ⟨_, rfl⟩
      have hp1 : (((n : Nat) : Int) == 0) = p := by rw [← hp0]; by_cases h : n = 0 <;> simp [h]
      have hq1 : decide (((j : Nat) : Int) + 1 < (n : Int)) = q := by rw [← hq0]; by_cases h : j + 1 < n <;> simp [h] <;> omega
      rw [hp0, hq0]
      clear hp0 hq0
      cases p <;> cases q
      all_goals
        go_wp2_with fail
        go_roundw
        case rel => exact ⟨j + 1, _, rfl, by omega, by go_num, hp4, hb3.trans hb4⟩
        case measure => simp [intOf] <;> omega
    · obtain rfl : j = n + m := by omega
      have hl3 := tripS_life n (n + m)
      go_wp2_with fail
      refine (off_at hp3 (tripS_off n (n + m) (by omega))).mono ?_
      rintro e w4 ⟨rfl, rfl⟩
      go_wp2_with fail
      refine (start_at hp3 (tripE_start n (n + m) (by omega)) (by omega) (by omega)).mono ?_
      rintro e w5 ⟨rfl, hp5, hb5⟩
      have hb35 := hb3.trans hb5
      clear hp3 hb3 hb5 hl3 hz3
      go_wp2_with fail
      go_loopw [7] (fun i wr => ∃ (j : Nat) (wz : World), wz = wr ∧ j ≤ m ∧ i = .int .i64 (j : Int) ∧ Pow w.heap.size wz g (tripE n) ∧ Below w.heap.size w wz) (fun i _ => m - (intOf i).toNat)
      case atStart => exact ⟨0, _, rfl, by omega, rfl, hp5, hb35⟩
      case round =>
        obtain ⟨j, wr, rfl, hj, rfl, hp6, hb6⟩ := hrel
        have hz6 := hb6.size
        by_cases hlt : j < m
        · go_wp2_with fail
          refine (spend_at hz6 hp6 (tripE_spend n)).mono ?_
          rintro e w7 ⟨rfl, hp7, hb7⟩
          go_wp2_with fail
          go_roundw
          case rel => exact ⟨j + 1, _, rfl, by omega, by go_num, hp7, hb6.trans hb7⟩
          case measure => simp [intOf] <;> omega
        · obtain rfl : j = m := by omega
          by_cases hn0 : 0 < n
          · have hlf : (tripE n).life = 1 := by rw [tripE_life, if_neg (by omega)]
            go_wp2_with fail
            refine (life_at hp6 hlf).mono ?_
            rintro e w7 ⟨rfl, rfl⟩
            go_wp2_with fail
            refine (off_at hp6 (tripE_off n)).mono ?_
            rintro e w8 ⟨rfl, rfl⟩
            go_wp2_with fail
            refine (wakes08_any _).mono ?_
            rintro e w9 ⟨rfl, hb9⟩
            go_wp2
            go_ret
            exact ⟨rfl, bthen hb6 hb9 (Nat.le_refl _)⟩
          · have hlf : (tripE n).life = 0 := by rw [tripE_life, if_pos (by omega)]
            go_wp2_with fail
            refine (life_at hp6 hlf).mono ?_
            rintro e w7 ⟨rfl, rfl⟩
            go_wp2_with fail
            refine (off_at hp6 (tripE_off n)).mono ?_
            rintro e w8 ⟨rfl, rfl⟩
            go_wp2_with fail
            refine (wakes08_any _).mono ?_
            rintro e w9 ⟨rfl, hb9⟩
            go_wp2
            go_ret
            exact ⟨rfl, bthen hb6 hb9 (Nat.le_refl _)⟩
end Go.Proofs.Ythhgngknmjocpaa
