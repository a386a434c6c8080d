/- The law FrameCuts, walked. -/
import Derived.Test.YtffcpjhokfjhfaaFrameWakes
import Derived.Test.YtffcpjhokfjhfaaFramePlain2
namespace Go.Proofs.Ytffcpjhokfjhfaa
open Go.RowKit

set_option maxRecDepth 100000 in
set_option maxHeartbeats 4000000 in
theorem frameCuts_walk (w : World) (a : Option Addr) (c : Nat) (rs : List RecV) (ha : RMat w a rs) (hl : rs.length ≤ 9223372036854775807) (hlc : rs.length ≤ c) (cut : Int) (hcut : (Lit.int .i64 cut).wf = true) :
    Calls Try.prog 9 #[.slice a rs.length c, .int .i64 cut] w fun e w' => e = .returned (.bool true) ∧ Below w.heap.size w w' := by
  clear hcut
  cases hh : heavy06 rs with
  | true =>
    have HH := Lib.hid (heavy06_at a c rs.length rs true w ha rfl hl hh)
    clear hh
    go_enter Try.func9, Try.ntmps9
    go_wp2_with fail
    refine HH.out.mono ?_
    rintro e w1 ⟨rfl, rfl⟩
    go_wp2
    go_ret
    exact ⟨rfl, Below.refl _ _⟩
  | false =>
    obtain ⟨h80, h400⟩ := heavy06_no hh
    have HH := Lib.hid (heavy06_at a c rs.length rs false w ha rfl hl hh)
    clear hh h400
    obtain ⟨E, hE⟩ : ∃ E, joinE (recs rs) = E := ⟨_, rfl⟩
    obtain ⟨l, hB⟩ : ∃ l, joinR (recs rs) = l := ⟨_, rfl⟩
    have HJ := Lib.hid (join_at a c rs.length rs E l l.length w ha rfl (by omega) hE hB rfl)
    have hcase : (E = 0 ∧ l = joinB (recs rs) ∧ ∀ r ∈ recs rs, r.e = 0) ∨ (E ≠ 0 ∧ l.length = 0) := by
      by_cases h0 : E = 0
      · left
        rw [joinR, if_pos (by rw [hE]; exact h0)] at hB
        exact ⟨h0, hB.symm, joinE_ok.1 (by rw [hE]; exact h0)⟩
      · right
        rw [joinR, if_neg (by rw [hE]; exact h0)] at hB
        exact ⟨h0, by rw [← hB]; rfl⟩
    clear hE hB
    rcases hcase with ⟨rfl, hlB, hall⟩ | ⟨hE0, hl0⟩
    · have hll := joinB_le _ hall
      rw [← hlB] at hll
      have hll2 : l.length ≤ 8013 * 80 := by simp at hll; omega
      obtain ⟨k, hk, ek⟩ := umod cut ((l.length : Int) + 1) (by omega) (by omega)
      have Ek := Lib.hid ek
      have HlB := Lib.hid hlB
      have Hall := Lib.hid hall
      clear ek hlB hall hll
      go_enter Try.func9, Try.ntmps9
      go_wp2_with fail
      refine HH.out.mono ?_
      rintro e w1 ⟨rfl, rfl⟩
      go_wp2_with fail
      refine HJ.out.mono ?_
      rintro e w1 ⟨a1, c1, rfl, ho1, hb1⟩
      have hs1 := ho1.src
      have hl1 := ho1.len.1
      have ha1 := ha.ext hb1
      clear ho1 HH HJ
      go_wp2_with fail
      rw [Ek.out]
      clear Ek
      go_loop [8, 9] (fun v i => ∃ j : Nat, j ≤ rs.length ∧ i = .int .i64 j ∧ v = .int .i64 (((joinB ((recs rs).take j)).length : Nat) : Int) ∧ ∀ m, m < j → (joinB ((recs rs).take m)).length < k) (fun _ i => rs.length - (intOf i).toNat)
      case atStart => exact ⟨0, by omega, rfl, rfl, fun m hm => by omega⟩
      case round =>
        obtain ⟨j, hj, rfl, rfl, hprev⟩ := hrel
        obtain ⟨A, hA⟩ : ∃ A, (joinB ((recs rs).take j)).length = A := ⟨_, rfl⟩
        have hAl : A ≤ l.length := by
          rw [← hA, HlB.out]
          have : joinB (recs rs) = joinB ((recs rs).take j) ++ joinB ((recs rs).drop j) := by rw [← joinB_append, List.take_append_drop]
          rw [this, List.length_append]; omega
        rw [hA]
        have HA := Lib.hid hA
        have Hprev := Lib.hid hprev
        clear hA hprev
        by_cases hgo : j < rs.length ∧ A < k
        · obtain ⟨hj2, hAk⟩ := hgo
          obtain ⟨b, o, rfl, hltb, hat⟩ := ha1.at (i := j) hj2
          obtain ⟨_, _, c2⟩ := hat j hj2
          have Hsucc := Lib.hid (joinB_take_succ (recs rs) j (by simpa using hj2))
          have hdl : (recs rs)[j]'(by simpa using hj2) = rs[j].pl := by simp [recs]
          have hd8 : rs[j].d.l.length ≤ 8000 := by
            have := Hall.out _ (List.getElem_mem (l := recs rs) (n := j) (by simpa using hj2))
            rw [hdl] at this
            exact (recE_ok.1 this).2.2.2.2
          have Hsucc2 := Lib.hid (show (joinB ((recs rs).take (j + 1))).length = A + 13 + rs[j].d.l.length by rw [Hsucc.out, HA.out, hdl]; rfl)
          obtain ⟨x, hx⟩ : ∃ x, rs[j].d.l.length = x := ⟨_, rfl⟩
          rw [hx] at c2 hd8 Hsucc2
          clear hat Hsucc hdl hx
          go_wp2
          go_round
          case rel =>
            refine ⟨j + 1, by omega, by go_num, by rw [Hsucc2.out]; go_num, fun m hm => ?_⟩
            by_cases hmj : m < j
            · exact Hprev.out m hmj
            · obtain rfl : m = j := by omega
              rw [HA.out]; exact hAk
          case measure => simp [intOf]; omega
        · have hcase : (j < rs.length ∧ ¬ A < k) ∨ ¬ j < rs.length := by omega
          have hAk : k ≤ A := by
            rcases hcase with h | h
            · omega
            · have h1 : (recs rs).take j = recs rs := List.take_of_length_le (by simp; omega)
              have := HA.out
              rw [h1, ← HlB.out] at this
              omega
          obtain ⟨rl, E2, hsp⟩ : ∃ rl E2, splitF (l.take k) = (rl, E2) := ⟨_, _, rfl⟩
          have HS := Lib.hid fun w' (hb : Below w1.heap.size w1 w') => split_at a1 k c1 (l.take k) rl E2 w' (by rw [bvs_take]; exact (hs1.ext hb).take k) (by simp; omega) (by omega) (by omega) hsp
          have Hsp := Lib.hid hsp
          have hk1 : k ≤ c1 := by omega
          have hk2 : k ≤ l.length := by omega
          clear hsp hgo
          by_cases heq : A = k
          · have hfin : rl = (recs rs).take j ∧ E2 = 0 := by
              have h1 := splitF_take_at Hall.out j k (by rw [HA.out]; exact heq.symm)
              rw [← HlB.out, Hsp.out] at h1
              simp only [Prod.mk.injEq] at h1
              exact h1
            obtain ⟨hrl, rfl⟩ := hfin
            have Hrl := Lib.hid hrl
            have ht : (((A : Nat) : Int) != ((k : Nat) : Int)) = false := by simp [heq]
            have Heq := Lib.hid heq
            clear hrl heq
            rcases hcase with ⟨hc1, hc2⟩ | hc1
            all_goals
              go_wp2_with fail
              refine (HS.out w1 (Below.refl _ _)).mono ?_
              rintro e w2 ⟨a2, c2, vs, rfl, hvs, hrv, hb2⟩
              have hm2 := hvs.mat
              have ha2 := (ha1.ext hb2).take j
              have hb12 := bthen hb1 hb2 (Nat.le_refl _)
              have hvl : vs.length ≤ 9223372036854775807 := by have := hvs.row.len; simp only [maxLen] at this; omega
              have hjc : j ≤ c := by omega
              clear hvs
              go_wp2_with fail
              refine (records_at a2 c2 vs a c (rs.take j) w2 _ _ true hm2 ha2 rfl (by simp; omega) hvl (by omega) (by
                rw [hrv, Hrl.out]
                simp [recs, List.map_take])).mono ?_
              rintro e w3 ⟨rfl, hb3⟩
              go_wp2_with fail
              refine (wakes06_any _).mono ?_
              rintro e w4 ⟨rfl, hb4⟩
              go_wp2
              go_ret
              exact ⟨rfl, bthen (bthen hb12 hb3 (Nat.le_refl _)) hb4 (Nat.le_refl _)⟩
          · have hj0 : j ≠ 0 := by
              intro h0
              subst h0
              have := HA.out
              simp [joinB] at this
              omega
            have hfin : rl = [] ∧ E2 = 3 := by
              have h1 := splitF_take_in Hall.out (j - 1) k (by simp; omega) (Hprev.out (j - 1) (by omega)) (by rw [show j - 1 + 1 = j by omega, HA.out]; omega)
              rw [← HlB.out, Hsp.out] at h1
              simp only [Prod.mk.injEq] at h1
              exact h1
            obtain ⟨hrl, rfl⟩ := hfin
            have Hrl := Lib.hid hrl
            have ht : (((A : Nat) : Int) != ((k : Nat) : Int)) = true := by simp; omega
            clear hrl heq
            rcases hcase with ⟨hc1, hc2⟩ | hc1
            all_goals
              go_wp2_with fail
              refine (HS.out w1 (Below.refl _ _)).mono ?_
              rintro e w2 ⟨a2, c2, vs, rfl, hvs, hrv, hb2⟩
              have hv0 : vs.length = 0 := by
                have := congrArg List.length hrv
                rw [Hrl.out] at this
                simpa using this
              have ht2 : (((vs.length : Nat) : Int) == 0) = true := by rw [hv0]; rfl
              have hb12 := bthen hb1 hb2 (Nat.le_refl _)
              clear hvs hv0 hrv
              go_wp2_with fail
              refine (wakes06_any _).mono ?_
              rintro e w4 ⟨rfl, hb4⟩
              go_wp2
              go_ret
              exact ⟨rfl, bthen hb12 hb4 (Nat.le_refl _)⟩
    · have hne : ((E : Int) != 0) = true := by simpa using hE0
      have ht2 : (((l.length : Nat) : Int) == 0) = true := by rw [hl0]; rfl
      clear hE0 hl0
      go_enter Try.func9, Try.ntmps9
      go_wp2_with fail
      refine HH.out.mono ?_
      rintro e w1 ⟨rfl, rfl⟩
      go_wp2_with fail
      refine HJ.out.mono ?_
      rintro e w1 ⟨a1, c1, rfl, ho1, hb1⟩
      clear ho1 HH HJ
      go_wp2_with fail
      refine (wakes06_any _).mono ?_
      rintro e w4 ⟨rfl, hb4⟩
      go_wp2
      go_ret
      exact ⟨rfl, bthen hb1 hb4 (Nat.le_refl _)⟩
end Go.Proofs.Ytffcpjhokfjhfaa
