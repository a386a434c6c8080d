/- The walk of AggrBounds. -/
import Derived.Test.YtogcejmnhiphgaaAggrWakes
namespace Go.Proofs.Ytogcejmnhiphgaa
open Go.RowKit

def recsB (kind : Int) (n : Nat) : List RecV := (List.range n).map fun i : Nat => ⟨kind, (i : Int), ⟨none, 0, []⟩⟩
theorem recsB_len (kind : Int) (n : Nat) : (recsB kind n).length = n := by simp [recsB]
theorem recsB_succ (kind : Int) (n : Nat) : recsB kind (n + 1) = recsB kind n ++ [⟨kind, (n : Int), ⟨none, 0, []⟩⟩] := by simp [recsB, List.range_succ]
theorem recsB_mem {kind : Int} {n : Nat} {r : Rec} (h : r ∈ recs (recsB kind n)) : ∃ i : Nat, i < n ∧ r = ⟨kind, (i : Int), []⟩ := by
  unfold recs recsB at h
  obtain ⟨x, hx, rfl⟩ := List.mem_map.1 h
  obtain ⟨i, hi, rfl⟩ := List.mem_map.1 hx
  exact ⟨i, List.mem_range.1 hi, rfl⟩
theorem joinB_bare (l : List Rec) (h : ∀ r ∈ l, r.d = []) : (joinB l).length = 13 * l.length := by
  induction l with
  | nil => rfl
  | cons r l ih =>
    rw [joinB_cons, List.length_append, frameOf_length, ih (fun r hr => h r (List.mem_cons_of_mem _ hr)), h r (List.mem_cons_self ..), List.length_cons]
    simp
    omega
def wantB (size : Int) (n : Nat) (kind : Int) : Int := if size < 32 ∨ 256 < size then 1 else if n < 1 ∨ 64 < n then 2 else if 4 ≤ kind then 1 else 0
theorem bounds_whole (size : Int) (n : Nat) (kind : Int) (hk : 1 ≤ kind ∧ kind ≤ 5) (hn : n ≤ 67) : (wholeP size (recs (recsB kind n))).2 = wantB size n kind ∧ (wantB size n kind = 0 → (wholeP size (recs (recsB kind n))).1.length = 13 * (n + 2)) := by
  have hj : joinE (aggrL (recs (recsB kind n))) = 0 := by
    rw [joinE_ok]
    intro r hr
    unfold aggrL at hr
    rw [recs_length, recsB_len] at hr
    simp only [List.mem_cons, List.mem_append, List.not_mem_nil, or_false] at hr
    rcases hr with rfl | hr | rfl
    · exact recE_ok.2 (by simp; omega)
    · obtain ⟨i, hi, rfl⟩ := recsB_mem hr
      exact recE_ok.2 (by simp; omega)
    · exact recE_ok.2 (by simp; omega)
  unfold wholeP wantB
  rw [recs_length, recsB_len]
  split
  · exact ⟨rfl, fun h => absurd h (by decide)⟩
  split
  · exact ⟨rfl, fun h => absurd h (by decide)⟩
  rename_i h1 h2
  rw [if_neg (by rw [hj]; decide)]
  have hb : bareP (recs (recsB kind n)) = decide (4 ≤ kind) := by
    unfold bareP
    by_cases h4 : 4 ≤ kind
    · rw [decide_eq_true h4, List.any_eq_true]
      refine ⟨⟨kind, ((0 : Nat) : Int), []⟩, ?_, by unfold bareK; rw [decide_eq_true_eq]; show kind = 4 ∨ kind = 5; omega⟩
      unfold recs recsB
      exact List.mem_map.2 ⟨_, List.mem_map.2 ⟨0, List.mem_range.2 (by omega), rfl⟩, rfl⟩
    · rw [decide_eq_false h4, List.any_eq_false]
      intro r hr
      obtain ⟨i, _, rfl⟩ := recsB_mem hr
      simp [bareK]
      omega
  rw [hb]
  by_cases h4 : 4 ≤ kind
  · rw [if_pos (by simpa using h4), if_pos h4]
    exact ⟨rfl, fun h => absurd h (by decide)⟩
  · rw [if_neg (by simpa using h4), if_neg h4]
    refine ⟨rfl, fun _ => ?_⟩
    rw [joinB_bare _ (by
      intro r hr
      unfold aggrL at hr
      simp only [List.mem_cons, List.mem_append, List.not_mem_nil, or_false] at hr
      rcases hr with rfl | hr | rfl
      · rfl
      · obtain ⟨i, _, rfl⟩ := recsB_mem hr; rfl
      · rfl)]
    unfold aggrL
    simp [recsB_len]

set_option maxRecDepth 100000 in
set_option maxHeartbeats 8000000 in
theorem aggrBounds_walk (w : World) (size : Int) (ws : (Lit.int .i64 size).wf = true) (nI : Int) (wn : (Lit.int .i64 nI).wf = true) (kI : Int) (wk : (Lit.int .i64 kI).wf = true) :
    Calls Try.prog 4 #[.int .i64 size, .int .i64 nI, .int .i64 kI] w fun e w' => e = .returned (.bool true) ∧ Below w.heap.size w w' := by
  obtain ⟨i0, hi, hz0, hz1, hz2⟩ := info_parts infoRecA
  obtain ⟨p, hp, ep⟩ := umod kI 5 (by decide) (by decide)
  clear ws wn wk
  go_enter Try.func4, Try.ntmps4
  by_cases h1 : nI < 0
  · go_wp2
    go_ret
    exact ⟨rfl, Below.refl _ _⟩
  by_cases h2 : 67 < nI
  · go_wp2
    go_ret
    exact ⟨rfl, Below.refl _ _⟩
  obtain ⟨n, rfl⟩ := Int.eq_ofNat_of_zero_le (show 0 ≤ nI by omega)
  go_wp2_with fail
  obtain ⟨kd, hkd⟩ : ∃ kd : Int, kd = 1 + (p : Int) := ⟨_, rfl⟩
  rw [← hkd]
  have hkr : 1 ≤ kd ∧ kd ≤ 5 := by omega
  clear ep hkd hp
  go_loopw [7, 8] (fun v i wx => ∃ (k : Nat) (aL : Option Addr) (cL : Nat) (wr : World), wr = wx ∧ k ≤ n ∧ v = .slice aL k cL ∧ i = .int .i64 (k : Int) ∧ Own wr w.heap.size 39 3 aL k cL (rvs (recsB kd k)) ∧ Below w.heap.size w wr) (fun _ i _ => n - (intOf i).toNat)
  case atStart => exact ⟨0, none, 0, _, rfl, by omega, rfl, rfl, Own.nil _ _ _ _ _, Below.refl _ _⟩
  case round =>
    obtain ⟨k, aL, cL, wr, hwr, hk, rfl, rfl, hO, hbr⟩ := hrel
    subst hwr
    have HO := Lib.hid hO
    have HB := Lib.hid hbr
    clear hO hbr
    by_cases hkn : k < n
    · have hba := ext_alloc wr (.cells #[.int .i64 kd, .int .i64 (k : Int), .slice none 0 0] 39)
      have hsrc : Src (wr.alloc (.cells #[.int .i64 kd, .int .i64 (k : Int), .slice none 0 0] 39)) (some ⟨wr.heap.size, 0, none⟩) (rvs [⟨kd, (k : Int), ⟨none, 0, []⟩⟩]) := Or.inr ⟨wr.heap.size, 0, _, _, _, rfl, heap_alloc_new wr _, rfl⟩
      have hB3 := Nat.le_trans HB.out.size hba.size
      have HS := Lib.hid hsrc
      have HBa := Lib.hid hba
      have HOa := Lib.hid (HO.out.ext hba)
      clear hsrc hba
      go_wp2_with (refine wpList_app rfl (.tmp 31) (.tmp 35) 22 rfl w.heap.size 39 i0 (.agg #[.int .i64 0, .int .i64 0, .slice none 0 0]) 3 40 Try.underlying22 hi hz0 hz1 hz2 rfl (by decide) aL k cL (rvs (recsB kd k)) rfl HOa.out (some ⟨wr.heap.size, 0, none⟩) 1 1 (rvs [⟨kd, (k : Int), ⟨none, 0, []⟩⟩]) rfl rfl HS.out (rvs_one _) (by unfold maxLen; omega) (by omega) hB3 ?_; intro a4 c4 w4 ho4 hb4)
      have HO4 : Hid (Own w4 w.heap.size 39 3 a4 (k + 1) c4 (rvs (recsB kd (k + 1)))) := Lib.hid (by rw [recsB_succ, rvs_append]; exact ho4)
      have HB4 := Lib.hid ((bthen HB.out HBa.out (Nat.le_refl _)).trans hb4)
      clear ho4 hb4 hB3 HO HB HBa HOa HS
      go_roundw
      case rel => exact ⟨k + 1, a4, c4, _, rfl, by omega, rfl, by go_num, HO4.out, HB4.out⟩
      case measure => simp [intOf]; omega
    · obtain rfl : n = k := by omega
      have HM : Hid (RMat wr aL (recsB kd n)) := Lib.hid ⟨HO.out.src, fun r hr => by
        unfold recsB at hr
        obtain ⟨i, _, rfl⟩ := List.mem_map.1 hr
        exact ⟨Src.nil _ _, by simp⟩⟩
      have HN : Hid (n = (recsB kd n).length) := Lib.hid (recsB_len kd n).symm
      have hbw := bounds_whole size n kd hkr (by omega)
      obtain ⟨⟨r1, o1, E1⟩, hP1⟩ : ∃ x, x = packP size (recs (recsB kd n)) := ⟨_, rfl⟩
      have HP1 := Lib.hid hP1.symm
      have hq1 := packP_no hP1.symm
      have hEw : E1 = wantB size n kd := by rw [hq1.1, hbw.1]
      have HQ1 := Lib.hid hq1
      have HBW := Lib.hid hbw
      have HEw := Lib.hid hEw
      clear hP1 hq1 hbw hEw HO
      go_wp2_with fail
      refine (pack_at size aL cL n (recsB kd n) r1 o1 E1 wr HM.out HN.out (by omega) HP1.out).mono ?_
      rintro e w2 ⟨aX, m1, cX, aO, no1, cO, bs1, rfl, hR1, hb2⟩
      obtain ⟨hx1, hm1, hno1, hx2, hx3⟩ := hR1.len
      have HB2 := Lib.hid (bthen HB.out hb2 (Nat.le_refl _))
      have HM2 := Lib.hid (HM.out.ext hb2)
      have Hm1 := Lib.hid hm1
      have Hno1 := Lib.hid hno1
      clear hR1 hb2 HM HB hx1 hx2 hx3 hm1 hno1
      by_cases hE : E1 = 0
      · have hw0 := HEw.out
        rw [hE] at hw0
        have hlen := HBW.out.2 hw0.symm
        have hw00 := HBW.out.1
        rw [← hw0] at hw00
        have hc := hw0
        unfold wantB at hc
        have hsz : ¬ (size < 32 ∨ 256 < size) := by intro h; rw [if_pos h] at hc; exact absurd hc (by decide)
        rw [if_neg hsz] at hc
        have hnn : ¬ (n < 1 ∨ 64 < n) := by intro h; rw [if_pos h] at hc; exact absurd hc (by decide)
        rw [if_neg hnn] at hc
        have hk4 : ¬ 4 ≤ kd := by intro h; rw [if_pos h] at hc; exact absurd hc (by decide)
        obtain ⟨hr1, ho1⟩ := HQ1.out.2.2 hE
        subst hE
        have hon : no1 = n := by
          rw [Hno1.out, ho1]
          unfold offsP
          rw [List.length_map, List.length_range, recs_length, recsB_len]
        subst hon
        have hnd : needP size (recs (recsB kd no1)) = ((13 * ((no1 : Int) + 2) + size - 1).tdiv size, 0) := by
          unfold needP
          rw [if_neg (by rw [hw00]; decide), hlen]
          congr 2
        have HND := Lib.hid hnd
        have hs1 : ¬ size < 32 := by omega
        have hs2 : ¬ 256 < size := by omega
        have hn1 : ¬ (no1 : Int) < 1 := by omega
        have hn2 : ¬ (64 : Int) < (no1 : Int) := by omega
        have hk4' : kd < 4 := by omega
        have hz : (size == 0) = false := by simp; omega
        have hd : (13 * ((no1 : Int) + 2) + size - 1).tdiv size = (13 * ((no1 : Int) + 2) + size - 1) / size := Int.tdiv_eq_ediv_of_nonneg (by omega)
        have hq0 : 0 ≤ (13 * ((no1 : Int) + 2) + size - 1) / size := Int.ediv_nonneg (by omega) (by omega)
        have hq1 : (13 * ((no1 : Int) + 2) + size - 1) / size ≤ 13 * ((no1 : Int) + 2) + size - 1 := Int.ediv_le_self _ (by omega)
        obtain ⟨Q, hQ⟩ : ∃ Q, Q = (13 * ((no1 : Int) + 2) + size - 1).tdiv size := ⟨_, rfl⟩
        have hwQ : IntKind.i64.wrap ((13 * ((no1 : Int) + 2) + size - 1).tdiv size) = Q := by rw [IntKind.wrap_i64, hQ, hd]; omega
        rw [← hQ] at HND
        clear hd hq0 hq1 hQ hnd hc hw0 hw00 hlen hsz hnn hk4 hr1 ho1 HQ1 HBW HEw Hno1 Hm1
        go_wp2_with fail
        refine (need_at size aL cL no1 (recsB kd no1) Q 0 w2 HM2.out HN.out (by omega) HND.out).mono ?_
        rintro e w3 ⟨rfl, hb3⟩
        have HB3 := Lib.hid (bthen HB2.out hb3 (Nat.le_refl _))
        clear hb3 HB2 HM2
        go_wp2_with fail
        refine (wakes15_any w3).mono ?_
        rintro e wA ⟨rfl, hbA⟩
        have HBA := Lib.hid (bthen HB3.out hbA (Nat.le_refl _))
        clear hbA
        go_wp2
        go_ret
        exact ⟨rfl, HBA.out⟩
      · obtain ⟨rfl, rfl⟩ := HQ1.out.2.1 hE
        obtain rfl : m1 = 0 := Hm1.out
        obtain rfl : no1 = 0 := Hno1.out
        have hND : needP size (recs (recsB kd n)) = (0, E1) := by rw [needP_no (by rw [HBW.out.1, ← HEw.out]; exact hE), HBW.out.1, ← HEw.out]
        have HND := Lib.hid hND
        clear hND HQ1 HBW HP1
        go_wp2_with fail
        refine (need_at size aL cL n (recsB kd n) 0 E1 w2 HM2.out HN.out (by omega) HND.out).mono ?_
        rintro e w3 ⟨rfl, hb3⟩
        have HB3 := Lib.hid (bthen HB2.out hb3 (Nat.le_refl _))
        clear hb3 HB2 HM2 HND
        have hEw := HEw.out
        clear HEw
        unfold wantB at hEw
        by_cases c1 : size < 32 ∨ 256 < size
        · rw [if_pos c1] at hEw
          subst hEw
          clear hE
          rcases (show size < 32 ∨ (¬ size < 32 ∧ 256 < size) by omega) with c2 | ⟨c2, c3⟩
          · clear c1
            go_wp2_with fail
            refine (wakes15_any w3).mono ?_
            rintro e wA ⟨rfl, hbA⟩
            have HBA := Lib.hid (bthen HB3.out hbA (Nat.le_refl _))
            clear hbA
            go_wp2
            go_ret
            exact ⟨rfl, HBA.out⟩
          · clear c1
            go_wp2_with fail
            refine (wakes15_any w3).mono ?_
            rintro e wA ⟨rfl, hbA⟩
            have HBA := Lib.hid (bthen HB3.out hbA (Nat.le_refl _))
            clear hbA
            go_wp2
            go_ret
            exact ⟨rfl, HBA.out⟩
        have d1 : ¬ size < 32 := by omega
        have d2 : ¬ 256 < size := by omega
        rw [if_neg c1] at hEw
        clear c1
        by_cases c1 : n < 1 ∨ 64 < n
        · rw [if_pos c1] at hEw
          subst hEw
          clear hE
          rcases (show n < 1 ∨ (¬ n < 1 ∧ 64 < n) by omega) with c2 | ⟨c2, c3⟩
          · have c2' : (n : Int) < 1 := by omega
            clear c1
            go_wp2_with fail
            refine (wakes15_any w3).mono ?_
            rintro e wA ⟨rfl, hbA⟩
            have HBA := Lib.hid (bthen HB3.out hbA (Nat.le_refl _))
            clear hbA
            go_wp2
            go_ret
            exact ⟨rfl, HBA.out⟩
          · have c2' : ¬ (n : Int) < 1 := by omega
            have c3' : (64 : Int) < (n : Int) := by omega
            clear c1
            go_wp2_with fail
            refine (wakes15_any w3).mono ?_
            rintro e wA ⟨rfl, hbA⟩
            have HBA := Lib.hid (bthen HB3.out hbA (Nat.le_refl _))
            clear hbA
            go_wp2
            go_ret
            exact ⟨rfl, HBA.out⟩
        have d3 : ¬ (n : Int) < 1 := by omega
        have d4 : ¬ (64 : Int) < (n : Int) := by omega
        rw [if_neg c1] at hEw
        clear c1
        by_cases c1 : 4 ≤ kd
        · rw [if_pos c1] at hEw
          subst hEw
          clear hE
          go_wp2_with fail
          refine (wakes15_any w3).mono ?_
          rintro e wA ⟨rfl, hbA⟩
          have HBA := Lib.hid (bthen HB3.out hbA (Nat.le_refl _))
          clear hbA
          go_wp2
          go_ret
          exact ⟨rfl, HBA.out⟩
        · rw [if_neg c1] at hEw
          exact absurd hEw hE
end Go.Proofs.Ytogcejmnhiphgaa
