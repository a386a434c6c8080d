/- The walk of AggrMore. -/
import Derived.Test.YtogcejmnhiphgaaAggrSizes
import Derived.Test.YtogcejmnhiphgaaAggrReadQ
import Derived.Test.YtogcejmnhiphgaaAggrRead
namespace Go.Proofs.Ytogcejmnhiphgaa
open Go.RowKit

theorem decide_nil (l : List Byte) : decide (l = []) = decide (l.length = 0) := by
  cases l <;> simp

set_option maxRecDepth 100000 in
set_option maxHeartbeats 16000000 in
theorem aggrMore_walk (w : World) (size : Int) (ws : (Lit.int .i64 size).wf = true) (a : Option Addr) (c : Nat) (rs : List RecV) (ha : RMat w a rs) (hl : rs.length ≤ 9223372036854775807) (hlc : rs.length ≤ c) (ak : Option Addr) (ck : Nat) (ks : List RecV) (hk : RMat w ak ks) (hlk : ks.length ≤ 9223372036854775807) (hlck : ks.length ≤ ck) (am : Option Addr) (cm : Nat) (lm : List Byte) (hm : Src w am (bvs lm)) (hlm : lm.length ≤ 9223372036854775807) (hlcm : lm.length ≤ cm) :
    Calls Try.prog 7 #[.int .i64 size, .slice a rs.length c, .slice ak ks.length ck, .slice am lm.length cm] w fun e w' => e = .returned (.bool true) ∧ Below w.heap.size w w' := by
  obtain ⟨i0, hi, hz0, hz1, hz2⟩ := info_parts info8
  have HA := Lib.hid ha
  have HK := Lib.hid hk
  have HM := Lib.hid hm
  obtain ⟨n, hn⟩ : ∃ n, n = rs.length := ⟨_, rfl⟩
  obtain ⟨nk, hnk⟩ : ∃ n, n = ks.length := ⟨_, rfl⟩
  obtain ⟨nm, hnm⟩ : ∃ n, n = lm.length := ⟨_, rfl⟩
  rw [← hn, ← hnk, ← hnm]
  have HN := Lib.hid hn
  have HNK := Lib.hid hnk
  have HNM := Lib.hid hnm
  have hn2 : n ≤ 9223372036854775807 := by omega
  have hnk2 : nk ≤ 9223372036854775807 := by omega
  have hnm2 : nm ≤ 9223372036854775807 := by omega
  clear ws ha hl hlc hk hlk hlck hm hlm hlcm hn hnk hnm
  go_enter Try.func7, Try.ntmps7
  go_wp2_with fail
  cases hh : heavy06 rs with
  | true =>
    refine (heavy06_at a c n rs true w HA.out HN.out hn2 hh).mono ?_
    rintro e w1 ⟨rfl, rfl⟩
    go_wp2
    go_ret
    exact ⟨rfl, Below.refl _ _⟩
  | false =>
  have hhv := heavy06_no hh
  refine (heavy06_at a c n rs false w HA.out HN.out hn2 hh).mono ?_
  rintro e w1 ⟨rfl, rfl⟩
  clear hh
  have hn80 : n ≤ 80 := by rw [HN.out]; exact hhv.1
  clear hhv
  go_wp2_with fail
  cases hh : heavy06 ks with
  | true =>
    refine (heavy06_at ak ck nk ks true w HK.out HNK.out hnk2 hh).mono ?_
    rintro e w1 ⟨rfl, rfl⟩
    go_wp2
    go_ret
    exact ⟨rfl, Below.refl _ _⟩
  | false =>
  have hhv := heavy06_no hh
  refine (heavy06_at ak ck nk ks false w HK.out HNK.out hnk2 hh).mono ?_
  rintro e w1 ⟨rfl, rfl⟩
  clear hh
  have hk80 : nk ≤ 80 := by rw [HNK.out]; exact hhv.1
  clear hhv
  by_cases hm3 : 300 < nm
  · have hm3' : (300 : Int) < (nm : Int) := by omega
    go_wp2
    go_ret
    exact ⟨rfl, Below.refl _ _⟩
  have hm3' : ¬ (300 : Int) < (nm : Int) := by omega
  obtain ⟨⟨r1, o1, E1⟩, hP1⟩ : ∃ x, x = packP size (recs rs) := ⟨_, rfl⟩
  obtain ⟨⟨r2, o2, E2⟩, hP2⟩ : ∃ x, x = packP size (recs ks) := ⟨_, rfl⟩
  have HP1 := Lib.hid hP1.symm
  have HP2 := Lib.hid hP2.symm
  have HQ1 := Lib.hid (packP_no hP1.symm)
  have HQ2 := Lib.hid (packP_no hP2.symm)
  clear hP1 hP2
  go_wp2_with fail
  refine (pack_at size a c n rs r1 o1 E1 w HA.out HN.out hn2 HP1.out).mono ?_
  rintro e w2 ⟨aX, m1, cX, aO, no1, cO, bs1, rfl, hR1, hb2⟩
  have HR1 := Lib.hid hR1
  have HB2 := Lib.hid hb2
  clear hR1 hb2
  go_wp2_with fail
  refine (pack_at size ak ck nk ks r2 o2 E2 w2 (HK.out.ext HB2.out) HNK.out hnk2 HP2.out).mono ?_
  rintro e w3 ⟨aY, m2, cY, aQ, no2, cQ, bs2, rfl, hR2, hb3⟩
  have HR2 := Lib.hid hR2
  have HB3 := Lib.hid (bthen HB2.out hb3 (Nat.le_refl _))
  have HR1 := Lib.hid (HR1.out.ext hb3)
  clear hR2 hb3 HB2
  by_cases hE1 : E1 = 0
  · subst hE1
    by_cases hE2 : E2 = 0
    · subst hE2
      have HE := Lib.hid HQ1.out.1.symm
      have HE2 := Lib.hid HQ2.out.1.symm
      obtain ⟨hr1, ho1⟩ := HQ1.out.2.2 rfl
      obtain ⟨hr2, ho2⟩ := HQ2.out.2.2 rfl
      subst hr1 ho1 hr2 ho2
      obtain ⟨hm1, hm1', hno1, hmc1, hnc1⟩ := HR1.out.len
      obtain ⟨hm2, hm2', hno2, hmc2, hnc2⟩ := HR2.out.len
      have Hsh1 := Lib.hid (rows_short HE.out HR1.out.rows)
      have Hsh2 := Lib.hid (rows_short HE2.out HR2.out.rows)
      have HOk := Lib.hid (aggrOk_of HE.out)
      obtain ⟨all, hall⟩ : ∃ x, x = joinB (aggrL (recs rs)) := ⟨_, rfl⟩
      obtain ⟨al2, hal2⟩ : ∃ x, x = joinB (aggrL (recs ks)) := ⟨_, rfl⟩
      have Hf1 : Hid (flat bs1 = all) := Lib.hid (by rw [HR1.out.flat, wholeP_flat HE.out, hall])
      have Hf2 : Hid (flat bs2 = al2) := Lib.hid (by rw [HR2.out.flat, wholeP_flat HE2.out, hal2])
      have hlb : all.length ≤ 700000 := by
        have h3 := (wholeP_ok HE.out).2.2.1
        have := aggrL_len _ h3
        rw [recs_length, ← HN.out] at this
        rw [hall]
        omega
      have hlb2 : al2.length ≤ 700000 := by
        have h3 := (wholeP_ok HE2.out).2.2.1
        have := aggrL_len _ h3
        rw [recs_length, ← HNK.out] at this
        rw [hal2]
        omega
      have hne2 : al2 ≠ [] := by
        intro h
        have := aggr_len (recs ks)
        rw [← hal2, h] at this
        simp at this
      have HRd1 : Hid (readA (all ++ al2) = (recs rs, offsP (recs rs), false)) := Lib.hid (by rw [hall, readA_more HOk.out, decide_eq_false hne2])
      have HRd2 : Hid (readA (all ++ lm) = (recs rs, offsP (recs rs), decide (nm = 0))) := Lib.hid (by rw [hall, readA_more HOk.out, decide_nil, HNM.out])
      have hof : (offsP (recs rs)).length = n := by unfold offsP; rw [List.length_map, List.length_range, recs_length, HN.out]
      have hno : no1 = n := hno1.trans hof
      subst hno
      have Hof := Lib.hid hof
      obtain ⟨La, hLa⟩ : ∃ n, n = all.length := ⟨_, rfl⟩
      obtain ⟨Lb, hLb⟩ : ∃ n, n = al2.length := ⟨_, rfl⟩
      rw [← hLa] at hlb
      rw [← hLb] at hlb2
      have HLa := Lib.hid hLa
      have HLb := Lib.hid hLb
      have Hm1 := Lib.hid hm1
      have Hm2 := Lib.hid hm2
      clear hm1 hm1' hno1 hmc1 hnc1 hm2 hm2' hno2 hmc2 hnc2 hall hal2 hne2 hof hLa hLb HQ1 HQ2 HE HE2
      go_wp2_with fail
      refine (flatg_at aX cX m1 bs1 w3 HR1.out.mat Hm1.out Hsh1.out.1 Hsh1.out.2 Hf1.out HLa.out).mono ?_
      rintro e w4 ⟨aF, cF, rfl, hoF, hb4⟩
      have HB4 := Lib.hid (bthen HB3.out hb4 (Nat.le_refl _))
      have HO4 := Lib.hid (HR1.out.offs.src.ext hb4)
      have HR2 := Lib.hid (HR2.out.ext hb4)
      have HF4 := Lib.hid hoF.src
      clear hb4 HB3 hoF HR1
      go_wp2_with fail
      refine (twin_at aF cF La all w4 HF4.out HLa.out (by omega)).mono ?_
      rintro e w5 ⟨aT, cT, rfl, hoT, hb5⟩
      have B5 := Lib.hid hb5
      have HR2 := Lib.hid (HR2.out.ext hb5)
      have HT := Lib.hid hoT
      clear hb5 hoT
      go_wp2_with fail
      refine (flatg_at aY cY m2 bs2 w5 HR2.out.mat Hm2.out Hsh2.out.1 Hsh2.out.2 Hf2.out HLb.out).mono ?_
      rintro e w6 ⟨aG, cG, rfl, hoG, hb6⟩
      have B6 := Lib.hid (B5.out.trans (hb6.mono B5.out.size))
      have HT := Lib.hid (HT.out.ext hb6)
      have HG := Lib.hid hoG.src
      have hsz6 := B6.out.size
      clear hb6 B5 hoG HR2
      go_wp2_with (refine wpList_app rfl (.tmp 73) (.tmp 75) 34 rfl w4.heap.size 5 i0 (.int .u8 0) 1 1 Try.underlying34 hi hz0 hz1 hz2 rfl (by decide) aT La cT (bvs all) rfl HT.out aG Lb cG (bvs al2) rfl (by rw [bvs_length, HLb.out]; omega) HG.out (bvs_one al2) (by unfold maxLen; omega) (by omega) hsz6 ?_; intro a7 c7 w7 ho7 hb7)
      have HO7 : Hid (Own w7 w4.heap.size 5 1 a7 (La + Lb) c7 (bvs (all ++ al2))) := Lib.hid (by rw [bvs_append]; exact ho7)
      have B7 := Lib.hid (B6.out.trans hb7)
      clear ho7 hb7 hsz6 HT HG B6
      refine (aread_at a7 (La + Lb) c7 (all ++ al2) (recs rs) (offsP (recs rs)) false w7 HO7.out.src (by rw [List.length_append, ← HLa.out, ← HLb.out]) HO7.out.len.1 (by omega) HRd1.out).mono ?_
      rintro e w8 ⟨aR, n8, cR, vs, aP, cP, rfl, hv1, hv2, hv3, hv4, hv5, hb8⟩
      have hn8 : no1 = n8 := (hv2.trans Hof.out).symm
      subst hn8
      have Hv1 := Lib.hid hv1
      have Hv3 := Lib.hid hv3.mat
      have Hv4 := Lib.hid hv4
      have Hv5 := Lib.hid hv5.src
      have B8 := Lib.hid (B7.out.trans (hb8.mono B7.out.size))
      clear hv1 hv2 hv3 hv4 hv5 hb8 HO7 B7 HRd1
      go_wp2_with fail
      refine (records_at aR cR vs a c rs w8 no1 no1 true Hv3.out (HA.out.ext (bthen HB4.out B8.out (Nat.le_refl _))) Hv1.out HN.out (by omega) (by omega) (by rw [Hv4.out]; simp)).mono ?_
      rintro e w9 ⟨rfl, hb9⟩
      have B9 := Lib.hid (B8.out.trans (hb9.mono B8.out.size))
      have Hv5 := Lib.hid (Hv5.out.ext hb9)
      clear hb9 B8 Hv3 Hv4 Hv1
      go_wp2_with fail
      refine (keepints_at aP cP _ aO cO _ w9 no1 no1 true Hv5.out (HO4.out.low B9.out (Nat.le_refl _)) Hof.out.symm Hof.out.symm (by omega) (by omega) (by simp)).mono ?_
      rintro e wA ⟨rfl, hbA⟩
      have BA := Lib.hid (B9.out.trans (hbA.mono B9.out.size))
      clear hbA B9 Hv5
      go_wp2_with fail
      have BA' := BA.out
      refine (twin_at aF cF La all wA (HF4.out.low BA.out (Nat.le_refl _)) HLa.out (by omega)).mono ?_
      rintro e w5 ⟨aT, cT, rfl, hoT, hb5⟩
      have B6 := Lib.hid (BA.out.trans (hb5.mono BA.out.size))
      have HT := Lib.hid (hoT.mono (base' := w4.heap.size) BA.out.size)
      have HMm := Lib.hid (HM.out.ext (bthen HB4.out B6.out (Nat.le_refl _)))
      have hsz6 := B6.out.size
      clear hb5 hoT BA BA'
      go_wp2_with (refine wpList_app rfl (.tmp 96) (.tmp 97) 34 rfl w4.heap.size 5 i0 (.int .u8 0) 1 1 Try.underlying34 hi hz0 hz1 hz2 rfl (by decide) aT La cT (bvs all) rfl HT.out am nm cm (bvs lm) rfl (by rw [bvs_length, HNM.out]; omega) HMm.out (bvs_one lm) (by unfold maxLen; omega) (by omega) hsz6 ?_; intro a7 c7 w7 ho7 hb7)
      have HO7 : Hid (Own w7 w4.heap.size 5 1 a7 (La + nm) c7 (bvs (all ++ lm))) := Lib.hid (by rw [bvs_append]; exact ho7)
      have B7 := Lib.hid (B6.out.trans hb7)
      clear ho7 hb7 hsz6 HT HMm B6
      by_cases hm0 : nm = 0
      · have hm0' : ((nm : Int) == 0) = true := by simp [hm0]
        have HRd3 : Hid (readA (all ++ lm) = (recs rs, offsP (recs rs), true)) := Lib.hid (by rw [HRd2.out, decide_eq_true hm0])
        clear HRd2 hm0
        refine (aread_at a7 (La + nm) c7 (all ++ lm) (recs rs) (offsP (recs rs)) true w7 HO7.out.src (by rw [List.length_append, ← HLa.out, ← HNM.out]) HO7.out.len.1 (by omega) HRd3.out).mono ?_
        rintro e w8 ⟨aR, n8, cR, vs, aP, cP, rfl, hv1, hv2, hv3, hv4, hv5, hb8⟩
        have hn8 : no1 = n8 := (hv2.trans Hof.out).symm
        subst hn8
        have Hv1 := Lib.hid hv1
        have Hv3 := Lib.hid hv3.mat
        have Hv4 := Lib.hid hv4
        have Hv5 := Lib.hid hv5.src
        have B8 := Lib.hid (B7.out.trans (hb8.mono B7.out.size))
        clear hv1 hv2 hv3 hv4 hv5 hb8 HO7 B7 HRd3
        go_wp2_with fail
        refine (records_at aR cR vs a c rs w8 no1 no1 true Hv3.out (HA.out.ext (bthen HB4.out B8.out (Nat.le_refl _))) Hv1.out HN.out (by omega) (by omega) (by rw [Hv4.out]; simp)).mono ?_
        rintro e w9 ⟨rfl, hb9⟩
        have B9 := Lib.hid (B8.out.trans (hb9.mono B8.out.size))
        have Hv5 := Lib.hid (Hv5.out.ext hb9)
        clear hb9 B8 Hv3 Hv4 Hv1
        go_wp2_with fail
        refine (keepints_at aP cP _ aO cO _ w9 no1 no1 true Hv5.out (HO4.out.low B9.out (Nat.le_refl _)) Hof.out.symm Hof.out.symm (by omega) (by omega) (by simp)).mono ?_
        rintro e wA ⟨rfl, hbA⟩
        have BA := Lib.hid (B9.out.trans (hbA.mono B9.out.size))
        clear hbA B9 Hv5
        go_wp2_with fail
        refine (wakes15_any wA).mono ?_
        rintro e wB ⟨rfl, hbB⟩
        have HBB := Lib.hid (bthen HB4.out (BA.out.trans (hbB.mono BA.out.size)) (Nat.le_refl _))
        clear hbB
        go_wp2
        go_ret
        exact ⟨rfl, HBB.out⟩
      · have hm0' : ((nm : Int) == 0) = false := by simp [hm0]
        have HRd3 : Hid (readA (all ++ lm) = (recs rs, offsP (recs rs), false)) := Lib.hid (by rw [HRd2.out, decide_eq_false hm0])
        clear HRd2 hm0
        refine (aread_at a7 (La + nm) c7 (all ++ lm) (recs rs) (offsP (recs rs)) false w7 HO7.out.src (by rw [List.length_append, ← HLa.out, ← HNM.out]) HO7.out.len.1 (by omega) HRd3.out).mono ?_
        rintro e w8 ⟨aR, n8, cR, vs, aP, cP, rfl, hv1, hv2, hv3, hv4, hv5, hb8⟩
        have hn8 : no1 = n8 := (hv2.trans Hof.out).symm
        subst hn8
        have Hv1 := Lib.hid hv1
        have Hv3 := Lib.hid hv3.mat
        have Hv4 := Lib.hid hv4
        have Hv5 := Lib.hid hv5.src
        have B8 := Lib.hid (B7.out.trans (hb8.mono B7.out.size))
        clear hv1 hv2 hv3 hv4 hv5 hb8 HO7 B7 HRd3
        go_wp2_with fail
        refine (records_at aR cR vs a c rs w8 no1 no1 true Hv3.out (HA.out.ext (bthen HB4.out B8.out (Nat.le_refl _))) Hv1.out HN.out (by omega) (by omega) (by rw [Hv4.out]; simp)).mono ?_
        rintro e w9 ⟨rfl, hb9⟩
        have B9 := Lib.hid (B8.out.trans (hb9.mono B8.out.size))
        have Hv5 := Lib.hid (Hv5.out.ext hb9)
        clear hb9 B8 Hv3 Hv4 Hv1
        go_wp2_with fail
        refine (keepints_at aP cP _ aO cO _ w9 no1 no1 true Hv5.out (HO4.out.low B9.out (Nat.le_refl _)) Hof.out.symm Hof.out.symm (by omega) (by omega) (by simp)).mono ?_
        rintro e wA ⟨rfl, hbA⟩
        have BA := Lib.hid (B9.out.trans (hbA.mono B9.out.size))
        clear hbA B9 Hv5
        go_wp2_with fail
        refine (wakes15_any wA).mono ?_
        rintro e wB ⟨rfl, hbB⟩
        have HBB := Lib.hid (bthen HB4.out (BA.out.trans (hbB.mono BA.out.size)) (Nat.le_refl _))
        clear hbB
        go_wp2
        go_ret
        exact ⟨rfl, HBB.out⟩
    · have hE2' : (E2 == 0) = false := by simpa using hE2
      obtain ⟨rfl, rfl⟩ := HQ2.out.2.1 hE2
      obtain ⟨hx1, hm2, hno2, hx2, hx3⟩ := HR2.out.len
      clear hx1 hx2 hx3
      obtain rfl : m2 = 0 := hm2
      clear hno2 hE2 HQ1 HQ2 HR1 HR2
      go_wp2_with fail
      refine (wakes15_any w3).mono ?_
      rintro e wB ⟨rfl, hbB⟩
      have HBB := Lib.hid (bthen HB3.out hbB (Nat.le_refl _))
      clear hbB
      go_wp2
      go_ret
      exact ⟨rfl, HBB.out⟩
  · have hE1' : (E1 == 0) = false := by simpa using hE1
    have hE1n : (E1 != 0) = true := by simpa using hE1
    obtain ⟨rfl, rfl⟩ := HQ1.out.2.1 hE1
    obtain ⟨hx1, hm1, hno1, hx2, hx3⟩ := HR1.out.len
    clear hx1 hx2 hx3
    obtain rfl : m1 = 0 := hm1
    by_cases hE2 : E2 = 0
    · subst hE2
      clear hno1 hE1 HQ1 HQ2 HR1 HR2
      go_wp2_with fail
      refine (wakes15_any w3).mono ?_
      rintro e wB ⟨rfl, hbB⟩
      have HBB := Lib.hid (bthen HB3.out hbB (Nat.le_refl _))
      clear hbB
      go_wp2
      go_ret
      exact ⟨rfl, HBB.out⟩
    · have hE2' : (E2 == 0) = false := by simpa using hE2
      obtain ⟨rfl, rfl⟩ := HQ2.out.2.1 hE2
      obtain ⟨hx1, hm2, hno2, hx2, hx3⟩ := HR2.out.len
      clear hx1 hx2 hx3
      obtain rfl : m2 = 0 := hm2
      clear hno1 hno2 hE1 hE2 HQ1 HQ2 HR1 HR2
      go_wp2_with fail
      refine (wakes15_any w3).mono ?_
      rintro e wB ⟨rfl, hbB⟩
      have HBB := Lib.hid (bthen HB3.out hbB (Nat.le_refl _))
      clear hbB
      go_wp2
      go_ret
      exact ⟨rfl, HBB.out⟩
end Go.Proofs.Ytogcejmnhiphgaa
