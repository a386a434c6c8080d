/- The walk of AggrSizes. -/
import Derived.Test.YtogcejmnhiphgaaAggrWakes
import Derived.Test.YtogcejmnhiphgaaIntsK
import Derived.Test.YtogcejmnhiphgaaFlatK
import Derived.Test.YtogcejmnhiphgaaRecK
namespace Go.Proofs.Ytogcejmnhiphgaa
open Go.RowKit

theorem wholeP_size {s t : Int} (l : List Rec) (hs : 32 ≤ s ∧ s ≤ 256) (ht : 32 ≤ t ∧ t ≤ 256) : wholeP s l = wholeP t l := by
  unfold wholeP
  rw [if_neg (by omega), if_neg (show ¬ (t < 32 ∨ 256 < t) by omega)]
theorem ceil_mono {L a b : Nat} (ha : 1 ≤ a) (hab : a ≤ b) : (L + b - 1) / b ≤ (L + a - 1) / a := by
  have h1 := Nat.div_add_mod (L + a - 1) a
  have h2 := Nat.mod_lt (L + a - 1) (show 0 < a by omega)
  obtain ⟨q, hq⟩ : ∃ q, q = (L + a - 1) / a := ⟨_, rfl⟩
  rw [← hq] at h1 ⊢
  have h3 : L ≤ a * q := by omega
  have h4 : a * q ≤ b * q := Nat.mul_le_mul_right q hab
  refine Nat.lt_succ_iff.1 ((Nat.div_lt_iff_lt_mul (by omega)).2 ?_)
  rw [Nat.succ_mul, Nat.mul_comm]
  omega
theorem rows_short {size : Int} {l : List Rec} (h : (wholeP size l).2 = 0) {bs : List Bsl} (hb : bs.map Bsl.l = rowsC (wholeP size l).1 size.toNat) : bs.length ≤ 1000000 ∧ ∀ p ∈ bs, p.l.length ≤ 300 := by
  obtain ⟨h1, h2, h3, _, h5⟩ := wholeP_ok h
  have hl := aggrL_len l h3
  rw [← h5] at hl
  constructor
  · have h6 : bs.length = (rowsC (wholeP size l).1 size.toNat).length := by rw [← hb, List.length_map]
    rw [h6, rowsC_len]
    have := Nat.div_le_self ((wholeP size l).1.length + size.toNat - 1) size.toNat
    omega
  · intro p hp
    have : p.l ∈ rowsC (wholeP size l).1 size.toNat := by rw [← hb]; exact List.mem_map.2 ⟨p, hp, rfl⟩
    unfold rowsC at this
    obtain ⟨k, _, hk⟩ := List.mem_map.1 this
    rw [← hk]
    have := rowC_le (wholeP size l).1 size.toNat k
    omega

set_option maxRecDepth 100000 in
set_option maxHeartbeats 8000000 in
theorem aggrSizes_walk (w : World) (aI : Int) (wa : (Lit.int .i64 aI).wf = true) (bI : Int) (wb : (Lit.int .i64 bI).wf = true) (a : Option Addr) (c : Nat) (rs : List RecV) (ha : RMat w a rs) (hl : rs.length ≤ 9223372036854775807) (hlc : rs.length ≤ c) :
    Calls Try.prog 3 #[.int .i64 aI, .int .i64 bI, .slice a rs.length c] w fun e w' => e = .returned (.bool true) ∧ Below w.heap.size w w' := by
  have HA := Lib.hid ha
  obtain ⟨n, hn⟩ : ∃ n, n = rs.length := ⟨_, rfl⟩
  rw [← hn]
  have HN := Lib.hid hn
  have hn2 : n ≤ 9223372036854775807 := by omega
  obtain ⟨p, hp, ep⟩ := umod aI 225 (by decide) (by decide)
  obtain ⟨q, hq, eq⟩ := umod bI 225 (by decide) (by decide)
  clear wa wb ha hl hlc hn
  go_enter Try.func3, Try.ntmps3
  go_wp2_with fail
  clear ep eq
  cases hh : heavy06 rs with
  | true =>
    refine (heavy06_at a c n rs true w HA.out HN.out hn2 hh).mono ?_
    rintro e w1 ⟨rfl, rfl⟩
    go_wp2
    go_ret
    exact ⟨rfl, Below.refl _ _⟩
  | false =>
  have hhv := heavy06_no hh
  refine (heavy06_at a c n rs false w HA.out HN.out hn2 hh).mono ?_
  rintro e w1 ⟨rfl, rfl⟩
  clear hh
  have hn80 : n ≤ 80 := by rw [HN.out]; exact hhv.1
  clear hhv
  obtain ⟨A, hA⟩ : ∃ A : Int, A = 32 + (p : Int) := ⟨_, rfl⟩
  obtain ⟨B, hB⟩ : ∃ B : Int, B = 32 + (q : Int) := ⟨_, rfl⟩
  rw [← hA, ← hB]
  have hA1 : 32 ≤ A ∧ A ≤ 256 := by omega
  have hB1 : 32 ≤ B ∧ B ≤ 256 := by omega
  clear hA hB hp hq
  have HWs := Lib.hid (wholeP_size (recs rs) hA1 hB1)
  obtain ⟨⟨r1, o1, E1⟩, hP1⟩ : ∃ x, x = packP A (recs rs) := ⟨_, rfl⟩
  obtain ⟨⟨r2, o2, E2⟩, hP2⟩ : ∃ x, x = packP B (recs rs) := ⟨_, rfl⟩
  have HP1 := Lib.hid hP1.symm
  have HP2 := Lib.hid hP2.symm
  have hq1 := packP_no hP1.symm
  have hq2 := packP_no hP2.symm
  obtain rfl : E1 = E2 := by rw [hq1.1, hq2.1, HWs.out]
  have HQ1 := Lib.hid hq1
  have HQ2 := Lib.hid hq2
  clear hP1 hP2 hq1 hq2
  go_wp2_with fail
  refine (pack_at A a c n rs r1 o1 E1 w HA.out HN.out hn2 HP1.out).mono ?_
  rintro e w2 ⟨aX, m1, cX, aO, no1, cO, bs1, rfl, hR1, hb2⟩
  have HR1 := Lib.hid hR1
  have HB2 := Lib.hid hb2
  clear hR1 hb2
  go_wp2_with fail
  refine (pack_at B a c n rs r2 o2 E1 w2 (HA.out.ext HB2.out) HN.out hn2 HP2.out).mono ?_
  rintro e w3 ⟨aY, m2, cY, aQ, no2, cQ, bs2, rfl, hR2, hb3⟩
  have HR2 := Lib.hid hR2
  have HB3 := Lib.hid (bthen HB2.out hb3 (Nat.le_refl _))
  have HR1 := Lib.hid (HR1.out.ext hb3)
  clear hR2 hb3 HB2
  by_cases hE : E1 = 0
  · subst hE
    have HE := Lib.hid HQ1.out.1.symm
    have HE2 : Hid ((wholeP B (recs rs)).2 = 0) := Lib.hid (by rw [← HWs.out]; exact HE.out)
    obtain ⟨hr1, ho1⟩ := HQ1.out.2.2 rfl
    obtain ⟨hr2, ho2⟩ := HQ2.out.2.2 rfl
    subst hr1 ho1 hr2 ho2
    obtain ⟨hm1, hm1', hno1, hmc1, hnc1⟩ := HR1.out.len
    obtain ⟨hm2, hm2', hno2, hmc2, hnc2⟩ := HR2.out.len
    have hsh1 := rows_short HE.out HR1.out.rows
    have hsh2 := rows_short HE2.out HR2.out.rows
    have HN1 : Hid (needP A (recs rs) = ((m1 : Int), 0)) := Lib.hid (by rw [needP_pack HE.out, ← hm1'])
    have HN2 : Hid (needP B (recs rs) = ((m2 : Int), 0)) := Lib.hid (by rw [needP_pack HE2.out, ← hm2'])
    have Hf1 : Hid (flat bs1 = joinB (aggrL (recs rs))) := Lib.hid (by rw [HR1.out.flat, wholeP_flat HE.out])
    have Hf2 : Hid (flat bs2 = joinB (aggrL (recs rs))) := Lib.hid (by rw [HR2.out.flat, wholeP_flat HE2.out])
    have hmono : A ≤ B → m2 ≤ m1 := by
      intro hab
      rw [hm1', hm2', rowsC_len, rowsC_len, ← HWs.out]
      exact ceil_mono (by omega) (by omega)
    have hlb : (joinB (aggrL (recs rs))).length ≤ 1000000 := by
      have h3 := (wholeP_ok HE.out).2.2.1
      have := aggrL_len _ h3
      rw [recs_length, ← HN.out] at this
      omega
    have hoff : offsP (recs rs) = offsP (recs rs) := rfl
    have Hm1 := Lib.hid hm1
    have Hm2 := Lib.hid hm2
    have Hno1 := Lib.hid hno1
    have Hno2 := Lib.hid hno2
    have Hlb := Lib.hid hlb
    have hno12 : no1 ≤ 1000000 ∧ no2 ≤ 1000000 := by
      have h0 : (offsP (recs rs)).length = n := by unfold offsP; rw [List.length_map, List.length_range, recs_length, HN.out]
      omega
    have Hmono := Lib.hid hmono
    have Hsh1 := Lib.hid hsh1
    have Hsh2 := Lib.hid hsh2
    have hm12 : m1 ≤ 1000000 ∧ m2 ≤ 1000000 := ⟨by rw [hm1]; exact hsh1.1, by rw [hm2]; exact hsh2.1⟩
    clear hm1 hm1' hno1 hmc1 hnc1 hm2 hm2' hno2 hmc2 hnc2 hsh1 hsh2 hmono hlb hoff HQ1 HQ2
    go_wp2_with fail
    refine (need_at A a c n rs (m1 : Int) 0 w3 (HA.out.ext HB3.out) HN.out hn2 HN1.out).mono ?_
    rintro e w4 ⟨rfl, hb4⟩
    have HB4 := Lib.hid (bthen HB3.out hb4 (Nat.le_refl _))
    have HR1 := Lib.hid (HR1.out.ext hb4)
    have HR2 := Lib.hid (HR2.out.ext hb4)
    clear hb4 HB3
    go_wp2_with fail
    refine (need_at B a c n rs (m2 : Int) 0 w4 (HA.out.ext HB4.out) HN.out hn2 HN2.out).mono ?_
    rintro e w5 ⟨rfl, hb5⟩
    have HB5 := Lib.hid (bthen HB4.out hb5 (Nat.le_refl _))
    have HR1 := Lib.hid (HR1.out.ext hb5)
    have HR2 := Lib.hid (HR2.out.ext hb5)
    clear hb5 HB4
    go_wp2_with fail
    refine (flatg_at aX cX m1 bs1 w5 HR1.out.mat Hm1.out Hsh1.out.1 Hsh1.out.2 Hf1.out rfl).mono ?_
    rintro e w6 ⟨aF, cF, rfl, hoF, hb6⟩
    have HB6 := Lib.hid (bthen HB5.out hb6 (Nat.le_refl _))
    have HR1 := Lib.hid (HR1.out.ext hb6)
    have HR2 := Lib.hid (HR2.out.ext hb6)
    have HF := Lib.hid hoF.src
    clear hb6 HB5 hoF
    go_wp2_with fail
    refine (flatg_at aY cY m2 bs2 w6 HR2.out.mat Hm2.out Hsh2.out.1 Hsh2.out.2 Hf2.out rfl).mono ?_
    rintro e w7 ⟨aG, cG, rfl, hoG, hb7⟩
    have HB7 := Lib.hid (bthen HB6.out hb7 (Nat.le_refl _))
    have HR1 := Lib.hid (HR1.out.ext hb7)
    have HR2 := Lib.hid (HR2.out.ext hb7)
    have HF := Lib.hid (HF.out.ext hb7)
    have HG := Lib.hid hoG.src
    clear hb7 HB6 hoG
    go_wp2_with fail
    refine (bytes_at aF cF _ aG cG _ w7 _ _ true HF.out HG.out rfl rfl (by have := Hlb.out; omega) (by have := Hlb.out; omega) (by simp)).mono ?_
    rintro e w8 ⟨rfl, n8, rfl⟩
    have hb8 := ext_drewN w7 n8 w7.heap.size
    have HB8 := Lib.hid (bthen HB7.out hb8 (Nat.le_refl _))
    have HO1 := Lib.hid (HR1.out.offs.src.ext hb8)
    have HO2 := Lib.hid (HR2.out.offs.src.ext hb8)
    clear hb8 HB7 HF HG HR1 HR2
    go_wp2_with fail
    refine (keepints_at aO cO _ aQ cQ _ _ no1 no2 true HO1.out HO2.out Hno1.out Hno2.out (by omega) (by omega) (by simp)).mono ?_
    rintro e w9 ⟨rfl, hb9⟩
    have HB9 := Lib.hid (bthen HB8.out hb9 (Nat.le_refl _))
    clear hb9 HB8 HO1 HO2
    by_cases hab : A ≤ B
    · have hmm : (m2 : Int) ≤ (m1 : Int) := by have := Hmono.out hab; omega
      have hab' : ¬ B < A := by omega
      go_wp2_with fail
      refine (wakes15_any w9).mono ?_
      rintro e wA ⟨rfl, hbA⟩
      have HBA := Lib.hid (bthen HB9.out hbA (Nat.le_refl _))
      clear hbA
      go_wp2
      go_ret
      exact ⟨rfl, HBA.out⟩
    · have hab' : B < A := by omega
      go_wp2_with fail
      refine (wakes15_any w9).mono ?_
      rintro e wA ⟨rfl, hbA⟩
      have HBA := Lib.hid (bthen HB9.out hbA (Nat.le_refl _))
      clear hbA
      go_wp2
      go_ret
      exact ⟨rfl, HBA.out⟩
  · obtain ⟨rfl, rfl⟩ := HQ1.out.2.1 hE
    obtain ⟨rfl, rfl⟩ := HQ2.out.2.1 hE
    obtain ⟨hx1, hm1, hno1, hx2, hx3⟩ := HR1.out.len
    obtain ⟨hy1, hm2, hno2, hy2, hy3⟩ := HR2.out.len
    clear hx1 hx2 hx3 hy1 hy2 hy3
    obtain rfl : no1 = 0 := hno1
    obtain rfl : no2 = 0 := hno2
    obtain rfl : m1 = 0 := hm1
    obtain rfl : m2 = 0 := hm2
    have hE1 : (wholeP A (recs rs)).2 = E1 := HQ1.out.1.symm
    have HN1 : Hid (needP A (recs rs) = (0, E1)) := Lib.hid (by rw [needP_no (by rw [hE1]; exact hE), hE1])
    have HN2 : Hid (needP B (recs rs) = (0, E1)) := Lib.hid (by rw [needP_no (by rw [← HWs.out, hE1]; exact hE), ← HWs.out, hE1])
    have hE' : (E1 == 0) = false := by simpa using hE
    clear hE1 HQ1 HQ2 HR1 HR2
    go_wp2_with fail
    refine (need_at A a c n rs 0 E1 w3 (HA.out.ext HB3.out) HN.out hn2 HN1.out).mono ?_
    rintro e w4 ⟨rfl, hb4⟩
    have HB4 := Lib.hid (bthen HB3.out hb4 (Nat.le_refl _))
    clear hb4 HB3
    go_wp2_with fail
    refine (need_at B a c n rs 0 E1 w4 (HA.out.ext HB4.out) HN.out hn2 HN2.out).mono ?_
    rintro e w5 ⟨rfl, hb5⟩
    have HB5 := Lib.hid (bthen HB4.out hb5 (Nat.le_refl _))
    clear hb5 HB4
    go_wp2_with fail
    refine (wakes15_any w5).mono ?_
    rintro e wA ⟨rfl, hbA⟩
    have HBA := Lib.hid (bthen HB5.out hbA (Nat.le_refl _))
    clear hbA
    go_wp2
    go_ret
    exact ⟨rfl, HBA.out⟩
end Go.Proofs.Ytogcejmnhiphgaa
