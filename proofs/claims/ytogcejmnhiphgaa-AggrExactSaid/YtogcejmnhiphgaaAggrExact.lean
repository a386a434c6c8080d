/- The walk of AggrExact. -/
import Derived.Test.YtogcejmnhiphgaaAggrSizes
import Derived.Test.YtogcejmnhiphgaaAggrReadQ
import Derived.Test.YtogcejmnhiphgaaAggrRead
import Derived.Test.YtogcejmnhiphgaaRefPack
import Derived.Test.YtogcejmnhiphgaaRowsK
import Derived.Test.YtogcejmnhiphgaaTwinRecs
namespace Go.Proofs.Ytogcejmnhiphgaa
open Go.RowKit

theorem needP_any {size : Int} {l : List Rec} {rows : List (List Byte)} {of : List Int} {E : Int} (h : packP size l = (rows, of, E)) : needP size l = ((rows.length : Int), E) := by
  obtain ⟨h1, h2, h3⟩ := packP_no h
  by_cases hE : E = 0
  · obtain ⟨h4, _⟩ := h3 hE
    rw [needP_pack (by rw [← h1]; exact hE), h4, hE]
  · obtain ⟨h4, _⟩ := h2 hE
    rw [needP_no (by rw [← h1]; exact hE), h4, ← h1]
    rfl
theorem rows_at (a : Option Addr) (ca : Nat) (ps : List Bsl) (b : Option Addr) (cb : Nat) (qs : List Bsl) (w : World) (n m : Nat) (r : Bool) (ha : Mat w a ps) (hb : Mat w b qs)
    (hn : n = ps.length) (hm : m = qs.length) (hla : n ≤ 9223372036854775807) (hlb : m ≤ 9223372036854775807) (hr : decide (ps.map Bsl.l = qs.map Bsl.l) = r) :
    Calls Try.prog 22 #[.slice a n ca, .slice b m cb] w fun e w' => e = .returned (.bool r) ∧ Below w.heap.size w w' := by
  refine (rows_any a ca ps b cb qs w n m ha hb hn hm (by omega) (by omega)).mono ?_
  rintro e w' ⟨rfl, k, rfl⟩
  exact ⟨by rw [hr], ext_drewN w k _⟩

set_option maxRecDepth 100000 in
set_option maxHeartbeats 16000000 in
theorem aggrExact_walk (w : World) (size : Int) (ws : (Lit.int .i64 size).wf = true) (a : Option Addr) (c : Nat) (rs : List RecV) (ha : RMat w a rs) (hl : rs.length ≤ 9223372036854775807) (hlc : rs.length ≤ c) :
    Calls Try.prog 5 #[.int .i64 size, .slice a rs.length c] w fun e w' => e = .returned (.bool true) ∧ Below w.heap.size w w' := by
  have HA := Lib.hid ha
  obtain ⟨n, hn⟩ : ∃ n, n = rs.length := ⟨_, rfl⟩
  rw [← hn]
  have HN := Lib.hid hn
  have hn2 : n ≤ 9223372036854775807 := by omega
  clear ws ha hl hlc hn
  go_enter Try.func5, Try.ntmps5
  go_wp2_with fail
  cases hh : heavy06 rs with
  | true =>
    refine (heavy06_at a c n rs true w HA.out HN.out hn2 hh).mono ?_
    rintro e w1 ⟨rfl, rfl⟩
    go_wp2
    go_ret
    exact ⟨rfl, Below.refl _ _⟩
  | false =>
  have hhv := heavy06_no hh
  refine (heavy06_at a c n rs false w HA.out HN.out hn2 hh).mono ?_
  rintro e w1 ⟨rfl, rfl⟩
  clear hh
  have hn80 : n ≤ 80 := by rw [HN.out]; exact hhv.1
  have Hd4 : Hid (∀ r ∈ rs, r.d.l.length ≤ 400) := Lib.hid hhv.2
  clear hhv
  obtain ⟨⟨rw1, of, E⟩, hP⟩ : ∃ x, x = packP size (recs rs) := ⟨_, rfl⟩
  have HP := Lib.hid hP.symm
  have HQ := Lib.hid (packP_no hP.symm)
  have HNd := Lib.hid (needP_any hP.symm)
  clear hP
  go_wp2_with fail
  refine (twinrecs_at a c n rs w HA.out HN.out (by omega) (fun r hr => by have := Hd4.out r hr; omega)).mono ?_
  rintro e w2 ⟨aI, cI, vs, rfl, hvl, hov, hrv, hb2⟩
  have HV := Lib.hid hov.mat
  have Hvl := Lib.hid hvl.symm
  have Hrv := Lib.hid hrv
  have HB2 := Lib.hid hb2
  clear hvl hov hrv hb2 Hd4
  go_wp2_with fail
  refine (need_at size aI cI n vs (rw1.length : Int) E w2 HV.out Hvl.out hn2 (by rw [Hrv.out]; exact HNd.out)).mono ?_
  rintro e w3 ⟨rfl, hb3⟩
  have HV := Lib.hid (HV.out.ext hb3)
  have HB3 := Lib.hid (bthen HB2.out hb3 (Nat.le_refl _))
  clear hb3 HB2 HNd
  go_wp2_with fail
  refine (pack_at size aI cI n vs rw1 of E w3 HV.out Hvl.out hn2 (by rw [Hrv.out]; exact HP.out)).mono ?_
  rintro e w4 ⟨aX, m1, cX, aO, no1, cO, bs1, rfl, hR1, hb4⟩
  have HR1 := Lib.hid hR1
  have HV := Lib.hid (HV.out.ext hb4)
  have HB4 := Lib.hid (bthen HB3.out hb4 (Nat.le_refl _))
  clear hR1 hb4 HB3
  go_wp2_with fail
  refine (refpack_at size a c n rs rw1 of E w4 (HA.out.ext HB4.out) HN.out hn2 HP.out).mono ?_
  rintro e w5 ⟨aY, m2, cY, aQ, no2, cQ, bs2, rfl, hR2, hb5⟩
  have HR1 := Lib.hid (HR1.out.ext hb5)
  have HR2 := Lib.hid hR2
  have HV := Lib.hid (HV.out.ext hb5)
  have HB5 := Lib.hid (bthen HB4.out hb5 (Nat.le_refl _))
  have hl1 := HR1.out.len
  have hl2 := HR2.out.len
  have hx1 := HR1.out.own.len.2
  have hx2 := HR1.out.offs.len.2
  unfold maxLen at hx1 hx2
  have hm12 : m2 = m1 := by omega
  have hn12 : no2 = no1 := by omega
  subst hm12
  subst hn12
  have Hm1 := Lib.hid hl1.1
  have Hm2 := Lib.hid hl2.1
  have Hno := Lib.hid hl1.2.2.1
  have hmb : m2 ≤ 9223372036854775807 := by omega
  have hnb : no2 ≤ 9223372036854775807 := by omega
  have hrl : rw1.length = m2 := by omega
  rw [hrl]
  clear hR2 hb5 HB4 hl1 hl2 hx1 hx2 hrl HP
  go_wp2_with fail
  refine (rows_at aX cX bs1 aY cY bs2 w5 m2 m2 true HR1.out.mat HR2.out.mat Hm1.out Hm2.out hmb hmb (by rw [HR1.out.rows, HR2.out.rows]; simp)).mono ?_
  rintro e w6 ⟨rfl, hb6⟩
  have HD6 := Lib.hid hb6
  clear hb6
  go_wp2_with fail
  refine (keepints_at aO cO of aQ cQ of w6 no2 no2 true (HR1.out.offs.src.ext HD6.out) (HR2.out.offs.src.ext HD6.out) Hno.out Hno.out hnb hnb (by simp)).mono ?_
  rintro e w7 ⟨rfl, hb7⟩
  have HD7 := Lib.hid (HD6.out.trans (hb7.mono HD6.out.size))
  clear hb7 HD6
  go_wp2_with fail
  refine (records_at aI cI vs a c rs w7 n n true (HV.out.ext HD7.out) (HA.out.ext (bthen HB5.out HD7.out (Nat.le_refl _))) Hvl.out HN.out hn2 hn2 (by rw [Hrv.out]; simp)).mono ?_
  rintro e w8 ⟨rfl, hb8⟩
  have HR1 := Lib.hid (HR1.out.ext (HD7.out.trans (hb8.mono HD7.out.size)))
  have HB8 := Lib.hid (bthen HB5.out (HD7.out.trans (hb8.mono HD7.out.size)) (Nat.le_refl _))
  clear hb8 HD7 HR2 HV HB5
  by_cases hE : E = 0
  · subst hE
    have HE := Lib.hid HQ.out.1.symm
    obtain ⟨hr1, ho1⟩ := HQ.out.2.2 rfl
    subst hr1 ho1
    have Hsh1 := Lib.hid (rows_short HE.out HR1.out.rows)
    have HOk := Lib.hid (aggrOk_of HE.out)
    obtain ⟨all, hall⟩ : ∃ x, x = joinB (aggrL (recs rs)) := ⟨_, rfl⟩
    have Hf1 : Hid (flat bs1 = all) := Lib.hid (by rw [HR1.out.flat, wholeP_flat HE.out, hall])
    have hlb : all.length ≤ 700000 := by
      have h3 := (wholeP_ok HE.out).2.2.1
      have := aggrL_len _ h3
      rw [recs_length, ← HN.out] at this
      rw [hall]
      omega
    have HRd : Hid (readA all = (recs rs, offsP (recs rs), true)) := Lib.hid (by
      have := readA_more HOk.out []
      rw [List.append_nil] at this
      rw [hall, this]
      rfl)
    obtain ⟨La, hLa⟩ : ∃ n, n = all.length := ⟨_, rfl⟩
    rw [← hLa] at hlb
    have HLa := Lib.hid hLa
    have hof : (offsP (recs rs)).length = n := by unfold offsP; rw [List.length_map, List.length_range, recs_length, HN.out]
    have hno : no2 = n := Hno.out.trans hof
    have Hof := Lib.hid hof.symm
    clear hall hLa hof hnb Hno HQ HOk
    subst hno
    go_wp2_with fail
    refine (flatg_at aX cX m2 bs1 w8 HR1.out.mat Hm1.out Hsh1.out.1 Hsh1.out.2 Hf1.out HLa.out).mono ?_
    rintro e w9 ⟨aF, cF, rfl, hoF, hb9⟩
    have HO9 := Lib.hid (HR1.out.offs.src.ext hb9)
    have HF9 := Lib.hid hoF.src
    have HB9 := Lib.hid (bthen HB8.out hb9 (Nat.le_refl _))
    have hFc := hoF.len.1
    clear hb9 hoF HB8 HR1
    go_wp2_with fail
    refine (aread_at aF La cF all (recs rs) (offsP (recs rs)) true w9 HF9.out HLa.out hFc (by omega) HRd.out).mono ?_
    rintro e wA ⟨aR, nR, cR, us, aP, cP, rfl, hu1, hu2, hu3, hu4, hu5, hbA⟩
    have hnR : nR = no2 := hu2.trans Hof.out.symm
    subst hnR
    have Hu1 := Lib.hid hu1
    have Hu3 := Lib.hid hu3.mat
    have Hu4 := Lib.hid hu4
    have Hu5 := Lib.hid hu5.src
    have HDA := Lib.hid hbA
    clear hu1 hu2 hu3 hu4 hu5 hbA
    go_wp2_with fail
    refine (records_at aR cR us a c rs wA nR nR true Hu3.out (HA.out.ext (bthen HB9.out HDA.out (Nat.le_refl _))) Hu1.out HN.out hn2 hn2 (by rw [Hu4.out]; simp)).mono ?_
    rintro e wB ⟨rfl, hbB⟩
    have Hu5 := Lib.hid (Hu5.out.ext hbB)
    have HDB := Lib.hid (HDA.out.trans (hbB.mono HDA.out.size))
    clear hbB HDA Hu3
    go_wp2_with fail
    refine (keepints_at aP cP _ aO cO _ wB nR nR true Hu5.out (HO9.out.ext HDB.out) Hof.out Hof.out hn2 hn2 (by simp)).mono ?_
    rintro e wC ⟨rfl, hbC⟩
    have HBC := Lib.hid (bthen HB9.out (HDB.out.trans (hbC.mono HDB.out.size)) (Nat.le_refl _))
    clear hbC HDB HB9
    go_wp2_with fail
    refine (wakes15_any wC).mono ?_
    rintro e wD ⟨rfl, hbD⟩
    have HBD := Lib.hid (bthen HBC.out hbD (Nat.le_refl _))
    clear hbD
    go_wp2
    go_ret
    exact ⟨rfl, HBD.out⟩
  · have hE' : (E != 0) = true := by simpa using hE
    clear hE HQ
    go_wp2_with fail
    refine (wakes15_any w8).mono ?_
    rintro e wD ⟨rfl, hbD⟩
    have HBD := Lib.hid (bthen HB8.out hbD (Nat.le_refl _))
    clear hbD
    go_wp2
    go_ret
    exact ⟨rfl, HBD.out⟩
end Go.Proofs.Ytogcejmnhiphgaa
