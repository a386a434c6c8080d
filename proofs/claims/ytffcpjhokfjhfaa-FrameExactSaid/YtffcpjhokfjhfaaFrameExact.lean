/- The law FrameExact, walked. -/
import Derived.Test.YtffcpjhokfjhfaaFrameWakes
import Derived.Test.YtffcpjhokfjhfaaTwinRecs
import Derived.Test.YtffcpjhokfjhfaaRefJoin
namespace Go.Proofs.Ytffcpjhokfjhfaa
open Go.RowKit

theorem RMat.cells {w : World} {b o : Nat} {rs : List RecV} (h : RMat w (some ⟨b, o, none⟩) rs) {k : Nat} (hk : k < rs.length) {r : RecV} (hr : rs[k] = r) :
    w.cell? ⟨b, o + k * 3, none⟩ = some (.int .i64 r.kind) ∧ w.cell? ⟨b, o + k * 3 + 1, none⟩ = some (.int .i64 r.seq) ∧ w.cell? ⟨b, o + k * 3 + 2, none⟩ = some (.slice r.d.a r.d.l.length r.d.c) := by
  subst hr
  obtain ⟨b', o', hbo, _, hat⟩ := h.at hk
  simp only [Option.some.injEq, Addr.mk.injEq, and_true] at hbo
  obtain ⟨rfl, rfl⟩ := hbo
  exact hat k hk

set_option maxRecDepth 100000 in
set_option maxHeartbeats 4000000 in
theorem frameExact_walk (w : World) (a : Option Addr) (c : Nat) (rs : List RecV) (ha : RMat w a rs) (hl : rs.length ≤ 9223372036854775807) (hlc : rs.length ≤ c) :
    Calls Try.prog 3 #[.slice a rs.length c] w fun e w' => e = .returned (.bool true) ∧ Below w.heap.size w w' := by
  clear hlc
  cases hh : heavy06 rs with
  | true =>
    have HH := Lib.hid (heavy06_at a c rs.length rs true w ha rfl hl hh)
    clear hh
    go_enter Try.func3, Try.ntmps3
    go_wp2_with fail
    refine HH.out.mono ?_
    rintro e w1 ⟨rfl, rfl⟩
    go_wp2
    go_ret
    exact ⟨rfl, Below.refl _ _⟩
  | false =>
    obtain ⟨h80, h400⟩ := heavy06_no hh
    have HH := Lib.hid (heavy06_at a c rs.length rs false w ha rfl hl hh)
    have H400 := Lib.hid h400
    clear hh h400
    go_enter Try.func3, Try.ntmps3
    go_wp2_with fail
    refine HH.out.mono ?_
    rintro e w1 ⟨rfl, rfl⟩
    go_wp2_with fail
    refine (twinrecs_at a c rs.length rs w ha rfl (by omega) (fun r hr => by have := H400.out r hr; omega)).mono ?_
    rintro e w1 ⟨a2, c2, vs, rfl, hvl, hvs, hvr, hb1⟩
    have ha1 := ha.ext hb1
    have hm1 := hvs.mat
    have Hvl := Lib.hid hvl
    have Hvr := Lib.hid hvr
    clear hvs hvl hvr ha HH
    go_wp2_with fail
    go_loopw [4] (fun i wr => ∃ k : Nat, k ≤ rs.length ∧ i = .int .i64 k ∧ Below w1.heap.size w1 wr) (fun i _ => rs.length - (intOf i).toNat)
    case atStart => exact ⟨0, by omega, rfl, Below.refl _ _⟩
    case round =>
      rename_i wr
      obtain ⟨k, hk, rfl, hbr⟩ := hrel
      by_cases hlt : k < rs.length
      · have hkv : k < vs.length := by have := Hvl.out; omega
        have har := ha1.ext hbr
        have hmr := hm1.ext hbr
        obtain ⟨b1, o1, rfl, hltb1, hat1⟩ := har.at hlt
        obtain ⟨b2, o2, rfl, hltb2, hat2⟩ := hmr.at hkv
        clear hat1 hat2
        have hrok := har.row rs[k] (List.getElem_mem hlt)
        have hsok := hmr.row vs[k] (List.getElem_mem hkv)
        have hpl : vs[k].pl = rs[k].pl := by
          have h1 := congrArg (fun l => l[k]?) Hvr.out
          simpa [recs, hkv, hlt] using h1
        obtain ⟨r, hr⟩ : ∃ r, rs[k] = r := ⟨_, rfl⟩
        obtain ⟨s, hs⟩ : ∃ s, vs[k] = s := ⟨_, rfl⟩
        rw [hr] at hrok hpl
        rw [hs] at hsok hpl
        have Hr := Lib.hid hr
        have Hs := Lib.hid hs
        have Hpl := Lib.hid hpl
        clear hr hs hpl
        obtain ⟨E1, hE1⟩ : ∃ E1, r.pl.e = E1 := ⟨_, rfl⟩
        have HE1 := Lib.hid hE1
        clear hE1
        obtain ⟨k0, k1, k2⟩ := har.cells hlt Hr.out
        have HC := Lib.hid fun w => refrec_at r E1 w HE1.out
        have HK := Lib.hid fun w => check06_at s E1 w (by rw [Hpl.out]; exact HE1.out)
        unfold RecV.val at HC HK
        go_wp2_with fail
        refine (HC.out wr).mono ?_
        rintro e w2 ⟨rfl, hb2⟩
        have hm2 := hmr.ext hb2
        have hb02 := bthen hbr hb2 (Nat.le_refl _)
        clear k0 k1 k2
        obtain ⟨k0, k1, k2⟩ := hm2.cells hkv Hs.out
        obtain ⟨l3, hl3⟩ : ∃ l3, (if s.pl.e = 0 then frameOf s.pl else []) = l3 := ⟨_, rfl⟩
        have HB := Lib.hid (frbytes_at s E1 l3 l3.length w2 (hsok.ext hb2) (by rw [Hpl.out]; exact HE1.out) hl3 rfl)
        have Hl3 := Lib.hid hl3
        clear hl3
        unfold RecV.val at HB
        go_wp2_with fail
        refine HB.out.mono ?_
        rintro e w3 ⟨a3, c3, rfl, ho3, hb3⟩
        have hs3 := ho3.src
        have hm3 := hm2.ext hb3
        have hb03 := bthen hb02 hb3 (Nat.le_refl _)
        clear k0 k1 k2 ho3 hm2 HB hb02
        obtain ⟨k0, k1, k2⟩ := hm3.cells hkv Hs.out
        go_wp2_with fail
        refine (HK.out w3).mono ?_
        rintro e w4 ⟨rfl, hb4⟩
        have hs4 := hs3.ext hb4
        have hb04 := bthen hb03 hb4 (Nat.le_refl _)
        have har4 := ha1.ext hb04
        clear k0 k1 k2 hs3 hb03 hm3 HK HC
        have hEE : ((E1 : Int) != E1) = false := by simp
        by_cases h0 : E1 = 0
        · subst h0
          have hl3 : l3 = frameOf r.pl := by rw [← Hl3.out, Hpl.out, if_pos HE1.out]
          rw [hl3] at hs4 ⊢
          have HF := Lib.hid (refframe_ok r w4 ((hrok.ext hb2).ext hb3 |>.ext hb4) HE1.out)
          have hfl : (frameOf r.pl).length = 13 + r.d.l.length := frameOf_length r.pl
          have Hfl := Lib.hid hfl
          have hrl := H400.out rs[k] (List.getElem_mem hlt)
          rw [Hr.out] at hrl
          unfold RecV.val at HF
          obtain ⟨k0, k1, k2⟩ := har4.cells hlt Hr.out
          rw [hfl]
          generalize frameOf r.pl = X at *
          clear hfl hl3
          go_wp2_with fail
          refine HF.out.mono ?_
          rintro e w5 ⟨a5, c5, rfl, ho5, hb5⟩
          have hs5 := ho5.src
          have ht5 := hs4.ext hb5
          have hb05 := bthen hb04 hb5 (Nat.le_refl _)
          clear ho5 hs4 k0 k1 k2 HF
          go_wp2_with fail
          refine (bytes_at a3 c3 X a5 c5 X w5 _ _ true ht5 hs5 Hfl.out.symm Hfl.out.symm (by omega) (by omega) (by simp)).mono ?_
          rintro e w6 ⟨rfl, nn, rfl⟩
          have hb06 := below_drewN hb05 nn
          go_wp2_with fail
          go_roundw
          case rel => exact ⟨k + 1, by omega, by go_num, hb06⟩
          case measure => simp [intOf]; omega
        · have hl3 : l3 = [] := by rw [← Hl3.out, Hpl.out, if_neg (by rw [HE1.out]; exact h0)]
          rw [hl3]
          have hne : ((E1 : Int) != 0) = true := by simpa using h0
          have hne2 : ((E1 : Int) == 0) = false := by simpa using h0
          clear hl3 h0
          simp only [List.length_nil]
          go_wp2_with fail
          go_roundw
          case rel => exact ⟨k + 1, by omega, by go_num, hb04⟩
          case measure => simp [intOf]; omega
      · obtain ⟨E, hE⟩ : ∃ E, joinE (recs rs) = E := ⟨_, rfl⟩
        obtain ⟨l, hB⟩ : ∃ l, joinR (recs rs) = l := ⟨_, rfl⟩
        have har := ha1.ext hbr
        have hmr := hm1.ext hbr
        have hEv : joinE (recs vs) = E := by rw [Hvr.out]; exact hE
        have hBv : joinR (recs vs) = l := by rw [Hvr.out]; exact hB
        have hll : l.length ≤ 8013 * 80 := by
          rw [← hB, joinR]
          split
          · next h => have := joinB_le _ (joinE_ok.1 h); simp at this; omega
          · simp
        have HJ := Lib.hid (join_at a2 c2 rs.length vs E l l.length wr hmr Hvl.out.symm (by omega) hEv hBv rfl)
        have HB := Lib.hid hB
        have HE := Lib.hid hE
        clear hE hB hEv hBv
        go_wp2_with fail
        refine HJ.out.mono ?_
        rintro e w2 ⟨a3, c3, rfl, ho3, hb2⟩
        have hs3 := ho3.src
        have har2 := har.ext hb2
        have hmr2 := hmr.ext hb2
        have hb02 := bthen hbr hb2 (Nat.le_refl _)
        clear ho3 HJ
        go_wp2_with fail
        refine (refjoin_at a c rs.length rs E l l.length w2 har2 rfl (by omega) HE.out HB.out rfl).mono ?_
        rintro e w3 ⟨a4, c4, rfl, ho4, hb3⟩
        have hs4 := ho4.src
        have ht4 := hs3.ext hb3
        have har3 := har2.ext hb3
        have hmr3 := hmr2.ext hb3
        have hb03 := bthen hb02 hb3 (Nat.le_refl _)
        clear ho4
        have hEE : ((E : Int) == E) = true := by simp
        go_wp2_with fail
        refine (bytes_at a3 c3 l a4 c4 l w3 _ _ true ht4 hs4 rfl rfl (by omega) (by omega) (by simp)).mono ?_
        rintro e w4 ⟨rfl, nn, rfl⟩
        have har4 := har3.ext (ext_drewN w3 nn _)
        have hmr4 := hmr3.ext (ext_drewN w3 nn _)
        have hb04 := below_drewN hb03 nn
        go_wp2_with fail
        refine (records_at a2 c2 vs a c rs _ _ _ true hmr4 har4 Hvl.out.symm rfl (by omega) (by omega) (by rw [Hvr.out]; simp)).mono ?_
        rintro e w5 ⟨rfl, hb5⟩
        have hb05 := bthen hb04 hb5 (Nat.le_refl _)
        go_wp2_with fail
        refine (wakes06_any _).mono ?_
        rintro e w6 ⟨rfl, hb6⟩
        have hb06 := bthen hb05 hb6 (Nat.le_refl _)
        go_wp2
        go_ret
        exact ⟨rfl, bthen hb1 hb06 (Nat.le_refl _)⟩
end Go.Proofs.Ytffcpjhokfjhfaa
