/- The walk of VolumeFull. -/
import Derived.Test.YtjngfkkbfkoedaaVolumeFullPartS
import Derived.Test.YtjngfkkbfkoedaaVolumeFullPartU
import Derived.Test.YtjngfkkbfkoedaaKeepMed
import Derived.Test.YtjngfkkbfkoedaaRecK
namespace Go.Proofs.Ytjngfkkbfkoedaa
open Go.RowKit

set_option maxRecDepth 100000 in
set_option maxHeartbeats 16000000 in
theorem volumeFull_walk (w : World) (zs : Int) (ws : (Lit.int .i64 zs).wf = true) (zl : Int) (wl : (Lit.int .i64 zl).wf = true) (aL : Option Addr) (cL : Nat) (l : List RRow) (hs : RRMat w aL l) (hl : l.length ≤ 9223372036854775807) :
    Calls Try.prog 4 #[.int .i64 zs, .int .i64 zl, .slice aL l.length cL] w fun e w' => e = .returned (.bool true) ∧ Below w.heap.size w w' := by
  obtain ⟨ks, hks, es⟩ := umod zs 100 (by decide) (by decide)
  obtain ⟨kl, hkl, el⟩ := umod zl 40 (by decide) (by decide)
  obtain ⟨N, hN⟩ : ∃ N, N = l.length := ⟨_, rfl⟩
  rw [← hN]
  have HN := Lib.hid hN
  have Hs := Lib.hid hs
  have hN2 : N ≤ 9223372036854775807 := by omega
  have hw1 : IntKind.i64.wrap (32 + (ks : Int)) = ((32 + ks : Nat) : Int) := by rw [IntKind.wrap_i64]; omega
  have hw2 : IntKind.i64.wrap (3 + (kl : Int)) = ((3 + kl : Nat) : Int) := by rw [IntKind.wrap_i64]; omega
  obtain ⟨sz, hsz⟩ : ∃ n, n = 32 + ks := ⟨_, rfl⟩
  obtain ⟨lim, hlim⟩ : ∃ n, n = 3 + kl := ⟨_, rfl⟩
  rw [← hsz] at hw1
  rw [← hlim] at hw2
  have hszb : 32 ≤ sz ∧ sz ≤ 256 := by omega
  have hlimb : 3 ≤ lim ∧ lim ≤ 400 := by omega
  have HSZ := Lib.hid hsz
  have HLIM := Lib.hid hlim
  clear hsz hlim hs hN hl ws wl
  go_enter Try.func4, Try.ntmps4
  by_cases h10 : 10 < N
  · have h10' : (10 : Int) < (N : Int) := by omega
    go_wp2
    go_ret
    exact ⟨rfl, Below.refl _ _⟩
  have h10' : ¬ (10 : Int) < (N : Int) := by omega
  go_wp2_with fail
  refine (power_new w).mono ?_
  rintro e w1 ⟨g, rfl, hp1, hb1⟩
  go_wp2_with fail
  refine (drv_new (g := g) (lim : Int) none 0 0 [] w1 (CMat.nil _ _) rfl (by decide) (by simp) (Med.ok_iff.2 ⟨⟨show (1 : Int) ≤ (lim : Int) by omega, show (lim : Int) ≤ 400 by omega, show (0 : Int) ≤ (lim : Int) by omega⟩, fun c hc => by cases hc⟩)).mono ?_
  rintro e w2 ⟨d, a2, c2, cs2, rfl, h2, hb2⟩
  have HD : Hid (DrvP w.heap.size AllK w2 d g ⟨(lim : Int), []⟩ 0 PS.new) := Lib.hid ⟨⟨_, _, _, _, h2.mono hb1.size fun _ _ _ => trivial⟩, hp1.ext hb2⟩
  have HB := Lib.hid (bthen hb1 hb2 (Nat.le_refl _))
  clear h2 hp1 hb1 hb2
  go_wp2_with fail
  refine (vol_new (d := d) (sz : Int) w2 (by omega)).mono ?_
  rintro e w3 ⟨vb, rfl, hv3, hb3⟩
  have HV := Lib.hid hv3
  have HB' := Lib.hid (bthen HB.out hb3 (Nat.le_refl _))
  have HD' := Lib.hid (HD.out.ext hb3)
  clear hb3 HB HD
  have HB := HB'
  have HD := HD'
  clear HB' HD'
  clear hv3
  go_wp2_with fail
  refine (vol_format 1 0 0 0 2 PS.new (volT (lim : Int) (lbytes 1 0 0) []) w3 HV.out HD.out (Up.all HB.out.size) (by rw [Med.ok_iff]; exact ⟨⟨show (1 : Int) ≤ (lim : Int) by omega, show (lim : Int) ≤ 400 by omega, show (0 : Int) ≤ (lim : Int) by omega⟩, fun c hc => by cases hc⟩)
    (vFormat_ok (show (2 : Int) ≤ (lim : Int) by omega) (by decide) (lab_ok _ _ _))).mono ?_
  rintro e w4 ⟨rfl, hd4, hm4⟩
  have HD4 := Lib.hid hd4
  have HB4 := Lib.hid (HB.out.trans (hm4.below (fun b T h => h.1) HB.out.size))
  have HV4 := Lib.hid (HV.out.vf hm4)
  clear hd4 hm4 HD HB HV
  go_wp2_with fail
  go_loopw [11, 12] (fun fv iv wr => ∃ (k : Nat) (gs : List (List (List Byte))) (pt : Int) (wx : World), wx = wr ∧ k ≤ N ∧ fv = .int .i64 (gs.length : Int) ∧ iv = .int .i64 (k : Int) ∧ VolOk (lim : Int) (lbytes 1 0 0) gs ∧ VolAt wx vb d (sz : Int) ∧ DrvP w.heap.size AllK wx d g (volT (lim : Int) (lbytes 1 0 0) gs) pt PS.new ∧ Below w.heap.size w wx) (fun _ iv _ => N - (intOf iv).toNat)
  case atStart => exact ⟨0, [], 2, _, rfl, by omega, rfl, rfl, volOk_new (by omega), HV4.out, HD4.out, HB4.out⟩
  case round =>
    obtain ⟨k, gs, pt, wx, hwx, hk, rfl, rfl, hok, hV, hD, hbx⟩ := hrel
    subst hwx
    clear HD4 HB4 HV4
    have HV := Lib.hid hV
    have HD := Lib.hid hD
    have HB := Lib.hid hbx
    have HOK := Lib.hid hok
    have HG := Lib.hid hok.good
    obtain ⟨F, hF⟩ : ∃ n, n = gs.length := ⟨_, rfl⟩
    have hF400 : F ≤ 400 := by rw [hF]; exact hok.few
    rw [← hF]
    have HF := Lib.hid hF
    clear hV hD hbx hok hF
    by_cases hkN : k < N
    · have hkl : k < l.length := by rw [← HN.out]; exact hkN
      obtain ⟨rb, ro, rfl, hlr, hat⟩ := Hs.out.at hkl
      have q0 := hat k hkl
      have hrow := Hs.out.ok _ (List.getElem_mem hkl)
      clear hat
      generalize l[k] = y at q0 hrow
      obtain ⟨n, hn⟩ : ∃ n, n = y.rs.length := ⟨_, rfl⟩
      rw [← hn] at q0
      have Hn := Lib.hid hn
      have Hrow := Lib.hid hrow
      have Q0 := Lib.hid q0
      have hn2 : n ≤ 9223372036854775807 := by rw [hn]; exact hrow.2.1
      have r0 := (World.cell?_of_block (w := w) (a := ⟨rb, ro + k, none⟩) (HB.out.block rb hlr)).trans q0
      clear hn hrow q0
      by_cases hn1 : n < 1
      · have hn1' : (n : Int) < 1 := by omega
        go_wp2
        go_ret
        exact ⟨rfl, HB.out⟩
      have hn1' : ¬ (n : Int) < 1 := by omega
      cases hhv : heavy06 y.rs with
      | true =>
        have Hhv := Lib.hid hhv
        clear hhv
        go_wp2_with fail
        refine (heavy06_at y.a y.c n y.rs true wx (Hrow.out.1.ext HB.out) Hn.out hn2 Hhv.out).mono ?_
        rintro e wz ⟨rfl, rfl⟩
        go_wp2
        go_ret
        exact ⟨rfl, HB.out⟩
      | false =>
        have Hhv := Lib.hid hhv
        clear hhv
        go_wp2_with fail
        refine (heavy06_at y.a y.c n y.rs false wx (Hrow.out.1.ext HB.out) Hn.out hn2 Hhv.out).mono ?_
        rintro e wz ⟨rfl, rfl⟩
        clear r0
        go_wp2_with fail
        refine (drv_snap wx HD.out (Nat.le_trans HG.out.len (by decide)) HG.out.short).mono ?_
        rintro e w5 ⟨a5, c5, cs5, k5, rfl, hM5, hc5, hD5, hb5⟩
        obtain ⟨A, hA⟩ : ∃ n, n = 2 + lenA gs := ⟨_, rfl⟩
        have hkA : k5 = A := by
          have h1 := hM5.size
          rw [volT_len, ← hA] at h1
          omega
        subst hkA
        have HA := Lib.hid hA
        have hAl : k5 ≤ lim := by have := HOK.out.fit; rw [← hA] at this; omega
        have HM5 := Lib.hid hM5
        have HD5 := Lib.hid hD5
        have HV5 := Lib.hid (HV.out.ext hb5)
        have HB5 := Lib.hid (bthen HB.out hb5 (Nat.le_refl _))
        have hroom : roomP (volT (lim : Int) (lbytes 1 0 0) gs) (F : Int) = (lim : Int) - (k5 : Int) := by
          rw [HF.out, roomP_vol _ _ _ _ (Nat.le_refl _), List.take_length, ← hA]
        have HRm := Lib.hid hroom
        have hwr : IntKind.i64.wrap ((lim : Int) - (k5 : Int)) = (lim : Int) - (k5 : Int) := by rw [IntKind.wrap_i64]; omega
        clear hM5 hD5 hb5 hA hroom HD
        go_wp2_with fail
        refine (vol_room (F : Int) ((lim : Int) - (k5 : Int)) w5 HV5.out HD5.out HOK.out.ok HRm.out).mono ?_
        rintro e w6 ⟨rfl, hb6⟩
        obtain ⟨hTX, hSX⟩ := TapeO.new (lim : Int) rfl (HM5.out.ext hb6) hc5
        have hzX := heap_alloc_new w6 (.cells #[.int .i64 0, .slice none 0 0] 24)
        have hb7 := bthen hb6 hSX (Nat.le_refl _)
        have HD7 := Lib.hid (HD5.out.ext hb7)
        have HV7 := Lib.hid (HV5.out.ext hb7)
        have HB7 := Lib.hid (bthen HB5.out hb7 (Nat.le_refl _))
        have r0 := (World.cell?_of_block (w := w) (a := ⟨rb, ro + k, none⟩) (HB7.out.block rb hlr)).trans Q0.out
        clear hb6 hb7 HM5 HD5 HV5 HB5 HB HV
        go_wp2_with (refine wpList_store_row rfl rfl 24 (.tmp 13) (.tmp 89) rfl w6.heap.size rfl 24 #[.int .i64 0, .slice none 0 0] #[.int .i64 (lim : Int), .slice a5 k5 c5] rfl hzX rfl (by kernel_rfl) (by simp [Value.oneCell']) ?_
                     clear hzX hSX
                     generalize (w6.alloc (.cells #[.int .i64 0, .slice none 0 0] 24)).setRow w6.heap.size #[.int .i64 (lim : Int), .slice a5 k5 c5] = w7 at *
                     generalize w6.heap.size = GX at *
                     have HTX := Lib.hid hTX
                     clear hTX
                     obtain ⟨x0, x1⟩ := HTX.out.box.cells)
        clear x0 x1 r0 hwr
        rcases vAppend_all (size := (sz : Int)) (at_ := pt) (l := recs y.rs) HOK.out with ⟨E, hap, hE⟩ | ⟨rows, hap, hpk, hok2⟩
        · rw [← HF.out] at hap
          have HAP := Lib.hid hap
          have HE := Lib.hid hE
          clear hap hE
          have hin : E = 1 ∨ E = 2 ∨ E = 7 := HE.out
          clear HE
          rcases hin with rfl | rfl | rfl
          all_goals (
            refine (vol_append (F : Int) y.a y.c n y.rs [] _ 0 PS.new (volT (lim : Int) (lbytes 1 0 0) gs) w7 HV7.out HD7.out.zone (ZK.up HB7.out.size (Nat.le_refl _)) HOK.out.ok (fun w' hm => Hrow.out.1.ext (HB7.out.trans (hm.below (fun b T h => h.1) HB7.out.size))) Hn.out hn2 (by omega) HAP.out).mono ?_
            rintro e w8 ⟨aO, no, cO, rfl, hno, hO, hd8, hm8⟩
            have HD8 := Lib.hid hd8.allK
            have HB8 := Lib.hid (HB7.out.trans (hm8.below (fun b T h => h.1) HB7.out.size))
            have HV8 := Lib.hid (HV7.out.vf hm8)
            have HW8 := Lib.hid (HTX.out.r.snap hm8 rfl)
            have HX8 := Lib.hid (hm8.keep HTX.out.box (VF_no_med _))
            clear hno hO hd8 hm8 HD7 HB7 HV7 HTX HAP
            go_wp2_with fail
            refine (drv_mediumP w8 HD8.out (Nat.le_trans HG.out.len (by decide)) HG.out.short).mono ?_
            rintro e w9 ⟨a9, c9, cs9, k9, rfl, hM9, hc9, hb9⟩
            obtain ⟨hTY, hSY⟩ := TapeO.new (lim : Int) rfl hM9 hc9
            have hzY := heap_alloc_new w9 (.cells #[.int .i64 0, .slice none 0 0] 24)
            have hb10 := bthen hb9 hSY (Nat.le_refl _)
            have HD10 := Lib.hid (HD8.out.ext hb10)
            have HV10 := Lib.hid (HV8.out.ext hb10)
            have HB10 := Lib.hid (bthen HB8.out hb10 (Nat.le_refl _))
            have HW10 := Lib.hid (HW8.out.ext hb10)
            have hx10 := (hb10.block _ (heap_lt HX8.out)).trans HX8.out
            obtain ⟨x0, x1⟩ : _ ∧ _ := ⟨cell_of_row _ GX 0 _ _ _ hx10, cell_of_row _ GX 1 _ _ _ hx10⟩
            clear hb9 hb10 hM9 HD8 HV8 HB8 HW8 HX8 hx10
            go_wp2_with (refine wpList_store_row rfl rfl 24 (.tmp 17) (.tmp 113) rfl w9.heap.size rfl 24 #[.int .i64 0, .slice none 0 0] #[.int .i64 (lim : Int), .slice a9 k9 c9] rfl hzY rfl (by kernel_rfl) (by simp [Value.oneCell']) ?_
                         clear hzY hSY
                         generalize (w9.alloc (.cells #[.int .i64 0, .slice none 0 0] 24)).setRow w9.heap.size #[.int .i64 (lim : Int), .slice a9 k9 c9] = w10 at *
                         generalize w9.heap.size = GY at *
                         have HTY := Lib.hid hTY
                         clear hTY
                         obtain ⟨y0, y1⟩ := HTY.out.box.cells)
            clear x0 x1 y0 y1
            )
          all_goals (
            refine (keepmed_any (lim : Int) (lim : Int) a9 a5 c9 k9 c5 k5 cs9 cs5 true _ HTY.out.r.mat HW10.out.mat HTY.out.r.len.symm HW10.out.len.symm HTY.out.r.len63 HW10.out.len63 (by rw [HTY.out.r.pls, HW10.out.pls]; simp)).mono ?_
            rintro e w11 ⟨rfl, hb11⟩
            have HD11 := Lib.hid (HD10.out.ext hb11)
            have HV11 := Lib.hid (HV10.out.ext hb11)
            have HB11 := Lib.hid (bthen HB10.out hb11 (Nat.le_refl _))
            clear hb11 HD10 HV10 HB10 HW10 HTY
            go_wp2_with fail
            refine (vol_files (F : Int) w11 HV11.out HD11.out HOK.out.ok (by rw [HOK.out.files, HF.out])).mono ?_
            rintro e w12 ⟨rfl, hb12⟩
            have HD12 := Lib.hid (HD11.out.ext hb12)
            have HV12 := Lib.hid (HV11.out.ext hb12)
            have HB12 := Lib.hid (bthen HB11.out hb12 (Nat.le_refl _))
            clear hb12 HD11 HV11 HB11
            go_wp2_with fail
            go_roundw
            case rel => exact ⟨k + 1, gs, 0, _, rfl, by omega, by rw [HF.out], by go_num, HOK.out, HV12.out, HD12.out, HB12.out⟩
            case measure => simp [intOf]; omega)
        · rw [← HF.out] at hap
          have HAP := Lib.hid hap
          have HPK := Lib.hid hpk
          have HOK2 := Lib.hid hok2
          clear hap hpk hok2
          refine (vol_append (F : Int) y.a y.c n y.rs (offsP (recs y.rs)) 0 ((2 + lenA gs + rows.length + 1 : Nat) : Int) PS.new (volT (lim : Int) (lbytes 1 0 0) (gs ++ [rows])) w7 HV7.out HD7.out.zone (ZK.up HB7.out.size (Nat.le_refl _)) HOK.out.ok (fun w' hm => Hrow.out.1.ext (HB7.out.trans (hm.below (fun b T h => h.1) HB7.out.size))) Hn.out hn2 (by omega) HAP.out).mono ?_
          rintro e w8 ⟨aO, no, cO, rfl, hno, hO, hd8, hm8⟩
          have HD8 := Lib.hid hd8.allK
          have HB8 := Lib.hid (HB7.out.trans (hm8.below (fun b T h => h.1) HB7.out.size))
          have HV8 := Lib.hid (HV7.out.vf hm8)
          have HW8 := Lib.hid (HTX.out.r.snap hm8 rfl)
          have HX8 := Lib.hid (hm8.keep HTX.out.box (VF_no_med _))
          clear hno hO hd8 hm8 HD7 HB7 HV7 HTX HAP
          go_wp2_with fail
          refine (drv_mediumP w8 HD8.out (Nat.le_trans HOK2.out.good.len (by decide)) HOK2.out.good.short).mono ?_
          rintro e w9 ⟨a9, c9, cs9, k9, rfl, hM9, hc9, hb9⟩
          have hk9 : k9 = k5 + (rows.length + 1) := by
            have h1 := hM9.size
            rw [volT_len, lenA_snoc] at h1
            have h2 := HA.out
            omega
          have hne := HPK.out.ne
          have hk9l : k9 ≤ lim := by have := HOK2.out.fit; rw [lenA_snoc] at this; have := HA.out; omega
          have hq1 : decide ((k9 : Int) ≤ (k5 : Int) + 1) = false := by simp; omega
          have hw3 : IntKind.i64.wrap ((k9 : Int) - (k5 : Int)) = (k9 : Int) - (k5 : Int) := by rw [IntKind.wrap_i64]; omega
          have hw4 : IntKind.i64.wrap ((k5 : Int) + 1) = (k5 : Int) + 1 := by rw [IntKind.wrap_i64]; omega
          have hw5 : IntKind.i64.wrap ((F : Int) + 1) = (F : Int) + 1 := by rw [IntKind.wrap_i64]; omega
          have hq2 : decide ((k9 : Int) - (k5 : Int) > (lim : Int) - (k5 : Int)) = false := by simp; omega
          have hq3 : (k9 : Int) ≤ (lim : Int) := by omega
          have Hk9 := Lib.hid hk9
          clear hk9 hne hk9l
          obtain ⟨hTY, hSY⟩ := TapeO.new (lim : Int) rfl hM9 hc9
          have hzY := heap_alloc_new w9 (.cells #[.int .i64 0, .slice none 0 0] 24)
          have hb10 := bthen hb9 hSY (Nat.le_refl _)
          have HD10 := Lib.hid (HD8.out.ext hb10)
          have HV10 := Lib.hid (HV8.out.ext hb10)
          have HB10 := Lib.hid (bthen HB8.out hb10 (Nat.le_refl _))
          have HW10 := Lib.hid (HW8.out.ext hb10)
          have hx10 := (hb10.block _ (heap_lt HX8.out)).trans HX8.out
          obtain ⟨x0, x1⟩ : _ ∧ _ := ⟨cell_of_row _ GX 0 _ _ _ hx10, cell_of_row _ GX 1 _ _ _ hx10⟩
          clear hb9 hb10 hM9 HD8 HV8 HB8 HW8 HX8 hx10
          go_wp2_with (refine wpList_store_row rfl rfl 24 (.tmp 17) (.tmp 113) rfl w9.heap.size rfl 24 #[.int .i64 0, .slice none 0 0] #[.int .i64 (lim : Int), .slice a9 k9 c9] rfl hzY rfl (by kernel_rfl) (by simp [Value.oneCell']) ?_
                       clear hzY hSY
                       generalize (w9.alloc (.cells #[.int .i64 0, .slice none 0 0] 24)).setRow w9.heap.size #[.int .i64 (lim : Int), .slice a9 k9 c9] = w10 at *
                       generalize w9.heap.size = GY at *
                       have HTY := Lib.hid hTY
                       clear hTY
                       obtain ⟨y0, y1⟩ := HTY.out.box.cells)
          clear x0 x1 y0 y1
          refine (vol_files ((F : Int) + 1) _ HV10.out HD10.out HOK2.out.ok (by rw [HOK2.out.files, HF.out, List.length_append]; simp)).mono ?_
          rintro e w12 ⟨rfl, hb12⟩
          have HD12 := Lib.hid (HD10.out.ext hb12)
          have HV12 := Lib.hid (HV10.out.ext hb12)
          have HB12 := Lib.hid (bthen HB10.out hb12 (Nat.le_refl _))
          clear hb12 HD10 HV10 HB10 HW10 HTY hq1 hw3 hw4 hq2 hq3
          go_wp2_with fail
          go_roundw
          case rel => exact ⟨k + 1, gs ++ [rows], _, _, rfl, by omega, by rw [HF.out, List.length_append]; simp, by go_num, HOK2.out, HV12.out, HD12.out, HB12.out⟩
          case measure => simp [intOf]; omega
    · obtain rfl : N = k := by omega
      have hw5 : IntKind.i64.wrap ((F : Int) + 1) = ((F + 1 : Nat) : Int) := by rw [IntKind.wrap_i64]; omega
      go_wp2_with fail
      refine (vol_room ((F + 1 : Nat) : Int) (-1) _ HV.out HD.out HOK.out.ok (roomP_vol_no _ _ _ _ (by rw [HF.out]; omega))).mono ?_
      rintro e w12 ⟨rfl, hb12⟩
      have HB12 := Lib.hid (bthen HB.out hb12 (Nat.le_refl _))
      clear hb12 HD HV HB
      go_wp2_with fail
      refine (wakes16_any w12).mono ?_
      rintro e w13 ⟨rfl, hb13⟩
      have HB13 := bthen HB12.out hb13 (Nat.le_refl _)
      clear hb13
      go_wp2
      go_ret
      exact ⟨rfl, HB13⟩
end Go.Proofs.Ytjngfkkbfkoedaa
