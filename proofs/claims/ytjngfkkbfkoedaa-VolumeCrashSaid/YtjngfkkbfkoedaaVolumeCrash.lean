/- The walk of VolumeCrash. -/
import Derived.Test.YtjngfkkbfkoedaaVolumeCrashPartS
import Derived.Test.YtjngfkkbfkoedaaVolumeCrashPartU
import Derived.Test.YtjngfkkbfkoedaaKeepMed
import Derived.Test.YtjngfkkbfkoedaaVolumeCrashPartF
import Derived.Test.YtjngfkkbfkoedaaRecK
import Derived.Test.YtjngfkkbfkoedaaRegionPhase
namespace Go.Proofs.Ytjngfkkbfkoedaa
open Go.RowKit

set_option maxRecDepth 100000 in
set_option maxHeartbeats 16000000 in
theorem volumeCrash_walk (w : World) (zs : Int) (ws : (Lit.int .i64 zs).wf = true) (aL : Option Addr) (cL : Nat) (l : List RRow) (hs : RRMat w aL l) (hl : l.length ≤ 9223372036854775807) (aQ : Option Addr) (cQ : Nat) (lq : List RecV) (hsq : RMat w aQ lq) (hlq : lq.length ≤ 9223372036854775807) (hlcq : lq.length ≤ cQ) (n0 : Int) (wn : (Lit.int .i64 n0).wf = true) (torn : Int) (wt : (Lit.int .i64 torn).wf = true) :
    Calls Try.prog 6 #[.int .i64 zs, .slice aL l.length cL, .slice aQ lq.length cQ, .int .i64 n0, .int .i64 torn] w fun e w' => e = .returned (.bool true) ∧ Below w.heap.size w w' := by
  obtain ⟨N, hN⟩ : ∃ N, N = l.length := ⟨_, rfl⟩
  obtain ⟨NQ, hNQ⟩ : ∃ N, N = lq.length := ⟨_, rfl⟩
  rw [← hN, ← hNQ]
  have HN := Lib.hid hN
  have HNQ := Lib.hid hNQ
  have Hs := Lib.hid hs
  have Hsq := Lib.hid hsq
  have hN2 : N ≤ 9223372036854775807 := by omega
  have hNQ2 : NQ ≤ 9223372036854775807 := by omega
  clear hs hN hl ws wn wt hsq hNQ hlq hlcq
  go_enter Try.func6, Try.ntmps6
  by_cases h1 : zs < 32
  · have e1 : decide (zs < 32) = true := by simpa using h1
    go_wp2
    go_ret
    exact ⟨rfl, Below.refl _ _⟩
  have e1 : decide (zs < 32) = false := by simpa using h1
  by_cases h2 : 256 < zs
  · have e2 : decide (zs > 256) = true := by simpa using h2
    go_wp2
    go_ret
    exact ⟨rfl, Below.refl _ _⟩
  have e2 : decide (zs > 256) = false := by simpa using h2
  by_cases h3 : 5 < N
  · have e3 : decide ((N : Int) > 5) = true := by simp; omega
    go_wp2
    go_ret
    exact ⟨rfl, Below.refl _ _⟩
  have e3 : decide ((N : Int) > 5) = false := by simp; omega
  by_cases h4 : NQ < 1
  · have e4 : decide ((NQ : Int) < 1) = true := by simp; omega
    go_wp2
    go_ret
    exact ⟨rfl, Below.refl _ _⟩
  have e4 : decide ((NQ : Int) < 1) = false := by simp; omega
  obtain ⟨sz, rfl⟩ := Int.eq_ofNat_of_zero_le (show 0 ≤ zs by omega)
  have hsz : 32 ≤ sz ∧ sz ≤ 256 := by omega
  clear h1 h2 h4
  cases hhv : heavy06 lq with
  | true =>
    have Hhv := Lib.hid hhv
    clear hhv
    go_wp2_with fail
    refine (heavy06_at aQ cQ NQ lq true w Hsq.out HNQ.out hNQ2 Hhv.out).mono ?_
    rintro e wz ⟨rfl, rfl⟩
    go_wp2
    go_ret
    exact ⟨rfl, Below.refl _ _⟩
  | false =>
  have Hhv := Lib.hid hhv
  clear hhv
  go_wp2_with fail
  refine (heavy06_at aQ cQ NQ lq false w Hsq.out HNQ.out hNQ2 Hhv.out).mono ?_
  rintro e wz ⟨rfl, rfl⟩
  clear e1 e2 e3 e4
  go_wp2_with fail
  refine (power_new w).mono ?_
  rintro e w1 ⟨g, rfl, hp1, hb1⟩
  go_wp2_with fail
  refine (drv_new (g := g) 400 none 0 0 [] w1 (CMat.nil _ _) rfl (by decide) (by simp) (by rfl)).mono ?_
  rintro e w2 ⟨d, a2, c2, cs2, rfl, h2, hb2⟩
  have HD : Hid (DrvP w.heap.size AllK w2 d g ⟨400, []⟩ 0 PS.new) := Lib.hid ⟨⟨_, _, _, _, h2.mono hb1.size fun _ _ _ => trivial⟩, hp1.ext hb2⟩
  have HB := Lib.hid (bthen hb1 hb2 (Nat.le_refl _))
  clear h2 hp1 hb1 hb2
  go_wp2_with fail
  refine (vol_new (d := d) (sz : Int) w2 (by omega)).mono ?_
  rintro e w3 ⟨vb, rfl, hv3, hb3⟩
  have HV := Lib.hid hv3
  have HB' := Lib.hid (bthen HB.out hb3 (Nat.le_refl _))
  have HD' := Lib.hid (HD.out.ext hb3)
  clear hb3 HB HD
  have HB := HB'
  have HD := HD'
  clear HB' HD'
  clear hv3
  go_wp2_with fail
  refine (vol_format 0 0 0 0 2 PS.new (volT 400 (lbytes 0 0 0) []) w3 HV.out HD.out (Up.all HB.out.size) (by rfl)
    (vFormat_ok (M := ⟨400, []⟩) (show (2 : Int) ≤ 400 by decide) (by decide) (lab_ok _ _ _))).mono ?_
  rintro e w4 ⟨rfl, hd4, hm4⟩
  have HD4 := Lib.hid hd4
  have HB4 := Lib.hid (HB.out.trans (hm4.below (fun b T h => h.1) HB.out.size))
  have HV4 := Lib.hid (HV.out.vf hm4)
  clear hd4 hm4 HD HB HV
  have HOK : Hid (VolOk 400 (lbytes 0 0 0) []) := Lib.hid (volOk_new (by decide))
  go_wp2_with fail
  go_loopw [15, 16] (fun fv iv wr => ∃ (k : Nat) (gs : List (List (List Byte))) (pt : Int) (wx : World), wx = wr ∧ k ≤ N ∧ fv = .int .i64 (gs.length : Int) ∧ iv = .int .i64 (k : Int) ∧ VolOk 400 (lbytes 0 0 0) gs ∧ VolAt wx vb d (sz : Int) ∧ DrvP w.heap.size AllK wx d g (volT 400 (lbytes 0 0 0) gs) pt PS.new ∧ Below w.heap.size w wx) (fun _ iv _ => N - (intOf iv).toNat)
  case atStart => exact ⟨0, [], 2, _, rfl, by omega, rfl, rfl, HOK.out, HV4.out, HD4.out, HB4.out⟩
  case round =>
    obtain ⟨k, gs, pt, wx, hwx, hk, rfl, rfl, hok, hV, hD, hbx⟩ := hrel
    subst hwx
    clear HD4 HB4 HV4 HOK
    have HV := Lib.hid hV
    have HD := Lib.hid hD
    have HB := Lib.hid hbx
    have HOK := Lib.hid hok
    have HG := Lib.hid hok.good
    obtain ⟨F, hF⟩ : ∃ n, n = gs.length := ⟨_, rfl⟩
    have hF400 : F ≤ 400 := by rw [hF]; exact hok.few
    rw [← hF]
    have HGL := Lib.hid hF
    clear hV hD hbx hok hF
    by_cases hkN : k < N
    · have hkl : k < l.length := by rw [← HN.out]; exact hkN
      obtain ⟨rb, ro, rfl, hlr, hat⟩ := Hs.out.at hkl
      have q0 := hat k hkl
      have hrow := Hs.out.ok _ (List.getElem_mem hkl)
      clear hat
      generalize l[k] = y at q0 hrow
      obtain ⟨n, hn⟩ : ∃ n, n = y.rs.length := ⟨_, rfl⟩
      rw [← hn] at q0
      have Hn := Lib.hid hn
      have Hrow := Lib.hid hrow
      have hn2 : n ≤ 9223372036854775807 := by rw [hn]; exact hrow.2.1
      have r0 := (World.cell?_of_block (w := w) (a := ⟨rb, ro + k, none⟩) (HB.out.block rb hlr)).trans q0
      clear hn hrow q0
      by_cases hn1 : n < 1
      · have hn1' : (n : Int) < 1 := by omega
        go_wp2
        go_ret
        exact ⟨rfl, HB.out⟩
      have hn1' : ¬ (n : Int) < 1 := by omega
      cases hhv2 : heavy06 y.rs with
      | true =>
        have Hhv2 := Lib.hid hhv2
        clear hhv2
        go_wp2_with fail
        refine (heavy06_at y.a y.c n y.rs true wx (Hrow.out.1.ext HB.out) Hn.out hn2 Hhv2.out).mono ?_
        rintro e wz ⟨rfl, rfl⟩
        go_wp2
        go_ret
        exact ⟨rfl, HB.out⟩
      | false =>
        have Hhv2 := Lib.hid hhv2
        clear hhv2
        go_wp2_with fail
        refine (heavy06_at y.a y.c n y.rs false wx (Hrow.out.1.ext HB.out) Hn.out hn2 Hhv2.out).mono ?_
        rintro e wz ⟨rfl, rfl⟩
        go_wp2_with fail
        clear r0
        rcases vAppend_all (size := (sz : Int)) (at_ := pt) (l := recs y.rs) HOK.out with ⟨E, hap, hE⟩ | ⟨rows, hap, hpk, hok2⟩
        · rw [← HGL.out] at hap
          have HAP := Lib.hid hap
          have e0 : (E == 0) = false := by rcases hE with rfl | rfl | rfl <;> decide
          clear hap hE
          refine (vol_append (F : Int) y.a y.c n y.rs [] E 0 PS.new (volT 400 (lbytes 0 0 0) gs) wx HV.out HD.out (Up.all HB.out.size) HOK.out.ok (fun w' hm => Hrow.out.1.ext (HB.out.trans (hm.below (fun b T h => h.1) HB.out.size))) Hn.out hn2 (by omega) HAP.out).mono ?_
          rintro e w8 ⟨aO, no, cO, rfl, hno, hO, hd8, hm8⟩
          have HD8 := Lib.hid hd8
          have HB8 := Lib.hid (HB.out.trans (hm8.below (fun b T h => h.1) HB.out.size))
          have HV8 := Lib.hid (HV.out.vf hm8)
          clear hno hO hd8 hm8 HD HB HV HAP
          go_wp2_with fail
          go_roundw
          case rel => exact ⟨k + 1, gs, 0, _, rfl, by omega, by rw [HGL.out], by go_num, HOK.out, HV8.out, HD8.out, HB8.out⟩
          case measure => simp [intOf]; omega
        · rw [← HGL.out] at hap
          have HAP := Lib.hid hap
          have HOK2 := Lib.hid hok2
          have hw5 : IntKind.i64.wrap ((F : Int) + 1) = (F : Int) + 1 := by rw [IntKind.wrap_i64]; omega
          clear hap hpk hok2
          refine (vol_append (F : Int) y.a y.c n y.rs (offsP (recs y.rs)) 0 ((2 + lenA gs + rows.length + 1 : Nat) : Int) PS.new (volT 400 (lbytes 0 0 0) (gs ++ [rows])) wx HV.out HD.out (Up.all HB.out.size) HOK.out.ok (fun w' hm => Hrow.out.1.ext (HB.out.trans (hm.below (fun b T h => h.1) HB.out.size))) Hn.out hn2 (by omega) HAP.out).mono ?_
          rintro e w8 ⟨aO, no, cO, rfl, hno, hO, hd8, hm8⟩
          have HD8 := Lib.hid hd8
          have HB8 := Lib.hid (HB.out.trans (hm8.below (fun b T h => h.1) HB.out.size))
          have HV8 := Lib.hid (HV.out.vf hm8)
          clear hno hO hd8 hm8 HD HB HV HAP
          go_wp2_with fail
          go_roundw
          case rel => exact ⟨k + 1, gs ++ [rows], _, _, rfl, by omega, by rw [HGL.out, List.length_append]; simp, by go_num, HOK2.out, HV8.out, HD8.out, HB8.out⟩
          case measure => simp [intOf]; omega
    · obtain rfl : N = k := by omega
      clear hk hkN h3
      go_wp2_with fail
      refine (drv_snap wx HD.out (Nat.le_trans HG.out.len (by decide)) HG.out.short).mono ?_
      rintro e w5 ⟨aW, cW, csW, kW, rfl, hM5, hc5, hD5, hb5⟩
      obtain ⟨hTX, hSX⟩ := TapeO.new 400 rfl hM5 hc5
      have hzX := heap_alloc_new w5 (.cells #[.int .i64 0, .slice none 0 0] 24)
      have hb7 := hSX
      have HD7 := Lib.hid ((hD5.ext hb7))
      have HV7 := Lib.hid (HV.out.ext (bthen hb5 hb7 (Nat.le_refl _)))
      have HB7 := Lib.hid (bthen (bthen HB.out hb5 (Nat.le_refl _)) hb7 (Nat.le_refl _))
      obtain ⟨kn, hkn, en⟩ := umod n0 30 (by decide) (by decide)
      obtain ⟨N1, hN1⟩ : ∃ n : Nat, n = 1 + kn := ⟨_, rfl⟩
      have hw1 : IntKind.i64.wrap (1 + (kn : Int)) = (N1 : Int) := by rw [IntKind.wrap_i64]; omega
      have hN1b : 1 ≤ N1 ∧ N1 ≤ 31 := by omega
      clear hb7 hb5 hM5 hD5 HD HV HB hN1
      go_wp2_with (refine wpList_store_row rfl rfl 24 (.tmp 19) (.tmp 111) rfl w5.heap.size rfl 24 #[.int .i64 0, .slice none 0 0] #[.int .i64 400, .slice aW kW cW] rfl hzX rfl (by kernel_rfl) (by simp [Value.oneCell']) ?_
                   clear hzX hSX
                   generalize (w5.alloc (.cells #[.int .i64 0, .slice none 0 0] 24)).setRow w5.heap.size #[.int .i64 400, .slice aW kW cW] = w7 at *
                   generalize w5.heap.size = GX at *
                   have HTX := Lib.hid hTX
                   clear hTX)
      have HW7 := Lib.hid HTX.out.r
      have HX7 := Lib.hid HTX.out.box
      have HDZ := Lib.hid HD7.out.zone
      have HU7 := Lib.hid (ZK.up (n := wx.heap.size) (m := w7.heap.size) HB7.out.size (Nat.le_refl _))
      clear HTX HD7 hw1 en
      obtain ⟨s1, hs1⟩ : ∃ s1, PS.new.arm (N1 : Int) [] torn = s1 := ⟨_, rfl⟩
      have Hs1 : Hid (s1.off = false ∧ s1.life = 0) := Lib.hid (by rw [← hs1]; exact ⟨rfl, rfl⟩)
      refine (drv_trip (N1 : Int) torn s1 w7 HDZ.out (by omega) hs1).mono ?_
      clear hs1
      rintro e w8 ⟨rfl, hd8, hm8⟩
      have HD8 := Lib.hid hd8
      have HM8 := Lib.hid hm8
      have HV8 := Lib.hid (HV7.out.vf hm8)
      have HU8 := Lib.hid (HU7.out.grow hm8.size)
      have HB8 := Lib.hid (HB7.out.trans (hm8.below (fun b T h => h.1) HB7.out.size))
      clear hd8 hm8 HDZ HV7 HU7 HB7
      rcases vAppend_cut (size := (sz : Int)) (at_ := pt) (l := recs lq) HOK.out Hs1.out.1 with ⟨E, hap, hE⟩ | ⟨of, E, s2, M2, a2, hap, hE, hlife, hsame, hok2⟩
      · rw [← HGL.out] at hap
        have HAP := Lib.hid hap
        clear hap
        go_wp2_with fail
        refine (vol_append (F : Int) aQ cQ NQ lq [] E 0 s1 (volT 400 (lbytes 0 0 0) gs) w8 HV8.out HD8.out HU8.out HOK.out.ok (fun w' hm => Hsq.out.ext (HB8.out.trans (hm.below (fun b T h => h.1) HB8.out.size))) HNQ.out hNQ2 (by omega) HAP.out).mono ?_
        rintro e w9 ⟨aO, no, cO, rfl, hno, hO, hd9, hm9⟩
        have HD9 := Lib.hid hd9
        have HM9 := Lib.hid (HM8.out.trans hm9)
        have HB9 := Lib.hid (HB8.out.trans (hm9.below (fun b T h => h.1) HB8.out.size))
        clear hno hO hd9 hm9 HD8 HM8 HV8 HU8 HB8 HAP
        go_wp2_with fail
        refine (drv_offK w9 HD9.out Hs1.out.1).mono ?_
        rintro e wz ⟨rfl, rfl⟩
        have HW := Lib.hid (HW7.out.snap HM9.out rfl)
        have hx9 := HM9.out.keep HX7.out (VF_no_med _)
        have hlX := heap_lt hx9
        have x0 : w9.cell? ⟨GX, 0, none⟩ = some (.int .i64 400) := cell_of_row _ GX 0 _ _ _ hx9
        have x1 : w9.cell? ⟨GX, 1, none⟩ = some (.slice aW kW cW) := cell_of_row _ GX 1 _ _ _ hx9
        have HD := HD9
        clear hx9 HD9 HM9
        have e5 : (E == 5) = false := by rcases hE with rfl | rfl | rfl <;> decide
        have e6 : (E != 0) = true := by rcases hE with rfl | rfl | rfl <;> decide
        have e7 : (E != 5) = true := by rcases hE with rfl | rfl | rfl <;> decide
        clear hE
        go_wp2_with fail
        refine wp_region_phase (by kernel_rfl) [] (by kernel_rfl) (by kernel_rfl) ?_
        refine stage_last [Sp.eq (.pointer (some ⟨d, 0, none⟩)), Sp.eq (.pointer (some ⟨d, 0, none⟩)), Sp.eq (.pointer (some ⟨d, 0, none⟩)), ⟨AnsM w9.heap.size (volT 400 (lbytes 0 0 0) gs), fun _ _ _ ⟨a, k, c, cs, e, h, hk⟩ hb => ⟨a, k, c, cs, e, h.ext hb, hk⟩⟩, Sp.eq (.agg #[.int .i64 400, .slice aW kW cW]), Sp.eq (.bool true), Sp.eq (.bool true), Sp.eq (.bool true), Sp.eq (.bool true), Sp.eq (.bool true)] ?_ ?_
        · refine stepsG_cons ?_ (stepsG_cons ?_ (stepsG_cons ?_ (stepsG_cons ?_ (stepsG_cons ?_ (stepsG_cons ?_ (stepsG_cons ?_ (stepsG_cons ?_ (stepsG_cons ?_ (stepsG_cons ?_ (stepsG_nil))))))))))
          · intro ρ w' E
            have e12 : ρ (.tmp 12) = .pointer (some ⟨d, 0, none⟩) := E.out 12 rfl
            refine step_plain rfl ?_
            exact op_move (.inl rfl) e12 ⟨Below.refl _ _, rfl⟩
          · intro ρ w' E
            have e138 : ρ (.tmp 138) = .pointer (some ⟨d, 0, none⟩) := E.pre 0 rfl rfl
            refine step_plain rfl ?_
            refine op_val (v := .pointer (some ⟨d, 0, none⟩)) (w' := w') ?_ ⟨Below.refl _ _, rfl⟩
            have hcon := E.con
            clear E
            go_simp
          · intro ρ w' E
            have e139 : ρ (.tmp 139) = .pointer (some ⟨d, 0, none⟩) := E.pre 1 rfl rfl
            refine step_plain rfl ?_
            refine op_val (v := .pointer (some ⟨d, 0, none⟩)) (w' := w') ?_ ⟨Below.refl _ _, rfl⟩
            have hcon := E.con
            clear E
            go_simp
          · intro ρ w' E
            have e140 : ρ (.tmp 140) = .pointer (some ⟨d, 0, none⟩) := E.pre 2 rfl rfl
            refine step_plain rfl ?_
            refine op_call (f := 16) (args := #[.pointer (some ⟨d, 0, none⟩)]) (w' := w') (by have hcon := E.con; have hfn := E.fn; clear E; go_simp) ?_
            refine (drv_mediumP w' (HD.out.ext E.below) (Nat.le_trans HG.out.len (by decide)) HG.out.short).mono ?_
            rintro e w2 ⟨aX, cX, csX, kX, rfl, hMX, hcX, hb⟩
            exact ⟨_, rfl, hb, aX, kX, cX, csX, rfl, hMX.mono E.below.size, hcX⟩
          · intro ρ w' E
            have e19 : ρ (.tmp 19) = .pointer (some ⟨GX, 0, none⟩) := E.out 19 rfl
            refine step_plain rfl ?_
            refine op_val (v := .agg #[.int .i64 400, .slice aW kW cW]) (w' := w') ?_ ⟨Below.refl _ _, rfl⟩
            have k1 := (World.cell?_of_block (w := w9) (E.below.block _ hlX)).trans x0
            have k2 := (World.cell?_of_block (w := w9) (E.below.block _ hlX)).trans x1
            have hcon := E.con
            clear E x0 x1
            go_simp
          · intro ρ w' E
            have p141 : (AnsM w9.heap.size (volT 400 (lbytes 0 0 0) gs)) w' (ρ (.tmp 141)) := E.pre 3 rfl rfl
            have e142 : ρ (.tmp 142) = .agg #[.int .i64 400, .slice aW kW cW] := E.pre 4 rfl rfl
            refine step_plain rfl ?_
            obtain ⟨aX, kX, cX, csX, e5, hMX, hcX⟩ := p141
            refine op_call (f := 15) (args := #[.agg #[.int .i64 400, .slice aX kX cX], .agg #[.int .i64 400, .slice aW kW cW]]) (w' := w') (by have hcon := E.con; have hfn := E.fn; have hcp : (volT 400 (lbytes 0 0 0) gs).cap = 400 := rfl; clear E x0 x1; go_simp) ?_
            refine (keepmed_any 400 400 aX aW cX kX cW kW csX csW true w' hMX.mat (HW.out.ext E.below).mat hMX.len.symm HW.out.len.symm hMX.len63 HW.out.len63 (by rw [hMX.pls, HW.out.pls]; simp)).mono ?_
            rintro e w2 ⟨rfl, hb⟩
            exact ⟨_, rfl, hb, rfl⟩
          · intro ρ w' E
            have e143 : ρ (.tmp 143) = .bool true := E.pre 5 rfl rfl
            refine step_plain rfl ?_
            exact op_move (.inl rfl) e143 ⟨Below.refl _ _, rfl⟩
          · intro ρ w' E
            refine step_yes rfl (E.pre 6 rfl rfl) ?_
            refine op_call (f := 11) (args := #[]) (w' := w') (by have hcon := E.con; have hfn := E.fn; clear E; go_simp) ?_
            refine (wakes16_any w').mono ?_
            rintro e w2 ⟨rfl, hb⟩
            exact ⟨_, rfl, hb, rfl⟩
          · intro ρ w' E
            have e144 : ρ (.tmp 144) = .bool true := E.pre 6 rfl rfl
            have e145 : ρ (.tmp 145) = .bool true := E.pre 7 rfl rfl
            refine step_plain rfl ?_
            exact op_pick (b := true) rfl e144 rfl ⟨Below.refl _ _, e145⟩
          · intro ρ w' E
            have e146 : ρ (.tmp 146) = .bool true := E.pre 8 rfl rfl
            refine step_plain rfl ?_
            exact op_move (.inr rfl) e146 ⟨Below.refl _ _, rfl⟩
        · intro σF wF GF OF HF
          have s10 : σF 10 = .bool true := HF 9 rfl rfl
          clear OF
          simp only [upd, updL, dstsOf', elemB, List.filterMap_cons, List.filterMap_nil, Nat.reduceAdd, Nat.reduceBEq, Bool.or_false, Bool.false_or, Bool.or_true, Bool.true_or, cond_true, cond_false, Nat.zero_add, s10]
          have HBF := bthen HB9.out GF (Nat.le_refl _)
          clear GF
          go_wp2
          go_ret
          exact ⟨rfl, HBF⟩
      · rw [← HGL.out] at hap
        have HAP := Lib.hid hap
        have HSM := Lib.hid hsame
        have HMO := Lib.hid hok2
        have HL2 := Lib.hid (hlife.trans Hs1.out.2)
        clear hap hsame hok2 hlife
        go_wp2_with fail
        refine (vol_append (F : Int) aQ cQ NQ lq of E a2 s2 M2 w8 HV8.out HD8.out HU8.out HOK.out.ok (fun w' hm => Hsq.out.ext (HB8.out.trans (hm.below (fun b T h => h.1) HB8.out.size))) HNQ.out hNQ2 (by omega) HAP.out).mono ?_
        rintro e w9 ⟨aO, no, cO, rfl, hno, hO, hd9, hm9⟩
        have HD9 := Lib.hid hd9
        have HM9 := Lib.hid (HM8.out.trans hm9)
        have HV9 := Lib.hid (HV8.out.vf hm9)
        have HU9 := Lib.hid (HU8.out.grow hm9.size)
        have HB9 := Lib.hid (HB8.out.trans (hm9.below (fun b T h => h.1) HB8.out.size))
        clear hno hO hd9 hm9 HD8 HM8 HV8 HU8 HB8 HAP
        have hE2 : ∃ r : Bool, s2.off = r ∧ (E = 0 ∧ r = false ∨ E = 5 ∧ r = true) := by
          rcases hE with ⟨h1, h2⟩ | ⟨h1, h2⟩
          · exact ⟨false, h2, .inl ⟨h1, rfl⟩⟩
          · exact ⟨true, h2, .inr ⟨h1, rfl⟩⟩
        obtain ⟨r, hr, hE3⟩ := hE2
        have Hr := Lib.hid hr
        obtain ⟨s3, hs3⟩ : ∃ s3, (s2.arm 0 [] (-1)).start = s3 := ⟨_, rfl⟩
        have hs3t := start_trip (s2.arm 0 [] (-1)) (arm_off_none s2 (-1)).1
        rw [hs3] at hs3t
        obtain ⟨atT, htr⟩ := vTrim_back (at_ := a2) hs3t.2 hs3t.1 HSM.out
        obtain ⟨atU, htu⟩ := vTrim_back (at_ := atT) hs3t.2 hs3t.1 (SameTo.refl (M := volT 400 (lbytes 0 0 0) gs) (p := 2 + lenA gs) (by rw [volT_len]; exact Nat.le_refl _))
        rw [← HGL.out] at htr htu
        have HTR := Lib.hid htr
        have HTU := Lib.hid htu
        have Hs3 := Lib.hid hs3
        clear hE hr hs3 hs3t htr htu
        go_wp2_with fail
        refine (drv_offK w9 HD9.out Hr.out).mono ?_
        rintro e wz ⟨rfl, rfl⟩
        have hsplit : (r = false ∧ E = 0) ∨ (r = true ∧ E = 5) := by rcases hE3 with h | h <;> simp [h]
        clear hE3
        have hgo : ∀ {P : Prop}, P → P := fun h => h
        rcases hsplit with ⟨rfl, rfl⟩ | ⟨rfl, rfl⟩
        all_goals (
          go_wp2_with fail
          refine (drv_trip 0 (-1) (s2.arm 0 [] (-1)) w9 HD9.out (by decide) rfl).mono ?_
          rintro e w10 ⟨rfl, hd10, hm10⟩
          have HD10 := Lib.hid hd10
          have HM10 := Lib.hid (HM9.out.trans hm10)
          have HV10 := Lib.hid (HV9.out.vf hm10)
          have HU10 := Lib.hid (HU9.out.grow hm10.size)
          have HB10 := Lib.hid (HB9.out.trans (hm10.below (fun b T h => h.1) HB9.out.size))
          clear hd10 hm10 HD9 HM9 HV9 HU9 HB9
          go_wp2_with fail
          refine (drv_startK w10 HD10.out Hs3.out (by show (0 : Int) ≤ s2.life; rw [HL2.out]; decide) (by show s2.life ≤ (_ : Int); rw [HL2.out]; decide)).mono ?_
          rintro e w11 ⟨rfl, hd11, hm11⟩
          have HD := Lib.hid hd11
          have HM := Lib.hid (HM10.out.trans hm11)
          have HV := Lib.hid (HV10.out.vf hm11)
          have HU := Lib.hid (HU10.out.grow hm11.size)
          have HB := Lib.hid (HB10.out.trans (hm11.below (fun b T h => h.1) HB10.out.size))
          clear hd11 hm11 HD10 HM10 HV10 HU10 HB10
          go_wp2_with fail
          refine wp_region_phase (by kernel_rfl) [2] (by kernel_rfl) (by kernel_rfl) ?_
          refine stage_more [Sp.eq (.pointer (some ⟨vb, 0, none⟩)), Sp.eq (.int .i64 (F : Int))] rfl ?_ ?_
          · refine stepsG_cons ?_ (stepsG_cons ?_ (stepsG_nil))
            · intro ρ w' E
              have e14 : ρ (.tmp 14) = .pointer (some ⟨vb, 0, none⟩) := E.out 14 rfl
              refine step_plain rfl ?_
              exact op_move (.inl rfl) e14 ⟨Below.refl _ _, rfl⟩
            · intro ρ w' E
              have e15 : ρ (.tmp 15) = .int .i64 (F : Int) := E.out 15 rfl
              refine step_plain rfl ?_
              exact op_move (.inl rfl) e15 ⟨Below.refl _ _, rfl⟩
          · intro σ1 ρ1 w1c E1 O1 H1
            have e151 : ρ1 (.tmp 151) = .pointer (some ⟨vb, 0, none⟩) := E1.pre 0 rfl rfl
            have e152 : ρ1 (.tmp 152) = .int .i64 (F : Int) := E1.pre 1 rfl rfl
            refine step_plain rfl ?_
            refine op_call (f := 29) (args := #[.pointer (some ⟨vb, 0, none⟩), .int .i64 (F : Int)]) (w' := w1c) (by have hcon := E1.con; have hfn := E1.fn; clear E1; go_simp) ?_
            refine (vol_trim (F : Int) 0 atT s3 (volT 400 (lbytes 0 0 0) gs) w1c (HV.out.ext E1.below) (HD.out.ext E1.below) (HU.out.grow E1.below.size) HMO.out (by omega) HTR.out).mono ?_
            rintro e wT ⟨rfl, hdT, hmT⟩
            have HDT := Lib.hid hdT
            have HMT := Lib.hid ((HM.out.trans (bmod E1.below _)).trans hmT)
            have HVT := Lib.hid ((HV.out.ext E1.below).vf hmT)
            have HUT := Lib.hid ((HU.out.grow E1.below.size).grow hmT.size)
            have hbe := bthen HB.out E1.below (Nat.le_refl _)
            have HBT := Lib.hid (hbe.trans (hmT.below (fun b T h => h.1) hbe.size))
            have HWT := Lib.hid (HW7.out.snap HMT.out rfl)
            have hxT := HMT.out.keep HX7.out (VF_no_med _)
            have hlX := heap_lt hxT
            have x0 : wT.cell? ⟨GX, 0, none⟩ = some (.int .i64 400) := cell_of_row _ GX 0 _ _ _ hxT
            have x1 : wT.cell? ⟨GX, 1, none⟩ = some (.slice aW kW cW) := cell_of_row _ GX 1 _ _ _ hxT
            clear hdT hmT hbe hxT
            refine ⟨_, rfl, ?_⟩
            refine stage_last [Sp.eq (.bool false), Sp.eq (.bool false), Sp.eq (.pointer (some ⟨d, 0, none⟩)), Sp.eq (.pointer (some ⟨d, 0, none⟩)), Sp.eq (.pointer (some ⟨d, 0, none⟩)), ⟨AnsM wT.heap.size (volT 400 (lbytes 0 0 0) gs), fun _ _ _ ⟨a, k, c, cs, e, h, hk⟩ hb => ⟨a, k, c, cs, e, h.ext hb, hk⟩⟩, Sp.eq (.agg #[.int .i64 400, .slice aW kW cW]), Sp.eq (.bool true), Sp.eq (.bool false), Sp.eq (.bool false), Sp.eq (.bool false), Sp.eq (.pointer (some ⟨vb, 0, none⟩)), Sp.eq (.int .i64 (F : Int)), Sp.eq (.int .i64 (F : Int)), Sp.eq (.bool false), Sp.eq (.bool false)] ?_ ?_
            · refine stepsG_cons ?_ (stepsG_cons ?_ (stepsG_cons ?_ (stepsG_cons ?_ (stepsG_cons ?_ (stepsG_cons ?_ (stepsG_cons ?_ (stepsG_cons ?_ (stepsG_cons ?_ (stepsG_cons ?_ (stepsG_cons ?_ (stepsG_cons ?_ (stepsG_cons ?_ (stepsG_cons ?_ (stepsG_cons ?_ (stepsG_cons ?_ (stepsG_nil))))))))))))))))
              · intro ρ w' E
                have e153 : ρ (.tmp 153) = .int .i64 0 := (E.old 2 153 rfl rfl).trans rfl
                refine step_plain rfl ?_
                refine op_val (v := .bool false) (w' := w') ?_ ⟨Below.refl _ _, rfl⟩
                have hcon := E.con
                clear E
                go_simp
              · intro ρ w' E
                have e154 : ρ (.tmp 154) = .bool false := E.pre 3 rfl rfl
                refine step_plain rfl ?_
                exact op_move (.inl rfl) e154 ⟨Below.refl _ _, rfl⟩
              · intro ρ w' E
                have e12 : ρ (.tmp 12) = .pointer (some ⟨d, 0, none⟩) := E.out 12 rfl
                refine step_yes rfl (E.pre 4 rfl rfl) ?_
                exact op_move (.inl rfl) e12 ⟨Below.refl _ _, rfl⟩
              · intro ρ w' E
                have e156 : ρ (.tmp 156) = .pointer (some ⟨d, 0, none⟩) := E.pre 5 rfl rfl
                refine step_yes rfl (E.pre 4 rfl rfl) ?_
                refine op_val (v := .pointer (some ⟨d, 0, none⟩)) (w' := w') ?_ ⟨Below.refl _ _, rfl⟩
                have hcon := E.con
                clear E
                go_simp
              · intro ρ w' E
                have e157 : ρ (.tmp 157) = .pointer (some ⟨d, 0, none⟩) := E.pre 6 rfl rfl
                refine step_yes rfl (E.pre 4 rfl rfl) ?_
                refine op_val (v := .pointer (some ⟨d, 0, none⟩)) (w' := w') ?_ ⟨Below.refl _ _, rfl⟩
                have hcon := E.con
                clear E
                go_simp
              · intro ρ w' E
                have e158 : ρ (.tmp 158) = .pointer (some ⟨d, 0, none⟩) := E.pre 7 rfl rfl
                refine step_yes rfl (E.pre 4 rfl rfl) ?_
                refine op_call (f := 16) (args := #[.pointer (some ⟨d, 0, none⟩)]) (w' := w') (by have hcon := E.con; have hfn := E.fn; clear E; go_simp) ?_
                refine (drv_mediumP w' (HDT.out.ext E.below) (Nat.le_trans HG.out.len (by decide)) HG.out.short).mono ?_
                rintro e w2 ⟨aX, cX, csX, kX, rfl, hMX, hcX, hb⟩
                exact ⟨_, rfl, hb, aX, kX, cX, csX, rfl, hMX.mono E.below.size, hcX⟩
              · intro ρ w' E
                have e19 : ρ (.tmp 19) = .pointer (some ⟨GX, 0, none⟩) := E.out 19 rfl
                refine step_yes rfl (E.pre 4 rfl rfl) ?_
                refine op_val (v := .agg #[.int .i64 400, .slice aW kW cW]) (w' := w') ?_ ⟨Below.refl _ _, rfl⟩
                have k1 := (World.cell?_of_block (w := wT) (E.below.block _ hlX)).trans x0
                have k2 := (World.cell?_of_block (w := wT) (E.below.block _ hlX)).trans x1
                have hcon := E.con
                clear E x0 x1
                go_simp
              · intro ρ w' E
                have p159 : (AnsM wT.heap.size (volT 400 (lbytes 0 0 0) gs)) w' (ρ (.tmp 159)) := E.pre 8 rfl rfl
                have e160 : ρ (.tmp 160) = .agg #[.int .i64 400, .slice aW kW cW] := E.pre 9 rfl rfl
                refine step_yes rfl (E.pre 4 rfl rfl) ?_
                obtain ⟨aX, kX, cX, csX, e5, hMX, hcX⟩ := p159
                refine op_call (f := 15) (args := #[.agg #[.int .i64 400, .slice aX kX cX], .agg #[.int .i64 400, .slice aW kW cW]]) (w' := w') (by have hcon := E.con; have hfn := E.fn; have hcp : (volT 400 (lbytes 0 0 0) gs).cap = 400 := rfl; clear E x0 x1; go_simp) ?_
                refine (keepmed_any 400 400 aX aW cX kX cW kW csX csW true w' hMX.mat (HWT.out.ext E.below).mat hMX.len.symm HWT.out.len.symm hMX.len63 HWT.out.len63 (by rw [hMX.pls, HWT.out.pls]; simp)).mono ?_
                rintro e w2 ⟨rfl, hb⟩
                exact ⟨_, rfl, hb, rfl⟩
              · intro ρ w' E
                have e161 : ρ (.tmp 161) = .bool true := E.pre 10 rfl rfl
                refine step_yes rfl (E.pre 4 rfl rfl) ?_
                refine op_val (v := .bool false) (w' := w') ?_ ⟨Below.refl _ _, rfl⟩
                have hcon := E.con
                clear E
                go_simp
              · intro ρ w' E
                have e155 : ρ (.tmp 155) = .bool false := E.pre 4 rfl rfl
                have e162 : ρ (.tmp 162) = .bool false := E.pre 11 rfl rfl
                refine step_plain rfl ?_
                exact op_pick (b := false) rfl e155 rfl ⟨Below.refl _ _, e162⟩
              · intro ρ w' E
                have e163 : ρ (.tmp 163) = .bool false := E.pre 12 rfl rfl
                refine step_plain rfl ?_
                exact op_move (.inl rfl) e163 ⟨Below.refl _ _, rfl⟩
              · intro ρ w' E
                have e14 : ρ (.tmp 14) = .pointer (some ⟨vb, 0, none⟩) := E.out 14 rfl
                refine step_yes rfl (E.pre 13 rfl rfl) ?_
                exact op_move (.inl rfl) e14 ⟨Below.refl _ _, rfl⟩
              · intro ρ w' E
                have e165 : ρ (.tmp 165) = .pointer (some ⟨vb, 0, none⟩) := E.pre 14 rfl rfl
                refine step_yes rfl (E.pre 13 rfl rfl) ?_
                refine op_call (f := 18) (args := #[.pointer (some ⟨vb, 0, none⟩)]) (w' := w') (by have hcon := E.con; have hfn := E.fn; clear E; go_simp) ?_
                refine (vol_files (F : Int) w' (HVT.out.ext E.below) (HDT.out.ext E.below) HOK.out.ok (by rw [HOK.out.files, HGL.out])).mono ?_
                rintro e w2 ⟨rfl, hb⟩
                exact ⟨_, rfl, hb, rfl⟩
              · intro ρ w' E
                have e15 : ρ (.tmp 15) = .int .i64 (F : Int) := E.out 15 rfl
                refine step_yes rfl (E.pre 13 rfl rfl) ?_
                exact op_move (.inl rfl) e15 ⟨Below.refl _ _, rfl⟩
              · intro ρ w' E
                have e166 : ρ (.tmp 166) = .int .i64 (F : Int) := E.pre 15 rfl rfl
                have e167 : ρ (.tmp 167) = .int .i64 (F : Int) := E.pre 16 rfl rfl
                refine step_yes rfl (E.pre 13 rfl rfl) ?_
                refine op_val (v := .bool false) (w' := w') ?_ ⟨Below.refl _ _, rfl⟩
                have hcon := E.con
                clear E
                go_simp
              · intro ρ w' E
                have e164 : ρ (.tmp 164) = .bool false := E.pre 13 rfl rfl
                have e168 : ρ (.tmp 168) = .bool false := E.pre 17 rfl rfl
                refine step_plain rfl ?_
                exact op_pick (b := false) rfl e164 rfl ⟨Below.refl _ _, e168⟩
            · intro σF wF GF OF HF
              have s169 : σF 169 = .bool false := HF 18 rfl rfl
              clear H1 O1 OF HF E1
              simp only [upd, updL, dstsOf', elemB, List.filterMap_cons, List.filterMap_nil, Nat.reduceAdd, Nat.reduceBEq, Bool.or_false, Bool.false_or, Bool.or_true, Bool.true_or, cond_true, cond_false, Nat.zero_add, s169]
              have HDF := Lib.hid (HDT.out.ext GF)
              have HVF := Lib.hid (HVT.out.ext GF)
              have HUF := Lib.hid (HUT.out.grow GF.size)
              have HBF := Lib.hid (bthen HBT.out GF (Nat.le_refl _))
              clear GF HDT HVT HUT HBT HWT HMT x0 x1 s169
              go_wp2_with fail
              refine (vol_trim (F : Int) 0 atU s3 (volT 400 (lbytes 0 0 0) gs) wF HVF.out HDF.out HUF.out HOK.out.ok (by omega) HTU.out).mono ?_
              rintro e w15 ⟨rfl, hd15, hm15⟩
              have HB15 := Lib.hid (HBF.out.trans (hm15.below (fun b T h => h.1) HBF.out.size))
              clear hd15 hm15 HDF HVF HUF HBF
              go_wp2_with fail
              refine (wakes16_any w15).mono ?_
              rintro e w16 ⟨rfl, hb16⟩
              have HB16 := bthen HB15.out hb16 (Nat.le_refl _)
              clear hb16
              go_wp2
              go_ret
              exact ⟨rfl, HB16⟩)
end Go.Proofs.Ytjngfkkbfkoedaa
