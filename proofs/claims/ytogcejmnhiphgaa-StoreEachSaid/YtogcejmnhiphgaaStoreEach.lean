/- The walk of StoreEach. -/
import Derived.Test.YtogcejmnhiphgaaStoreWakes
import Derived.Test.YtogcejmnhiphgaaStoreTrip
namespace Go.Proofs.Ytogcejmnhiphgaa
open Go.RowKit

set_option maxRecDepth 100000 in
set_option maxHeartbeats 16000000 in
theorem storeEach_walk (w : World) (aa : Option Addr) (ca : Nat) (la : List Byte) (hsa : Src w aa (bvs la)) (hal : la.length ≤ 9223372036854775807) (hac : la.length ≤ ca) (ab : Option Addr) (cb : Nat) (lb : List Byte) (hsb : Src w ab (bvs lb)) (hbl : lb.length ≤ 9223372036854775807) (hbc : lb.length ≤ cb) (T : Int) (wT : (Lit.int .i64 T).wf = true) :
    Calls Try.prog 12 #[.slice aa la.length ca, .slice ab lb.length cb, .int .i64 T] w fun e w' => e = .returned (.bool true) ∧ Below w.heap.size w w' := by
  obtain ⟨M, hM⟩ : ∃ M, M = la.length := ⟨_, rfl⟩
  obtain ⟨L, hL⟩ : ∃ L, L = lb.length := ⟨_, rfl⟩
  rw [← hM, ← hL]
  clear wT
  by_cases hheavy : M ≤ 600 ∧ L ≤ 600
  · obtain ⟨h6, h5⟩ := hheavy
    have hMc : M ≤ ca := by omega
    have hLc : L ≤ cb := by omega
    have HM := Lib.hid hM
    have HL := Lib.hid hL
    have Ha := Lib.hid hsa
    have Hb := Lib.hid hsb
    clear hM hL hsa hsb hal hbl hac hbc
    obtain ⟨ib, hi, hz0, hz1, hz2⟩ := info_parts infoBool
    go_enter Try.func12, Try.ntmps12
    go_wp2_with fail
    go_loopw [7] (fun i wr => ∃ (n : Nat), 1 ≤ n ∧ n ≤ 41 ∧ i = .int .i64 (n : Int) ∧ Below w.heap.size w wr) (fun i _ => 41 - (intOf i).toNat)
    case atStart => exact ⟨1, by omega, by omega, rfl, Below.refl _ _⟩
    case round =>
      rename_i wr
      obtain ⟨n, hn1, hn2, rfl, hbr⟩ := hrel
      by_cases hlt : n ≤ 40
      · have htt : decide ((n : Int) ≤ 40) = true := by simp; omega
        go_wp2_with fail
        go_loopw [8, 9] (fun ov i wx => ∃ (j : Nat) (o : Bool) (wz : World), wz = wx ∧ j ≤ 4 ∧ ov = .bool o ∧ i = .int .i64 (j : Int) ∧ Below w.heap.size w wz) (fun _ i _ => 4 - (intOf i).toNat)
        case atStart => exact ⟨0, true, _, rfl, by omega, rfl, rfl, hbr⟩
        case round =>
          obtain ⟨j, o, wz, hwz, hj, rfl, rfl, hbz⟩ := hrel
          subst hwz
          clear hbr
          by_cases hj4 : j < 4
          · have htj : decide ((j : Int) < 4) = true := by simp; omega
            go_wp2_with fail
            refine (power_new wz).mono ?_
            rintro e w1 ⟨pg, rfl, hp, hb1⟩
            go_wp2_with fail
            refine (disk_new pg PS.new 300 wz.heap.size w1 hp (by decide) (by decide)).mono ?_
            rintro e w2 ⟨g, rfl, hd, hb2⟩
            have HD2 : Hid (DW (fun _ => True) w.heap.size w2 g pg 300 (DS.new 0 300) PS.new 0) := Lib.hid (by
              have h := new_dws hp hb1 hd hb2
              exact ⟨(h.disk.base hbz.size).mono fun _ _ _ => trivial, h.pow.mono hbz.size, h.ok, Nat.le_trans hbz.size h.base, Nat.le_refl _⟩)
            have HB2 := Lib.hid (bthen hbz (bthen hb1 hb2 (Nat.le_refl _)) (Nat.le_refl _))
            clear hd hp hb1 hb2 hbz
            go_wp2_with fail
            refine (sopen_good HD2.out (by decide) (by decide) (by decide) rfl rfl (good_new 300)).mono ?_
            rintro e w3 ⟨gs, rfl, hs3, hd3, hm3⟩
            have HB3 := Lib.hid (HB2.out.trans (hm3.below (fun b T h => h.1) HB2.out.size))
            have HS3 := Lib.hid (hs3.mono HB2.out.size)
            have HD3 := Lib.hid hd3
            clear hs3 hd3 hm3 HD2 HB2
            go_wp2_with fail
            refine (ssave_good HD3.out HS3.out (by decide) (by decide) (by decide) rfl rfl rfl (good_new 300) (by decide) aa ca M la (Ha.out.srcS HB3.out) HM.out (by omega) hMc).mono ?_
            rintro e w4 ⟨d4, rfl, hd4, hl4, hG4, _, hs4, _, hsn4, hm4⟩
            have HB4 := Lib.hid (HB3.out.trans (hm4.below (SvF.base HS3.out.base) HB3.out.size))
            have HD4 := Lib.hid (hd4.mono (K' := fun _ => True) (m' := 0) (fun _ _ _ => trivial) (Nat.le_refl _))
            have HL4 := Lib.hid hl4
            have HG4 := Lib.hid hG4
            have HN4 := Lib.hid hsn4
            have HS4 := Lib.hid hs4
            clear hd4 hl4 hG4 hs4 hsn4 hm4 HD3 HS3 HB3
            go_wp2_with (refine wpList_makeF rfl _ _ 67 rfl 4 ib (.bool false) (fun b : Bool => [Value.bool b]) 1 (fun _ => rfl) (by decide) false rfl Try.underlying67 hi hz0 hz1 n rfl rfl (by rw [hz2]; omega) (by unfold maxLen; omega) ?_; intro w5 ho5 hb5)
            rw [flt_bool] at ho5
            go_loopw [15] (fun i wx => ∃ (k : Nat) (l : List Bool) (wq : World), wq = wx ∧ k ≤ n ∧ i = .int .i64 (k : Int) ∧ Own wq w4.heap.size 4 1 (some ⟨w4.heap.size, 0, none⟩) n n (bovs l) ∧ Below w4.heap.size w4 wq) (fun i _ => n - (intOf i).toNat)
            case atStart => exact ⟨0, _, _, rfl, by omega, rfl, ho5, hb5⟩
            case round =>
              obtain ⟨k, l, wq, hwq, hk, rfl, hown, hb⟩ := hrel
              subst hwq
              clear ho5 hb5
              have Hll : Hid (n = l.length) := Lib.hid (by have := hown.1; simpa [bovs] using this.symm)
              by_cases hkn : k < n
              · obtain ⟨gb, hg, hbg, hlg, hat, hfz⟩ := hown.at hkn
                simp only [Option.some.injEq, Addr.mk.injEq, and_self, and_true] at hg
                subst hg
                have hc1 := hat k (by rw [bovs_length, ← Hll.out]; exact hkn)
                have hf1 := hfz k
                have hset : ∀ b : Bool, Own (wq.setCell ⟨w4.heap.size, k, none⟩ (.bool b)) w4.heap.size 4 1 (some ⟨w4.heap.size, 0, none⟩) n n (bovs (l.set k b)) := fun b => by rw [← bovs_set]; exact hown.set k _ hkn
                have HSet := Lib.hid hset
                have hbs : ∀ b : Bool, Below w4.heap.size w4 (wq.setCell ⟨w4.heap.size, k, none⟩ (.bool b)) := fun b => hb.setCell hbg _
                have HBs := Lib.hid hbs
                have hwn : IntKind.i64.wrap ((n : Int) - 1) = (n : Int) - 1 := by rw [IntKind.wrap_i64]; omega
                clear hat hfz hset hbs hown hb
                have h4 : j = 0 ∨ j = 1 ∨ j = 2 ∨ j = 3 := by omega
                rcases h4 with rfl | rfl | rfl | rfl
                · skip
                  go_wp2_with fail
                  go_roundw
                  case rel => exact ⟨k + 1, l.set k false, _, rfl, by omega, by go_num, HSet.out false, HBs.out false⟩
                  case measure => simp [intOf]; omega
                · skip
                  go_wp2_with fail
                  go_roundw
                  case rel => exact ⟨k + 1, l.set k true, _, rfl, by omega, by go_num, HSet.out true, HBs.out true⟩
                  case measure => simp [intOf]; omega
                · by_cases hr : (k : Int) % 2 = 0
                  · skip
                    go_wp2_with fail
                    go_roundw
                    case rel => exact ⟨k + 1, l.set k true, _, rfl, by omega, by go_num, HSet.out true, HBs.out true⟩
                    case measure => simp [intOf]; omega
                  · have hr1 : (k : Int) % 2 = 1 := by omega
                    clear hr
                    go_wp2_with fail
                    go_roundw
                    case rel => exact ⟨k + 1, l.set k false, _, rfl, by omega, by go_num, HSet.out false, HBs.out false⟩
                    case measure => simp [intOf]; omega
                · skip
                  go_wp2_with fail
                  go_roundw
                  case rel => exact ⟨k + 1, l.set k ((k:Int)==(n:Int)-1), _, rfl, by omega, by go_num, HSet.out ((k:Int)==(n:Int)-1), HBs.out ((k:Int)==(n:Int)-1)⟩
                  case measure => simp [intOf]; omega
              · obtain rfl : k = n := by omega
                have HD5 := Lib.hid (HD4.out.ext hb)
                have HS5 := Lib.hid (HS4.out.ext hb)
                have HB5 := Lib.hid (bthen HB4.out hb (Nat.le_refl _))
                have HO5 := Lib.hid hown
                clear hb hown HD4 HS4 HB4
                go_wp2_with fail
                obtain ⟨p6, hp6⟩ : ∃ p6, p6 = PS.new.arm (k : Int) l T := ⟨_, rfl⟩
                have hp1 : p6.off = false := by rw [hp6]; rfl
                have hp2 : p6.life = 0 := by rw [hp6]; rfl
                refine (HD5.out.arm (k : Int) (some ⟨w4.heap.size, 0, none⟩) k k l T (HD5.out.armOwn HO5.out _) Hll.out (by omega) (by omega) hp6.symm).mono ?_
                rintro e w6 ⟨rfl, hd6, hm6⟩
                have HB6 := Lib.hid (HB5.out.trans (hm6.below (fun b T h => h.1) HB5.out.size))
                have HS6 := Lib.hid (HS5.out.df hm6)
                have HD6 := Lib.hid hd6
                have Hp1 := Lib.hid hp1
                have Hp2 := Lib.hid hp2
                clear hd6 hm6 HB5 HS5 HD5 HO5 hp6 hp1 hp2
                go_wp2_with fail
                refine (ssave_trip HD6.out HS6.out (by decide) (by decide) (by decide) Hp1.out (by rw [HL4.out, Hp2.out]; rfl) HG4.out HN4.out (List.eq_nil_of_length_eq_zero (Nat.le_zero.1 HD6.out.pend)) (by decide) ab cb L lb (Hb.out.srcS HB6.out) HL.out (by omega) hLc).mono ?_
                rintro e w7 ⟨E7, d7, p7, rfl, hsv, hcase⟩
                have HB7 := Lib.hid (HB6.out.trans (hsv.mod.below (SvF.base HS6.out.base) HB6.out.size))
                have HD7 : Hid (DW (fun _ => True) w.heap.size w7 g pg 300 d7 p7 119) := Lib.hid (hsv.dw.mono (fun _ _ _ => trivial) (by omega))
                have Hl7 : Hid (d7.life = 0) := Lib.hid (by rw [hsv.dlife, HL4.out]; rfl)
                have Hq7 : Hid (p7.life = 0) := Lib.hid (by rw [hsv.plife, Hp2.out])
                have Hc7 := Lib.hid hcase
                clear hsv hcase HB6 HS6 HD6 Hp1 Hp2 HG4 HL4 HN4
                rcases Hc7.out with ⟨rfl, _⟩ | ⟨rfl, hoff7, hgs⟩
                · clear Hc7
                  go_wp2_with fail
                  go_roundw
                  case rel => exact ⟨j + 1, o, _, rfl, by omega, rfl, by go_num, HB7.out⟩
                  case measure => simp [intOf]; omega
                · have Hoff := Lib.hid hoff7
                  have Hgs := Lib.hid hgs
                  clear hoff7 hgs Hc7
                  go_wp2_with fail
                  obtain ⟨p8, hp8⟩ : ∃ p8, p8 = p7.start := ⟨_, rfl⟩
                  have hst1 : p8.off = false := by rw [hp8]; unfold PS.start; rw [if_pos Hoff.out]
                  have hst3 : p8.life = 1 := by rw [hp8]; unfold PS.start; rw [if_pos Hoff.out]; show p7.life + 1 = 1; rw [Hq7.out]; rfl
                  have hst2 : d7.life ≠ p8.life := by rw [hst3, Hl7.out]; decide
                  refine (HD7.out.start (by rw [Hq7.out]; decide) (by rw [Hq7.out]; decide) hp8.symm).mono ?_
                  rintro e w8 ⟨rfl, hd8, hm8⟩
                  have HB8 := Lib.hid (HB7.out.trans (hm8.below (fun b T h => h.1) HB7.out.size))
                  have HD8 := Lib.hid hd8
                  have hst1' := Lib.hid hst1
                  have hst2' := Lib.hid hst2
                  clear hd8 hm8 HB7 HD7 hp8 hst1 hst2 hst3
                  have hst1 := hst1'.out
                  have hst2 := hst2'.out
                  go_wp2_with fail
                  rcases Hgs.out p8 with hg | hg
                  · skip
                    refine (sopen_woken HD8.out (by decide) (by decide) (by decide) hst1 hst2 hg).mono ?_
                    rintro e w9 ⟨gs9, d9, rfl, hs9, hd9, _, _, _, _, hm9⟩
                    have HB9 := Lib.hid (HB8.out.trans (hm9.below (fun b T h => h.1) HB8.out.size))
                    have HS9 := Lib.hid hs9
                    clear hs9 hd9 hm9 hg HB8 HD8
                    go_wp2_with fail
                    refine (scount_any HS9.out).mono ?_
                    rintro e wA ⟨rfl, rfl⟩
                    go_wp2_with fail
                    refine (scount_any HS9.out).mono ?_
                    rintro e wA ⟨rfl, rfl⟩
                    go_wp2_with fail
                    refine (scount_any HS9.out).mono ?_
                    rintro e wA ⟨rfl, rfl⟩
                    go_wp2_with fail
                    refine (sstate_any HS9.out HM.out.symm).mono ?_
                    rintro e wA ⟨aA, cA, rfl, hoA, hbA⟩
                    have HBA := Lib.hid (bthen HB9.out hbA (Nat.le_refl _))
                    have HSA := Lib.hid (HS9.out.ext hbA)
                    have HOA := Lib.hid hoA
                    clear hoA hbA HB9 HS9
                    go_wp2_with fail
                    refine (bytes_at aA cA la aa ca la wA M M true HOA.out.src (Ha.out.ext HBA.out) HM.out HM.out (by omega) (by omega) (by simp)).mono ?_
                    rintro e wB ⟨rfl, nn, rfl⟩
                    have hbd := ext_drewN wA nn wA.heap.size
                    have HBA' := Lib.hid (bthen HBA.out hbd (Nat.le_refl _))
                    have HSA' := Lib.hid (HSA.out.ext hbd)
                    clear hbd HBA HSA
                    have HBA := HBA'
                    have HSA := HSA'
                    clear HBA' HSA'
                    clear HOA
                    generalize wA.drewN nn = wB at *
                    go_wp2_with fail
                    refine (scount_any HSA.out).mono ?_
                    rintro e wC ⟨rfl, rfl⟩
                    go_wp2_with fail
                    go_roundw
                    case rel => exact ⟨j + 1, false, _, rfl, by omega, rfl, by go_num, HBA.out⟩
                    case measure => simp [intOf]; omega
                  · skip
                    refine (sopen_woken HD8.out (by decide) (by decide) (by decide) hst1 hst2 hg).mono ?_
                    rintro e w9 ⟨gs9, d9, rfl, hs9, hd9, _, _, _, _, hm9⟩
                    have HB9 := Lib.hid (HB8.out.trans (hm9.below (fun b T h => h.1) HB8.out.size))
                    have HS9 := Lib.hid hs9
                    clear hs9 hd9 hm9 hg HB8 HD8
                    go_wp2_with fail
                    refine (scount_any HS9.out).mono ?_
                    rintro e wA ⟨rfl, rfl⟩
                    go_wp2_with fail
                    refine (scount_any HS9.out).mono ?_
                    rintro e wA ⟨rfl, rfl⟩
                    go_wp2_with fail
                    refine (scount_any HS9.out).mono ?_
                    rintro e wA ⟨rfl, rfl⟩
                    go_wp2_with fail
                    refine (scount_any HS9.out).mono ?_
                    rintro e wA ⟨rfl, rfl⟩
                    go_wp2_with fail
                    refine (sstate_any HS9.out HL.out.symm).mono ?_
                    rintro e wA ⟨aA, cA, rfl, hoA, hbA⟩
                    have HBA := Lib.hid (bthen HB9.out hbA (Nat.le_refl _))
                    have HSA := Lib.hid (HS9.out.ext hbA)
                    have HOA := Lib.hid hoA
                    clear hoA hbA HB9 HS9
                    go_wp2_with fail
                    refine (bytes_at aA cA lb ab cb lb wA L L true HOA.out.src (Hb.out.ext HBA.out) HL.out HL.out (by omega) (by omega) (by simp)).mono ?_
                    rintro e wB ⟨rfl, nn, rfl⟩
                    have hbd := ext_drewN wA nn wA.heap.size
                    have HBA' := Lib.hid (bthen HBA.out hbd (Nat.le_refl _))
                    have HSA' := Lib.hid (HSA.out.ext hbd)
                    clear hbd HBA HSA
                    have HBA := HBA'
                    have HSA := HSA'
                    clear HBA' HSA'
                    clear HOA
                    generalize wA.drewN nn = wB at *
                    go_wp2_with fail
                    go_roundw
                    case rel => exact ⟨j + 1, false, _, rfl, by omega, rfl, by go_num, HBA.out⟩
                    case measure => simp [intOf]; omega
          · obtain rfl : j = 4 := by omega
            cases o with
            | true =>
              go_wp2_with fail
              refine (wakes10_any wz).mono ?_
              rintro e wD ⟨rfl, hbD⟩
              have hbF := bthen hbz hbD (Nat.le_refl _)
              clear hbD
              go_wp2
              go_ret
              exact ⟨rfl, hbF⟩
            | false =>
              go_wp2_with fail
              go_roundw
              case rel => exact ⟨n + 1, by omega, by omega, by go_num, hbz⟩
              case measure => simp [intOf]; omega
      · obtain rfl : n = 41 := by omega
        go_wp2_with fail
        refine (wakes10_any wr).mono ?_
        rintro e wD ⟨rfl, hbD⟩
        have hbF := bthen hbr hbD (Nat.le_refl _)
        clear hbD
        go_wp2
        go_ret
        exact ⟨rfl, hbF⟩
  · have hh : 600 < M ∨ ¬ 600 < M ∧ 600 < L := by omega
    have hb0 := Below.refl w.heap.size w
    clear hheavy hM hL hsa hsb hal hbl hac hbc
    rcases hh with h6 | ⟨h6, h5⟩
    all_goals
      go_enter Try.func12, Try.ntmps12
      go_wp2
      go_ret
      exact ⟨rfl, hb0⟩
end Go.Proofs.Ytogcejmnhiphgaa
