/- The walk of StoreBounds. -/
import Derived.Test.YtogcejmnhiphgaaStoreWakes
import Derived.Test.YtogcejmnhiphgaaStoreEarly
import Derived.Test.YtogcejmnhiphgaaLaw
namespace Go.Proofs.Ytogcejmnhiphgaa
open Go.RowKit

set_option maxRecDepth 100000 in
set_option maxHeartbeats 8000000 in
theorem storeBounds_walk (w : World) (S : Int) (wS : (Lit.int .i64 S).wf = true) (ov : Int) (wo : (Lit.int .i64 ov).wf = true) (f : Int) (wf : (Lit.int .u8 f).wf = true) :
    Calls Try.prog 8 #[.int .i64 S, .int .i64 ov, .int .u8 f] w fun e w' => e = .returned (.bool true) ∧ Below w.heap.size w w' := by
  have hfb := byteOf_val wf
  generalize byteOf f = fbt at hfb
  rw [show Value.int .u8 f = .int .u8 (fbt.toNat : Int) from hfb.symm]
  clear hfb wf wS wo
  by_cases hheavy : 1 ≤ S ∧ S ≤ 600 ∧ -2 ≤ ov ∧ ov ≤ 2
  · obtain ⟨hS1, hS2, ho1, ho2⟩ := hheavy
    obtain ⟨n, rfl⟩ : ∃ n : Nat, S = (n : Int) := ⟨S.toNat, by omega⟩
    have g1 : ¬ (n : Int) < 1 := by omega
    have g2 : ¬ 600 < (n : Int) := by omega
    have g3 : ¬ ov < -2 := by omega
    have g4 : ¬ 2 < ov := by omega
    obtain ⟨M, hM⟩ : ∃ M : Nat, (M : Int) = 30000 + ov := ⟨(30000 + ov).toNat, by omega⟩
    have hwr : IntKind.i64.wrap (30000 + ov) = (M : Int) := by rw [IntKind.wrap_i64]; omega
    have hM2 : M ≤ 30002 := by omega
    have Hov : Hid ((0 < ov ↔ 30000 < M)) := Lib.hid (by omega)
    have hn1 : 1 ≤ n := by omega
    have hn2 : n ≤ 600 := by omega
    clear hM hS1 hS2 ho1 ho2
    go_enter Try.func8, Try.ntmps8
    go_wp2_with fail
    refine (power_new w).mono ?_
    rintro e w1 ⟨pg, rfl, hp, hb1⟩
    go_wp2_with fail
    refine (disk_new pg PS.new n w.heap.size w1 hp hn1 hn2).mono ?_
    rintro e w2 ⟨g, rfl, hd, hb2⟩
    have HB2 := Lib.hid (bthen hb1 hb2 (Nat.le_refl _))
    have HD2 := Lib.hid ((new_dws hp hb1 hd hb2).mono (K' := fun _ => True) (m' := 0) (fun _ _ _ => trivial) (Nat.le_refl _))
    clear hd hp hb1 hb2
    go_wp2_with fail
    refine (sopen_nil w2).mono ?_
    rintro e w3 ⟨rfl, rfl⟩
    go_wp2_with fail
    by_cases hn3 : 300 ≤ n
    · have g5 : ¬ (n : Int) < 300 := by omega
      refine (sopen_good HD2.out hn3 (by omega) (by decide) rfl rfl (good_new n)).mono ?_
      rintro e w3 ⟨gs, rfl, hs3, hd3, hm3⟩
      have HB3 := Lib.hid (HB2.out.trans (hm3.below (fun b T h => h.1) HB2.out.size))
      have HS3 := Lib.hid (hs3.mono HB2.out.size)
      have HD3 := Lib.hid hd3
      clear hs3 hd3 hm3 HD2 HB2
      obtain ⟨i0, hi, hz0, hz1, hz2⟩ := info_parts info8
      go_wp2_with (refine wpList_make8 rfl _ _ 34 rfl 5 i0 Try.underlying34 hi hz0 hz1 hz2 M (by first | rfl | simp [*]) (by first | rfl | simp [*]) (by omega) ?_; intro w4 ho4 hb4)
      clear hwr
      go_loopw [14] (fun i wr => ∃ (k : Nat) (l : List Byte), k ≤ M ∧ i = .int .i64 (k : Int) ∧ Own wr w3.heap.size 5 1 (some ⟨w3.heap.size, 0, none⟩) M M (bvs l) ∧ Below w3.heap.size w3 wr) (fun i _ => M - (intOf i).toNat)
      case atStart => exact ⟨0, zb M, by omega, rfl, ho4, hb4⟩
      case round =>
        rename_i wr
        obtain ⟨k, l, hk, rfl, hown, hb⟩ := hrel
        clear ho4 hb4
        have Hll : Hid (M = l.length) := Lib.hid (by have := hown.1; simpa using this.symm)
        by_cases hlt : k < M
        · obtain ⟨gb, hg, hbg, hlg, hat, hfz⟩ := hown.at hlt
          simp only [Option.some.injEq, Addr.mk.injEq, and_self, and_true] at hg
          subst hg
          have hc1 := hat k (by rw [bvs_length, ← Hll.out]; exact hlt)
          have hf1 := hfz k
          clear hat hfz
          go_wp2_with fail
          go_roundw
          case rel =>
            refine ⟨k + 1, l.set k fbt, by omega, by go_num, ?_, hb.setCell hbg _⟩
            rw [← bvs_set]; exact hown.set k _ hlt
          case measure => simp [intOf]; omega
        · obtain rfl : k = M := by omega
          have HB4 := Lib.hid (bthen HB3.out hb (Nat.le_refl _))
          have HS4 := Lib.hid (HS3.out.ext hb)
          have HD4 := Lib.hid (HD3.out.ext hb)
          have HO4 := Lib.hid hown
          clear hb hown HS3 HB3 HD3
          go_wp2_with fail
          by_cases ho : 0 < ov
          · have hL : 30000 < k := Hov.out.1 ho
            refine (ssave_early HD4.out HS4.out (by omega) (by omega) (by omega) (some ⟨w3.heap.size, 0, none⟩) k k (.inr ⟨rfl, hL, rfl⟩)).mono ?_
            rintro e w5 ⟨rfl, hd5, hs5, hm5⟩
            have HB5 := Lib.hid (HB4.out.trans (hm5.below (fun b T h => h.1) HB4.out.size))
            have HS5 := Lib.hid hs5
            have HD5 := Lib.hid hd5
            clear hd5 hs5 hm5 HB4 HS4 HD4
            go_wp2_with fail
            refine (sstate_any HS5.out (L := 0) rfl).mono ?_
            rintro e w6 ⟨a6, c6, rfl, ho6, hb6⟩
            have HB6 := Lib.hid (bthen HB5.out hb6 (Nat.le_refl _))
            have HS6 := Lib.hid (HS5.out.ext hb6)
            have HD6 := Lib.hid (HD5.out.ext hb6)
            clear ho6 hb6 HB5 HS5 HD5
            go_wp2_with fail
            refine (scount_any HS6.out).mono ?_
            rintro e w7 ⟨rfl, rfl⟩
            go_wp2_with fail
            refine (HD6.out.cut none 0 0 [] (-1) (Src.nil _ _) rfl (by decide) (p' := PS.new.cut [] (-1)) rfl).mono ?_
            rintro e wC ⟨rfl, hdC, hmC⟩
            have HBC := Lib.hid (HB6.out.trans (hmC.below (fun b T h => h.1) HB6.out.size))
            have HSC := Lib.hid (HS6.out.df hmC)
            have HDC := Lib.hid hdC
            clear hdC hmC HB6 HS6 HD6
            go_wp2_with fail
            refine (sopen_off HDC.out hn3 (by omega) (by omega) rfl).mono ?_
            rintro e wO ⟨rfl, hdO, hmO⟩
            have HBO := Lib.hid (HBC.out.trans (hmO.below (fun b T h => h.1) HBC.out.size))
            have HSO := Lib.hid (HSC.out.df hmO)
            have HDO := Lib.hid hdO
            clear hdO hmO HBC HSC HDC
            go_wp2_with fail
            refine (ssave_early HDO.out HSO.out (by omega) (by omega) (by omega) none 0 0 (.inl ⟨rfl, rfl⟩)).mono ?_
            rintro e wP ⟨rfl, hdP, hsP, hmP⟩
            have HBP := Lib.hid (HBO.out.trans (hmP.below (fun b T h => h.1) HBO.out.size))
            clear hdP hsP hmP HBO HSO HDO
            go_wp2_with fail
            refine (wakes10_any wP).mono ?_
            rintro e wQ ⟨rfl, hbQ⟩
            have hbF := bthen HBP.out hbQ (Nat.le_refl _)
            clear hbQ HBP
            go_wp2
            go_ret
            exact ⟨rfl, hbF⟩
          · have hL : k ≤ 30000 := by have := Hov.out; omega
            refine (ssave_good HD4.out HS4.out hn3 (by omega) (by omega) rfl rfl rfl (good_new n) (by decide) (some ⟨w3.heap.size, 0, none⟩) k k l HO4.out.srcS Hll.out hL (Nat.le_refl _)).mono ?_
            rintro e w5 ⟨d5, rfl, hd5, hl5, hG5, _, hs5, _, _, hm5⟩
            have HB5 := Lib.hid (HB4.out.trans (hm5.below (SvF.base HS4.out.base) HB4.out.size))
            have HS5 := Lib.hid hs5
            have HD5 := Lib.hid hd5
            have HO5 := Lib.hid (HO4.out.mod hm5 fun _ _ _ => SvF.no_u8 _)
            clear hd5 hs5 hm5 hG5 hl5 HB4 HS4 HD4 HO4
            go_wp2_with fail
            refine (sstate_any HS5.out Hll.out.symm).mono ?_
            rintro e w6 ⟨a6, c6, rfl, ho6, hb6⟩
            have HB6 := Lib.hid (bthen HB5.out hb6 (Nat.le_refl _))
            have HS6 := Lib.hid (HS5.out.ext hb6)
            have HD6 := Lib.hid (HD5.out.ext hb6)
            have HO6 := Lib.hid (HO5.out.ext hb6)
            have HP6 := Lib.hid ho6
            clear ho6 hb6 HB5 HS5 HD5 HO5
            go_wp2_with fail
            refine (bytes_at a6 c6 l _ k l w6 k k true HP6.out.src HO6.out.src Hll.out Hll.out (by omega) (by omega) (by simp)).mono ?_
            rintro e w7 ⟨rfl, nn, rfl⟩
            have hbd := ext_drewN w6 nn w6.heap.size
            have HB7 := Lib.hid (bthen HB6.out hbd (Nat.le_refl _))
            have HS7 := Lib.hid (HS6.out.ext hbd)
            have HD7 := Lib.hid (HD6.out.ext hbd)
            clear hbd HB6 HS6 HD6 HO6 HP6
            generalize w6.drewN nn = w7 at *
            go_wp2_with fail
            refine (scount_any HS7.out).mono ?_
            rintro e w8 ⟨rfl, rfl⟩
            go_wp2_with fail
            refine (HD7.out.cut none 0 0 [] (-1) (Src.nil _ _) rfl (by decide) (p' := PS.new.cut [] (-1)) rfl).mono ?_
            rintro e wC ⟨rfl, hdC, hmC⟩
            have HBC := Lib.hid (HB7.out.trans (hmC.below (fun b T h => h.1) HB7.out.size))
            have HSC := Lib.hid (HS7.out.df hmC)
            have HDC := Lib.hid hdC
            clear hdC hmC HB7 HS7 HD7
            go_wp2_with fail
            refine (sopen_off HDC.out hn3 (by omega) (by omega) rfl).mono ?_
            rintro e wO ⟨rfl, hdO, hmO⟩
            have HBO := Lib.hid (HBC.out.trans (hmO.below (fun b T h => h.1) HBC.out.size))
            have HSO := Lib.hid (HSC.out.df hmO)
            have HDO := Lib.hid hdO
            clear hdO hmO HBC HSC HDC
            go_wp2_with fail
            refine (ssave_early HDO.out HSO.out (by omega) (by omega) (by omega) none 0 0 (.inl ⟨rfl, rfl⟩)).mono ?_
            rintro e wP ⟨rfl, hdP, hsP, hmP⟩
            have HBP := Lib.hid (HBO.out.trans (hmP.below (fun b T h => h.1) HBO.out.size))
            clear hdP hsP hmP HBO HSO HDO
            go_wp2_with fail
            refine (wakes10_any wP).mono ?_
            rintro e wQ ⟨rfl, hbQ⟩
            have hbF := bthen HBP.out hbQ (Nat.le_refl _)
            clear hbQ HBP
            go_wp2
            go_ret
            exact ⟨rfl, hbF⟩
    · have g5 : (n : Int) < 300 := by omega
      refine (sopen_few HD2.out (by omega)).mono ?_
      rintro e w3 ⟨rfl, rfl⟩
      clear hwr
      go_wp2_with fail
      refine (wakes10_any w2).mono ?_
      rintro e w4 ⟨rfl, hb4⟩
      have hbF := bthen HB2.out hb4 (Nat.le_refl _)
      clear hb4
      go_wp2
      go_ret
      exact ⟨rfl, hbF⟩
  · have hh : S < 1 ∨ ¬ S < 1 ∧ (600 < S ∨ ¬ 600 < S ∧ (ov < -2 ∨ ¬ ov < -2 ∧ 2 < ov)) := by omega
    have hb0 := Below.refl w.heap.size w
    clear hheavy
    rcases hh with h1 | ⟨h1, h2 | ⟨h2, h3 | ⟨h3, h4⟩⟩⟩
    all_goals
      go_enter Try.func8, Try.ntmps8
      go_wp2
      go_ret
      exact ⟨rfl, hb0⟩
end Go.Proofs.Ytogcejmnhiphgaa
