/- The walk of StoreErased. -/
import Derived.Test.YtogcejmnhiphgaaStoreWakes
namespace Go.Proofs.Ytogcejmnhiphgaa
open Go.RowKit

theorem erase_good {d : DS} {n : Nat} {p : PS} (hp : p.off = false) (hl : d.life = p.life) : ∃ d', d.erase p = (0, d') ∧ d'.life = d.life ∧ Good d'.now [] 0 := by
  refine ⟨_, by unfold DS.erase; rw [hp]; rfl, by rw [wake_on hl], Good.blank fun i _ => ?_⟩
  show (List.replicate d.safe.length Sec.nought).getD i Sec.nought = Sec.nought
  rw [List.getD_eq_getElem?_getD, List.getElem?_replicate]
  split <;> rfl

set_option maxRecDepth 100000 in
set_option maxHeartbeats 8000000 in
theorem storeErased_walk (w : World) (a : Option Addr) (c : Nat) (ps : List Bsl) (hm : Mat w a ps) (hn : ps.length ≤ 9223372036854775807) (hcap : ∀ p ∈ ps, p.l.length ≤ p.c) (ab : Option Addr) (cb : Nat) (b : List Byte) (hs : Src w ab (bvs b)) (hbl : b.length ≤ 9223372036854775807) (hbc : b.length ≤ cb) :
    Calls Try.prog 10 #[.slice a ps.length c, .slice ab b.length cb] w fun e w' => e = .returned (.bool true) ∧ Below w.heap.size w w' := by
  obtain ⟨N, hN⟩ : ∃ N, N = ps.length := ⟨_, rfl⟩
  obtain ⟨L, hL⟩ : ∃ L, L = b.length := ⟨_, rfl⟩
  rw [← hN, ← hL]
  by_cases hheavy : N ≤ 6 ∧ L ≤ 500
  · obtain ⟨h6, h500⟩ := hheavy
    have hLc : L ≤ cb := by omega
    have HN := Lib.hid hN
    have HL := Lib.hid hL
    have Hm := Lib.hid hm
    have Hs := Lib.hid hs
    have Hcap := Lib.hid hcap
    clear hN hL hm hs hn hbl hbc hcap
    go_enter Try.func10, Try.ntmps10
    go_wp2_with fail
    refine (power_new w).mono ?_
    rintro e w1 ⟨pg, rfl, hp, hb1⟩
    go_wp2_with fail
    refine (disk_new pg PS.new 350 w.heap.size w1 hp (by decide) (by decide)).mono ?_
    rintro e w2 ⟨g, rfl, hd, hb2⟩
    have HB2 := Lib.hid (bthen hb1 hb2 (Nat.le_refl _))
    have HD2 := Lib.hid ((new_dws hp hb1 hd hb2).mono (K' := fun _ => True) (m' := 0) (fun _ _ _ => trivial) (Nat.le_refl _))
    clear hd hp hb1 hb2
    go_wp2_with fail
    refine (sopen_good HD2.out (by decide) (by decide) (by decide) rfl rfl (good_new 350)).mono ?_
    rintro e w3 ⟨gs, rfl, hs3, hd3, hm3⟩
    have HB3 := Lib.hid (HB2.out.trans (hm3.below (fun b T h => h.1) HB2.out.size))
    have HS3 := Lib.hid (hs3.mono HB2.out.size)
    have HD3 := Lib.hid hd3
    clear hs3 hd3 hm3 HD2 HB2
    go_wp2_with fail
    go_loopw [9] (fun i wr => ∃ (k : Nat) (d : DS) (s : List Byte), k ≤ N ∧ i = .int .i64 (k : Int) ∧ DW (fun _ => True) w.heap.size wr g pg 350 d PS.new 0 ∧ d.life = 0 ∧ Good d.now s k ∧ StA w.heap.size wr gs g s k ∧ Below w.heap.size w wr) (fun i _ => N - (intOf i).toNat)
    case atStart => exact ⟨0, _, [], by omega, rfl, HD3.out, rfl, good_new 350, HS3.out, HB3.out⟩
    case round =>
      rename_i wr
      obtain ⟨k, d, s, hk, rfl, hD, hlife, hG, hS, hbr⟩ := hrel
      have HD := Lib.hid hD
      have Hlife := Lib.hid hlife
      have HG := Lib.hid hG
      have HS := Lib.hid hS
      clear hD hlife hG hS HD3 HS3 HB3
      by_cases hlt : k < N
      · have hkp : k < ps.length := by have := HN.out; omega
        obtain ⟨bb, o, rfl, hlb, hat⟩ := Hm.out.at hkp
        have hc0 := hat k hkp
        have hrow := Hm.out.row _ (List.getElem_mem hkp)
        have hcq := Hcap.out _ (List.getElem_mem hkp)
        generalize ps[k] = q at *
        obtain ⟨M, hM⟩ : ∃ M, M = q.l.length := ⟨_, rfl⟩
        have hcell := (World.cell?_of_block (w := w) (a := ⟨bb, o + k, none⟩) (hbr.block bb hlb)).trans hc0
        have Hq := Lib.hid (hrow.1.srcS hbr)
        unfold Bsl.val at hcell
        rw [← hM] at hcell hcq
        have HM := Lib.hid hM
        clear hat hc0 hrow hM
        by_cases h5 : M ≤ 500
        · go_wp2_with fail
          refine (ssave_good HD.out HS.out (by decide) (by decide) (by decide) rfl rfl Hlife.out HG.out (by omega) q.a q.c M q.l Hq.out HM.out (by omega) hcq).mono ?_
          rintro e w4 ⟨d4, rfl, hd4, hl4, hG4, _, hs4, _, _, hm4⟩
          have hb4 := hbr.trans (hm4.below (SvF.base HS.out.base) hbr.size)
          have HD4 := Lib.hid (hd4.mono (K' := fun _ => True) (m' := 0) (fun _ _ _ => trivial) (Nat.le_refl _))
          have HL4 := Lib.hid (hl4.trans Hlife.out)
          have HG4 := Lib.hid hG4
          have HS4 := Lib.hid hs4
          clear hd4 hl4 hG4 hs4 hm4 hbr
          go_wp2_with fail
          go_roundw
          case rel => exact ⟨k + 1, d4, q.l, by omega, by go_num, HD4.out, HL4.out, HG4.out, HS4.out, hb4⟩
          case measure => simp [intOf]; omega
        · go_wp2
          go_ret
          exact ⟨rfl, hbr⟩
      · obtain rfl : k = N := by omega
        go_wp2_with fail
        obtain ⟨d', he, hl', hbl⟩ := erase_good (n := 350) (p := PS.new) (d := d) rfl Hlife.out
        refine (HD.out.erase (by decide) (by decide) (by omega) he).mono ?_
        rintro e wE ⟨rfl, hdE, hmE⟩
        have HDE := Lib.hid hdE
        have HLE := Lib.hid (hl'.trans Hlife.out)
        have HGE := Lib.hid hbl
        have HBE := Lib.hid (hbr.trans (hmE.below (fun b T h => h.1) hbr.size))
        clear hdE hmE hbl hl' he hbr
        go_wp2_with fail
        refine (sopen_good HDE.out (by decide) (by decide) (by decide) rfl HLE.out HGE.out).mono ?_
        rintro e w5 ⟨gs5, rfl, hs5, hd5, hm5⟩
        have HB5 := Lib.hid (HBE.out.trans (hm5.below (fun b T h => h.1) HBE.out.size))
        have HS5 := Lib.hid (hs5.mono HBE.out.size)
        have HD5 := Lib.hid hd5
        clear hs5 hd5 hm5 HDE HBE
        go_wp2_with fail
        refine (sstate_any HS5.out (L := 0) rfl).mono ?_
        rintro e w6 ⟨a6, c6, rfl, ho6, hb6⟩
        have HB6 := Lib.hid (bthen HB5.out hb6 (Nat.le_refl _))
        have HS6 := Lib.hid (HS5.out.ext hb6)
        have HD6 := Lib.hid (HD5.out.ext hb6)
        clear ho6 hb6 HB5 HS5 HD5
        go_wp2_with fail
        refine (scount_any HS6.out).mono ?_
        rintro e w7 ⟨rfl, rfl⟩
        go_wp2_with fail
        refine (ssave_good HD6.out HS6.out (by decide) (by decide) (by decide) rfl rfl HLE.out HGE.out (by decide) ab cb L b (Hs.out.srcS HB6.out) HL.out (by omega) hLc).mono ?_
        rintro e w8 ⟨d8, rfl, hd8, hl8, hG8, _, hs8, _, _, hm8⟩
        have HB8 := Lib.hid (HB6.out.trans (hm8.below (SvF.base HS6.out.base) HB6.out.size))
        have HD8 := Lib.hid (hd8.mono (K' := fun _ => True) (m' := 0) (fun _ _ _ => trivial) (Nat.le_refl _))
        have HL8 := Lib.hid (hl8.trans HLE.out)
        have HG8 := Lib.hid hG8
        clear hd8 hl8 hG8 hs8 hm8 HB6 HS6 HD6 HLE HGE
        go_wp2_with fail
        refine (sopen_good HD8.out (by decide) (by decide) (by decide) rfl HL8.out HG8.out).mono ?_
        rintro e w9 ⟨gs9, rfl, hs9, hd9, hm9⟩
        have HB9 := Lib.hid (HB8.out.trans (hm9.below (fun b T h => h.1) HB8.out.size))
        have HS9 := Lib.hid hs9
        clear hs9 hd9 hm9 HD8 HB8
        go_wp2_with fail
        refine (sstate_any HS9.out HL.out.symm).mono ?_
        rintro e w10 ⟨a10, c10, rfl, ho10, hb10⟩
        have HB10 := Lib.hid (bthen HB9.out hb10 (Nat.le_refl _))
        have HS10 := Lib.hid (HS9.out.ext hb10)
        have HO10 := Lib.hid ho10
        clear ho10 hb10 HB9 HS9
        go_wp2_with fail
        refine (bytes_at a10 c10 b ab cb b w10 L L true HO10.out.src (Hs.out.ext HB10.out) HL.out HL.out (by omega) (by omega) (by simp)).mono ?_
        rintro e w11 ⟨rfl, nn, rfl⟩
        have hbd := ext_drewN w10 nn w10.heap.size
        have HB11 := Lib.hid (bthen HB10.out hbd (Nat.le_refl _))
        have HS11 := Lib.hid (HS10.out.ext hbd)
        clear hbd HB10 HS10 HO10
        generalize w10.drewN nn = w11 at *
        go_wp2_with fail
        refine (scount_any HS11.out).mono ?_
        rintro e w12 ⟨rfl, rfl⟩
        go_wp2_with fail
        refine (wakes10_any w11).mono ?_
        rintro e w13 ⟨rfl, hb13⟩
        have hbF := bthen HB11.out hb13 (Nat.le_refl _)
        clear hb13
        go_wp2
        go_ret
        exact ⟨rfl, hbF⟩
  · have hh : decide (6 < N) = true ∨ decide (6 < N) = false ∧ decide (500 < L) = true := by
      simp only [decide_eq_true_eq, decide_eq_false_iff_not]; omega
    clear hN hL hm hs hn hbl hbc hcap
    have hb0 := Below.refl w.heap.size w
    rcases hh with hh | ⟨hh1, hh⟩
    · have h6 : 6 < N := by simpa using hh
      clear hheavy hh
      go_enter Try.func10, Try.ntmps10
      go_wp2
      go_ret
      exact ⟨rfl, hb0⟩
    · have h6 : ¬ 6 < N := by simpa using hh1
      have h5 : 500 < L := by simpa using hh
      clear hheavy hh hh1
      go_enter Try.func10, Try.ntmps10
      go_wp2
      go_ret
      exact ⟨rfl, hb0⟩
end Go.Proofs.Ytogcejmnhiphgaa
