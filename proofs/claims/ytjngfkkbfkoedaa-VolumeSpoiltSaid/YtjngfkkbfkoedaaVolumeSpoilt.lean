/- The walk of VolumeSpoilt. -/
import Derived.Test.YtjngfkkbfkoedaaVolumeSpoiltPartU
import Derived.Test.YtjngfkkbfkoedaaVolumeSpoiltPartW
import Derived.Test.YtjngfkkbfkoedaaRecK
import Derived.Test.YtjngfkkbfkoedaaMedSpoil
import Derived.Test.YtjngfkkbfkoedaaVolumeSpoiltPartL
import Derived.Test.YtjngfkkbfkoedaaRegionPhase
import Derived.BigRegion
namespace Go.Proofs.Ytjngfkkbfkoedaa
open Go.RowKit

set_option maxRecDepth 100000 in
set_option maxHeartbeats 16000000 in
theorem volumeSpoilt_walk (w : World) (zs : Int) (ws : (Lit.int .i64 zs).wf = true) (aL : Option Addr) (cL : Nat) (l : List RecV) (hs : RMat w aL l) (hl : l.length ≤ 9223372036854775807) (hlc : l.length ≤ cL) (off0 : Int) (wo : (Lit.int .i64 off0).wf = true) (n0 : Int) (wn : (Lit.int .i64 n0).wf = true) (b0 : Int) (wb : (Lit.int .i64 b0).wf = true) :
    Calls Try.prog 7 #[.int .i64 zs, .slice aL l.length cL, .int .i64 off0, .int .i64 n0, .int .i64 b0] w fun e w' => e = .returned (.bool true) ∧ Below w.heap.size w w' := by
  obtain ⟨N, hN⟩ : ∃ N, N = l.length := ⟨_, rfl⟩
  rw [← hN]
  have HN := Lib.hid hN
  have Hs := Lib.hid hs
  have hN2 : N ≤ 9223372036854775807 := by omega
  have hNc : N ≤ cL := by omega
  clear hs hN hl ws wo wn wb hlc
  go_enter Try.func7, Try.ntmps7
  by_cases h1 : zs < 32
  · have e1 : decide (zs < 32) = true := by simpa using h1
    go_wp2
    go_ret
    exact ⟨rfl, Below.refl _ _⟩
  have e1 : decide (zs < 32) = false := by simpa using h1
  by_cases h2 : 256 < zs
  · have e2 : decide (zs > 256) = true := by simpa using h2
    go_wp2
    go_ret
    exact ⟨rfl, Below.refl _ _⟩
  have e2 : decide (zs > 256) = false := by simpa using h2
  obtain ⟨sz, rfl⟩ := Int.eq_ofNat_of_zero_le (show 0 ≤ zs by omega)
  have hsz : 32 ≤ sz ∧ sz ≤ 256 := by omega
  clear h1 h2
  cases hhv : heavy06 l with
  | true =>
    have Hhv := Lib.hid hhv
    clear hhv
    go_wp2_with fail
    refine (heavy06_at aL cL N l true w Hs.out HN.out hN2 Hhv.out).mono ?_
    rintro e wz ⟨rfl, rfl⟩
    go_wp2
    go_ret
    exact ⟨rfl, Below.refl _ _⟩
  | false =>
  have Hhv := Lib.hid hhv
  clear hhv
  go_wp2_with fail
  refine (heavy06_at aL cL N l false w Hs.out HN.out hN2 Hhv.out).mono ?_
  rintro e wz ⟨rfl, rfl⟩
  clear e1 e2
  obtain ⟨⟨rows, ofs, Ep⟩, hpk⟩ : ∃ y, y = packP (sz : Int) (recs l) := ⟨_, rfl⟩
  have HPK := Lib.hid hpk.symm
  clear hpk
  go_wp2_with fail
  refine (pack_at (sz : Int) aL cL N l rows ofs Ep w Hs.out HN.out hN2 HPK.out).mono ?_
  rintro e w5 ⟨aB, m, cB, aO, no, cO, bs, rfl, hPR, hb5⟩
  obtain ⟨hm1, hm2, hno, hmc, hnc⟩ := hPR.len
  have Hm1 := Lib.hid hm1
  have Hm2 := Lib.hid hm2
  have HPR := Lib.hid hPR
  have HB5 := Lib.hid hb5
  have Hs5 := Lib.hid (Hs.out.ext hb5)
  clear hm1 hm2 hno hnc hPR hb5
  by_cases hE : Ep = 0
  case neg =>
    have e3 : (Ep != 0) = true := by simpa using hE
    have hr0 := (packP_no HPK.out).2.1 hE
    have hm0 : m = 0 := by rw [Hm2.out, hr0.1]; rfl
    subst hm0
    clear hE hr0
    go_wp2_with fail
    refine (wakes16_any w5).mono ?_
    rintro e w6 ⟨rfl, hb6⟩
    have HB6 := bthen HB5.out hb6 (Nat.le_refl _)
    clear hb6
    go_wp2
    go_ret
    exact ⟨rfl, HB6⟩
  subst hE
  have HPO := Lib.hid (packOk HPK.out)
  have hofs := HPO.out.of
  have hm1 : 1 ≤ m := by rw [Hm2.out]; exact HPO.out.ne
  have hnoN : no = N := by
    rw [HPR.out.len.2.2.1, hofs, HN.out]
    unfold offsP
    rw [List.length_map, List.length_range, recs_length]
  subst hofs hnoN
  obtain ⟨W, hW⟩ : ∃ W, W = rows.flatten := ⟨_, rfl⟩
  obtain ⟨L, hL⟩ : ∃ L, L = W.length := ⟨_, rfl⟩
  have HW := Lib.hid hW
  have HL := Lib.hid hL
  have hge : 26 ≤ L := by rw [hL, hW, HPO.out.flat]; exact joinB_aggr_ge _
  clear hW hL
  go_wp2_with fail
  refine (flatg_at aB cB m bs w5 HPR.out.mat Hm1.out (by have := HPO.out.ne; have h2 := pack_small HPK.out; rw [← Hm1.out, Hm2.out]; omega) (fun p hp => by have h2 := pack_small HPK.out; have := h2.2.1 p.l (by rw [← HPR.out.rows]; exact List.mem_map.2 ⟨p, hp, rfl⟩); omega) (l := W) (L := L) (by rw [HPR.out.flat, HW.out]) HL.out).mono ?_
  rintro e wf ⟨aA, cA, rfl, hAf, hbf⟩
  have HAf := Lib.hid hAf
  have HP5 := Lib.hid (HPR.out.ext hbf)
  have HBf := Lib.hid (bthen HB5.out hbf (Nat.le_refl _))
  have Hsf := Lib.hid (Hs5.out.ext hbf)
  clear hAf hbf HPR HB5 Hs5
  have e7 : ((m : Int) == 0) = false := by simp; omega
  have e8 : ((L : Int) == 0) = false := by simp; omega
  go_wp2_with fail
  refine (power_new wf).mono ?_
  rintro e w1 ⟨g, rfl, hp1, hb1⟩
  go_wp2_with fail
  refine (drv_new (g := g) 400 none 0 0 [] w1 (CMat.nil _ _) rfl (by decide) (by simp) (by rfl)).mono ?_
  rintro e w2 ⟨d, a2, c2, cs2, rfl, h2, hb2⟩
  have HD : Hid (DrvP wf.heap.size AllK w2 d g ⟨400, []⟩ 0 PS.new) := Lib.hid ⟨⟨_, _, _, _, h2.mono hb1.size fun _ _ _ => trivial⟩, hp1.ext hb2⟩
  have HB := Lib.hid (bthen hb1 hb2 (Nat.le_refl _))
  clear h2 hp1 hb1 hb2
  go_wp2_with fail
  refine (vol_new (d := d) (sz : Int) w2 (by omega)).mono ?_
  rintro e w3 ⟨vb, rfl, hv3, hb3⟩
  have HV := Lib.hid hv3
  have HB' := Lib.hid (bthen HB.out hb3 (Nat.le_refl _))
  have HD' := Lib.hid (HD.out.ext hb3)
  clear hb3 HB HD
  have HB := HB'
  have HD := HD'
  clear HB' HD'
  clear hv3
  go_wp2_with fail
  refine (vol_format 0 0 0 0 2 PS.new (volT 400 (lbytes 0 0 0) []) w3 HV.out HD.out (Up.all HB.out.size) (by rfl)
    (vFormat_ok (M := ⟨400, []⟩) (show (2 : Int) ≤ 400 by decide) (by decide) (lab_ok _ _ _))).mono ?_
  rintro e w4 ⟨rfl, hd4, hm4⟩
  have HD4 := Lib.hid hd4
  have HB4 := Lib.hid (HB.out.trans (hm4.below (fun b T h => h.1) HB.out.size))
  have HV4 := Lib.hid (HV.out.vf hm4)
  clear hd4 hm4 HD HB HV
  have HOK : Hid (VolOk 400 (lbytes 0 0 0) []) := Lib.hid (volOk_new (by decide))
  rcases vAppend_fit (at_ := 2) HOK.out HPK.out with hap | ⟨pA, hap, hok2, hgp⟩
  · have HAP := Lib.hid hap
    clear hap
    go_wp2_with fail
    refine (vol_append 0 aL cL no l [] 7 0 PS.new (volT 400 (lbytes 0 0 0) []) w4 HV4.out HD4.out (Up.all HB4.out.size) HOK.out.ok (fun w' hm => Hsf.out.ext (HB4.out.trans (hm.below (fun b T h => h.1) HB4.out.size))) HN.out hN2 (by decide) HAP.out).mono ?_
    rintro e w8 ⟨aO', no', cO', rfl, hno, hO, hd8, hm8⟩
    have HB8 := Lib.hid (bthen HBf.out (HB4.out.trans (hm8.below (fun b T h => h.1) HB4.out.size)) (Nat.le_refl _))
    clear hno hO hd8 hm8 HD4 HB4 HV4 HAP
    go_wp2_with fail
    refine (wakes16_any w8).mono ?_
    rintro e w9 ⟨rfl, hb9⟩
    have HB9 := bthen HB8.out hb9 (Nat.le_refl _)
    clear hb9
    go_wp2
    go_ret
    exact ⟨rfl, HB9⟩
  have HAP := Lib.hid hap
  have HOK2 := Lib.hid hok2
  have HGP := Lib.hid hgp
  clear hap hok2 hgp
  go_wp2_with fail
  refine (vol_append 0 aL cL no l (offsP (recs l)) 0 pA PS.new (volT 400 (lbytes 0 0 0) ([] ++ [rows])) w4 HV4.out HD4.out (Up.all HB4.out.size) HOK.out.ok (fun w' hm => Hsf.out.ext (HB4.out.trans (hm.below (fun b T h => h.1) HB4.out.size))) HN.out hN2 (by decide) HAP.out).mono ?_
  rintro e w8 ⟨aO', no', cO', rfl, hno, hO, hd8, hm8⟩
  have HD8 := Lib.hid hd8
  have HB8 := Lib.hid (HB4.out.trans (hm8.below (fun b T h => h.1) HB4.out.size))
  have HV8 := Lib.hid (HV4.out.vf hm8)
  have HP8 := Lib.hid (HP5.out.ext HB8.out)
  clear hno hO hd8 hm8 HD4 HB4 HV4 HAP
  have HA8 := Lib.hid (HAf.out.ext HB8.out)
  have Hs8 := Lib.hid (Hsf.out.ext HB8.out)
  have HB8' := Lib.hid (bthen HBf.out HB8.out (Nat.le_refl _))
  have hL1 : L ≤ 102400 := by rw [HL.out, HW.out]; exact HOK2.out.bytes (by simp)
  have hm400 : m ≤ 400 := by have := HOK2.out.few; have := HOK2.out.fit; have h3 := Hm2.out; rw [List.nil_append, lenA_cons] at this; omega
  clear HB8 HAf Hsf HP5 HBf HOK
  obtain ⟨bd, hbd, ebd⟩ := umod b0 (m : Int) (by omega) (by omega)
  have hbm : bd < m := by omega
  have hmu : IntKind.u64.wrap (m : Int) = (m : Int) := by rw [IntKind.wrap_u64]; omega
  have hmz : ¬ ((m : Int) = 0) := by omega
  have hwb : IntKind.i64.wrap (2 + (bd : Int)) = 2 + (bd : Int) := by rw [IntKind.wrap_i64]; omega
  have Hebd := Lib.hid ebd
  clear ebd
  go_wp2_with fail
  rw [Hebd.out]
  clear hmu hmz
  refine (drv_mediumP w8 HD8.out (Nat.le_trans HOK2.out.good.len (by decide)) HOK2.out.good.short).mono ?_
  rintro e w9 ⟨a9, c9, cs9, k9, rfl, hM9, hc9, hb9⟩
  have HM9 := Lib.hid hM9
  have HB9 := Lib.hid (bthen HB8'.out hb9 (Nat.le_refl _))
  have HA9 := Lib.hid (HA8.out.ext hb9)
  have HP9 := Lib.hid (HP8.out.ext hb9)
  have Hs9 := Lib.hid (Hs8.out.ext hb9)
  clear hM9 hb9 HD8 HV8 HB8' HA8 HP8 Hs8
  obtain ⟨M2, hsp, hcap2, hok2, hfi2, hfa2⟩ := spoil_vol HOK2.out (b := bd) (by rw [← Hm2.out]; exact hbm)
  have HSP : Hid ((medOf 400 cs9).spoil (2 + (bd : Int)) = (M2, 0)) := Lib.hid (by
    have h1 := HM9.out.of
    rw [show (volT 400 (lbytes 0 0 0) ([] ++ [rows])).cap = 400 from rfl] at h1
    rw [h1, ← hsp]
    congr 1)
  have HC2 := Lib.hid hcap2
  have HO2 := Lib.hid hok2
  have HF2 := Lib.hid hfi2
  have HA2 := Lib.hid hfa2
  clear hsp hcap2 hok2 hfi2 hfa2
  go_wp2_with fail
  refine (spoilm_any 400 a9 c9 k9 cs9 (2 + (bd : Int)) M2 0 w9 HM9.out.mat HM9.out.len.symm (by have := HM9.out.size; have := HOK2.out.good.len; omega) (HM9.out.short (K := 140737488355328) HOK2.out.good.short) HSP.out).mono ?_
  rintro e w10 ⟨a10, c10, k10, cs10, rfl, hM10, hc10, hb10⟩
  rw [HC2.out]
  obtain ⟨hTX, hSX⟩ := TapeO.new 400 HC2.out hM10 hc10
  have hzX := heap_alloc_new w10 (.cells #[.int .i64 0, .slice none 0 0] 24)
  have hb11 := bthen hb10 hSX (Nat.le_refl _)
  have HB11 := Lib.hid (bthen HB9.out hb11 (Nat.le_refl _))
  have HA11 := Lib.hid (HA9.out.ext hb11)
  have HP11 := Lib.hid (HP9.out.ext hb11)
  have Hs11 := Lib.hid (Hs9.out.ext hb11)
  clear hb10 hb11 HM9 HB9 HA9 HP9 Hs9 HSP hM10
  go_wp2_with (refine wpList_store_row rfl rfl 24 (.tmp 18) (.tmp 131) rfl w10.heap.size rfl 24 #[.int .i64 0, .slice none 0 0] #[.int .i64 400, .slice a10 k10 c10] rfl hzX rfl (by kernel_rfl) (by simp [Value.oneCell']) ?_
               clear hzX hSX
               generalize (w10.alloc (.cells #[.int .i64 0, .slice none 0 0] 24)).setRow w10.heap.size #[.int .i64 400, .slice a10 k10 c10] = w11 at *
               generalize w10.heap.size = GX at *
               have HTX := Lib.hid hTX
               clear hTX)
  refine (power_new w11).mono ?_
  rintro e w12 ⟨g2, rfl, hp12, hb12⟩
  have HT12 := Lib.hid (HTX.out.ext hb12)
  have HG2 : Hid (DGood M2 0) := Lib.hid ⟨HO2.out, 0, rfl, Nat.zero_le _⟩
  have x0 : w12.cell? ⟨GX, 0, none⟩ = some (.int .i64 400) := by have := HT12.out.box.cells.1; rw [HC2.out] at this; exact this
  have x1 := HT12.out.box.cells.2
  go_wp2_with fail
  refine (drv_new (g := g2) 400 a10 c10 k10 cs10 w12 HT12.out.r.mat HT12.out.r.len.symm (by have := HT12.out.r.size; have := HG2.out.len; omega) (HT12.out.r.short (K := 140737488355328) HG2.out.short) (by have h1 := HT12.out.r.of; rw [HC2.out] at h1; rw [h1]; exact HO2.out)).mono ?_
  rintro e w13 ⟨d2, a13, c13, cs13, rfl, h13, hb13⟩
  have hMM : (⟨400, pls cs10⟩ : Med) = M2 := by have h1 := HT12.out.r.of; rw [HC2.out] at h1; exact h1
  rw [hMM] at h13
  have HD13 : Hid (DrvP w11.heap.size AllK w13 d2 g2 M2 0 PS.new) := Lib.hid ⟨⟨_, _, _, _, h13.mono hb12.size fun _ _ _ => trivial⟩, hp12.ext hb13⟩
  have hb11b := bthen hb12 hb13 (Nat.le_refl _)
  have HBx := Lib.hid hb11b
  clear h13 hp12 hb12 hb13 hb11b x0 x1 HTX HT12 hMM
  go_wp2_with fail
  refine (vol_new (d := d2) (sz : Int) w13 (by omega)).mono ?_
  rintro e w14 ⟨vb2, rfl, hv14, hb14⟩
  have HV14 := Lib.hid hv14
  have HD14 := Lib.hid (HD13.out.ext hb14)
  have HBy := Lib.hid (bthen HBx.out hb14 (Nat.le_refl _))
  clear hv14 hb14 HD13 HBx
  obtain ⟨off, hoff, eo⟩ := umod off0 (L : Int) (by omega) (by omega)
  obtain ⟨q, hq⟩ : ∃ q, q = L - off := ⟨_, rfl⟩
  have hqb : 1 ≤ q ∧ q ≤ L := by omega
  obtain ⟨kn, hkn, en⟩ := umod n0 (q : Int) (by omega) (by omega)
  obtain ⟨n, hn⟩ : ∃ n, n = 1 + kn := ⟨_, rfl⟩
  have hnb : 1 ≤ n ∧ off + n ≤ L := by omega
  have hLu : IntKind.u64.wrap (L : Int) = (L : Int) := by rw [IntKind.wrap_u64]; omega
  have hLz : ¬ ((L : Int) = 0) := by omega
  have hqu : IntKind.u64.wrap (q : Int) = (q : Int) := by rw [IntKind.wrap_u64]; omega
  have hqz : ¬ ((q : Int) = 0) := by omega
  have hwq : IntKind.i64.wrap ((L : Int) - (off : Int)) = (q : Int) := by rw [IntKind.wrap_i64]; omega
  have hwn : IntKind.i64.wrap (1 + (kn : Int)) = (n : Int) := by rw [IntKind.wrap_i64]; omega
  clear hq hn
  go_wp2_with fail
  rw [eo]
  have hrw : rows = rowsC W sz ∧ W = joinB (aggrL (recs l)) := by
    have h1 := HPO.out.eq
    have h2 := HPO.out.flat
    rw [← HW.out] at h2
    rw [← h2, Int.toNat_natCast] at h1
    exact ⟨h1, h2⟩
  have HWJ : Hid (W = joinB (aggrL (recs l))) := Lib.hid hrw.2
  have HA3W : Hid (FileAt M2 1 2 (rowsC W sz) (fun k => decide (k = bd))) := Lib.hid (by rw [← hrw.1]; exact HA2.out)
  have HA3 : Hid (FileAt M2 1 2 (rowsC (joinB (aggrL (recs l))) sz) (fun k => decide (k = bd))) := Lib.hid (by rw [← hrw.2]; exact HA3W.out)
  have HPO3 : Hid (PackOk (sz : Int) (recs l) (rowsC (joinB (aggrL (recs l))) sz) (offsP (recs l))) := Lib.hid (by rw [← hrw.2, ← hrw.1]; exact HPO.out)
  have HBL : Hid (bd < (rowsC (joinB (aggrL (recs l))) sz).length) := Lib.hid (by rw [← hrw.2, ← hrw.1, ← Hm2.out]; exact hbm)
  clear hrw eo en hLu hLz hqu hqz hwq hwn hkn hqb hoff
  obtain ⟨pR, hR⟩ := vRead_spoilt (at_ := 0) HA3W.out (by omega) (off := off) (n := n) (by omega) (by rw [← HL.out]; exact hnb.2)
  obtain ⟨⟨xl, xE⟩, hx⟩ : ∃ y, y = pieceS W sz bd off n := ⟨_, rfl⟩
  rw [← hx] at hR
  dsimp only at hR
  have HR := Lib.hid hR
  have HGR : Hid (DGood M2 pR) := Lib.hid (by have := vRead_good (s := PS.new) (sz := sz) (file := 1) (off := (off : Int)) (n := (n : Int)) HG2.out; rw [HR.out] at this; exact this)
  have HX := Lib.hid hx
  clear hR hx
  refine (vol_read 1 (off : Int) (n : Int) sz xl xE pR w14 HV14.out HD14.out HBy.out.size HG2.out hsz (by decide) (by omega) HR.out).mono ?_
  rintro e w15 ⟨aX, mX, cX, rfl, hmX, hX, hd15, hm15⟩
  have HmX := Lib.hid hmX
  have HX15 := Lib.hid hX
  have HDQ := Lib.hid hd15
  have HVQ := Lib.hid (HV14.out.vf hm15)
  have HBQ := Lib.hid (HBy.out.trans (hm15.below (fun b T h => h.1) HBy.out.size))
  have HA15 := Lib.hid (HA11.out.ext HBQ.out)
  clear hmX hX hd15 hm15 HD14 HV14 HBy HA11 HR
  obtain ⟨qa, hqa⟩ : ∃ q, q = off / sz := ⟨_, rfl⟩
  obtain ⟨qb, hqb⟩ : ∃ q, q = (off + n - 1) / sz := ⟨_, rfl⟩
  have hxx := HX.out
  unfold pieceS at hxx
  rw [← hqa, ← hqb] at hxx
  have hd1 : (off : Int).tdiv (sz : Int) = (qa : Int) := by rw [hqa]; rfl
  have hw1 : IntKind.i64.wrap ((off : Int) + (n : Int)) = (off : Int) + (n : Int) := by rw [IntKind.wrap_i64]; omega
  have hw2 : IntKind.i64.wrap ((off : Int) + (n : Int) - 1) = ((off + n - 1 : Nat) : Int) := by rw [IntKind.wrap_i64]; omega
  have hd2 : ((off + n - 1 : Nat) : Int).tdiv (sz : Int) = (qb : Int) := by rw [hqb]; rfl
  have hqal : qa ≤ 102400 := by rw [hqa]; exact Nat.le_trans (Nat.div_le_self _ _) (by omega)
  have hqbl : qb ≤ 102400 := by rw [hqb]; exact Nat.le_trans (Nat.div_le_self _ _) (by omega)
  have hwqa : IntKind.i64.wrap (qa : Int) = (qa : Int) := by rw [IntKind.wrap_i64]; omega
  have hwqb : IntKind.i64.wrap (qb : Int) = (qb : Int) := by rw [IntKind.wrap_i64]; omega
  have hszz : ¬ ((sz : Int) = 0) := by omega
  clear hqa hqb HX
  by_cases hc : qa ≤ bd ∧ bd ≤ qb
  · rw [if_pos hc] at hxx
    simp only [Prod.mk.injEq] at hxx
    obtain ⟨rfl, rfl⟩ := hxx
    obtain rfl : mX = 0 := HmX.out
    have e9 : decide (qa ≤ bd) = true := by simp; omega
    have e10 : decide (bd ≤ qb) = true := by simp; omega
    clear hc
    obtain ⟨pS, hS⟩ := vScan_spoilt (at_ := pR) (b := bd) (rfl : (sz : Int) = (sz : Int)) HPO3.out HF2.out HA3.out HBL.out
    obtain ⟨mk, hmk⟩ : ∃ mk, mk = cntP (recs l) (bd * sz) (recs l).length := ⟨_, rfl⟩
    rw [← hmk] at hS
    have hcnt := cntP_ok (recs l) (bd * sz) (recs l).length
    rw [← hmk, recs_length, ← HN.out] at hcnt
    have hmk2 : mk = cntP (recs l) (bd * sz) no := by rw [hmk, recs_length, HN.out]
    have HS := Lib.hid hS
    have Hmk := Lib.hid hmk2
    have hmN := hcnt.1
    clear hS hmk hcnt hmk2
    go_wp2_with fail
    refine (vol_scan 1 ((recs l).take mk) ((offsP (recs l)).take mk) false 0 pS w15 HVQ.out HDQ.out HBQ.out.size HO2.out (by decide) HS.out).mono ?_
    rintro e w20 ⟨aR, nR, cR, vs, aI, cI, rfl, hn1, hn2, hrec, hrl, hoff, hd20, hm20⟩
    have hnm : nR = mk := by
      rw [hn2, List.length_take]
      unfold offsP
      rw [List.length_map, List.length_range, recs_length, ← HN.out]
      omega
    subst hnm
    have Hn1 := Lib.hid hn1
    have HREC := Lib.hid hrec
    have HRL := Lib.hid hrl
    have HOFF := Lib.hid hoff
    have HB20 := Lib.hid (HBQ.out.trans (hm20.below (fun b T h => h.1) HBQ.out.size))
    have HP20 := Lib.hid (HP11.out.offs.ext HB20.out)
    have Hs20 := Lib.hid (Hs11.out.ext HB20.out)
    have HR20 := Lib.hid (bthen HB11.out HB20.out (Nat.le_refl _))
    clear hn1 hn2 hrec hrl hoff hd20 hm20 HVQ HDQ HBQ HB11 HS
    have t1 : decide (no < nR) = false := by simp; omega
    have t2 : nR ≤ cL := by omega
    have t3 : nR ≤ cO := by have := HP20.out.len.1; omega
    go_wp2_with fail
    have Hlt : Hid (nR = (l.take nR).length) := Lib.hid (by rw [List.length_take, ← HN.out]; omega)
    refine (records_at aR cR vs aL cL (l.take nR) w20 nR nR true HREC.out.mat (Hs20.out.take nR) Hn1.out Hlt.out (by omega) (by omega) (by rw [HRL.out]; unfold recs; rw [List.map_take]; simp)).mono ?_
    rintro e w21 ⟨rfl, hb21⟩
    have HOFF21 := Lib.hid (HOFF.out.ext hb21)
    have HP21 := Lib.hid (HP20.out.ext hb21)
    have Hs21 := Lib.hid (Hs20.out.ext hb21)
    have HR21 := Lib.hid (bthen HR20.out hb21 (Nat.le_refl _))
    clear hb21 HOFF HP20 Hs20 HR20 HREC
    go_wp2_with fail
    have Hol : Hid (nR = ((offsP (recs l)).take nR).length) := Lib.hid (by
      rw [List.length_take]
      unfold offsP
      rw [List.length_map, List.length_range, recs_length, ← HN.out]
      omega)
    have Hsrc : Hid (Src w21 aO (ivs ((offsP (recs l)).take nR))) := Lib.hid (by have := HP21.out.src.take nR; unfold ivs at this ⊢; rw [List.map_take]; exact this)
    refine (keepints_at aI cI ((offsP (recs l)).take nR) aO cO ((offsP (recs l)).take nR) w21 nR nR true HOFF21.out.src Hsrc.out Hol.out Hol.out (by omega) (by omega) (by simp)).mono ?_
    rintro e w22 ⟨rfl, hb22⟩
    have HP22 := Lib.hid (HP21.out.ext hb22)
    have Hs22 := Lib.hid (Hs21.out.ext hb22)
    have HR22 := Lib.hid (bthen HR21.out hb22 (Nat.le_refl _))
    clear hb22 HOFF21 HP21 Hs21 HR21 Hsrc Hol t1 t2 t3
    go_wp2_with fail
    go_loopw [24, 25] (fun wv iv wr => ∃ (j : Nat) (wx : World), wx = wr ∧ j ≤ no ∧ wv = .int .i64 ((cntP (recs l) (bd * sz) j : Nat) : Int) ∧ iv = .int .i64 (j : Int) ∧ Below w22.heap.size w22 wx) (fun _ iv _ => no - (intOf iv).toNat)
    case atStart => exact ⟨0, _, rfl, by omega, rfl, rfl, Below.refl _ _⟩
    case round =>
      obtain ⟨j, wx, hwx, hj, rfl, rfl, hbx⟩ := hrel
      subst hwx
      obtain ⟨cj, hcj⟩ : ∃ c, c = cntP (recs l) (bd * sz) j := ⟨_, rfl⟩
      have hcjl : cj ≤ j := by rw [hcj]; exact (cntP_ok (recs l) (bd * sz) j).1
      rw [← hcj]
      have Hcj := Lib.hid hcj
      have HBX := Lib.hid hbx
      clear hcj hbx
      by_cases hjn : j < no
      · have hjl : j < l.length := by rw [← HN.out]; exact hjn
        have hjr : j < (recs l).length := by rw [recs_length]; exact hjl
        obtain ⟨rb, ro, rfl, hlr, hat⟩ := Hs22.out.at hjl
        obtain ⟨_, _, q2⟩ := hat j hjl
        obtain ⟨ob, rfl, _, hlo, hato, _⟩ := HP22.out.at (i := j) (by omega)
        have hvl : j < (ivs (offsP (recs l))).length := by rw [ivs_length]; unfold offsP; rw [List.length_map, List.length_range]; exact hjr
        have q3 := hato j hvl
        have hve : (ivs (offsP (recs l)))[j] = .int .i64 ((offP (recs l) j : Nat) : Int) := by unfold ivs offsP; simp
        rw [hve] at q3
        obtain ⟨dl, hdl⟩ : ∃ n, n = l[j].d.l.length := ⟨_, rfl⟩
        rw [← hdl] at q2
        obtain ⟨oj, hoj⟩ : ∃ n, n = offP (recs l) j := ⟨_, rfl⟩
        rw [← hoj] at q3
        have hsucc : offP (recs l) (j + 1) = oj + 13 + dl := by
          have hgj : (recs l)[j].d.length = l[j].d.l.length := by simp [recs, RecV.pl]
          rw [offP_succ hjr, hgj, hoj, hdl]
          omega
        have hoL : oj ≤ 102500 ∧ dl ≤ 102500 := by
          have h1 := offP_mono (recs l) (show j + 1 ≤ (recs l).length by omega)
          have h2 := aggr_len (recs l)
          have h3 : (joinB (aggrL (recs l))).length = L := by rw [HL.out, HWJ.out]
          omega
        have hbs : bd * sz ≤ 256 * 400 := by
          have h1 : bd * sz ≤ 400 * 256 := Nat.mul_le_mul (by omega) hsz.2
          omega
        obtain ⟨BS, hBS⟩ : ∃ n, n = bd * sz := ⟨_, rfl⟩
        have r2 := (World.cell?_of_block (w := w22) (a := ⟨rb, ro + j * 3 + 2, none⟩) (HBX.out.block rb hlr)).trans q2
        have r3 := (World.cell?_of_block (w := w22) (a := ⟨ob, j, none⟩) (HBX.out.block ob hlo)).trans q3
        have u1 : IntKind.i64.wrap ((oj : Int) + 13) = ((oj + 13 : Nat) : Int) := by rw [IntKind.wrap_i64]; omega
        have u2 : IntKind.i64.wrap (((oj + 13 : Nat) : Int) + (dl : Int)) = ((oj + 13 + dl : Nat) : Int) := by rw [IntKind.wrap_i64]; omega
        have u3 : IntKind.i64.wrap ((bd : Int) * (sz : Int)) = (BS : Int) := by rw [show ((bd : Int) * (sz : Int)) = ((bd * sz : Nat) : Int) from (Int.natCast_mul bd sz).symm, ← hBS, IntKind.wrap_i64]; omega
        have Hsucc := Lib.hid hsucc
        have HBS := Lib.hid hBS
        have hwc : IntKind.i64.wrap ((cj : Int) + 1) = (cj : Int) + 1 := by rw [IntKind.wrap_i64]; omega
        clear hat hato hve q2 q3 hdl hoj hsucc hBS hbs
        have hnx : cntP (recs l) (bd * sz) (j + 1) = cj + if oj + 13 + dl ≤ BS then 1 else 0 := by
          show cntP (recs l) (bd * sz) j + (if offP (recs l) (j + 1) ≤ bd * sz then 1 else 0) = _
          rw [Hsucc.out, ← Hcj.out, ← HBS.out]
        have Hnx := Lib.hid hnx
        clear hnx
        by_cases hle : oj + 13 + dl ≤ BS
        · have v1 : ((oj + 13 + dl : Nat) : Int) ≤ (BS : Int) := by omega
          have hnx := Hnx.out
          rw [if_pos hle] at hnx
          have Hnx2 := Lib.hid hnx
          clear hnx Hnx
          go_wp2_with fail
          go_region
          go_wp2_with fail
          go_roundw
          case rel => exact ⟨j + 1, _, rfl, by omega, by rw [Hnx2.out]; go_num, by go_num, HBX.out.drew⟩
          case measure => simp [intOf]; omega
        · have v1 : decide (((oj + 13 + dl : Nat) : Int) ≤ (BS : Int)) = false := by simp; omega
          have hnx := Hnx.out
          rw [if_neg hle] at hnx
          have Hnx2 := Lib.hid hnx
          clear hnx Hnx
          go_wp2_with fail
          go_region
          go_wp2_with fail
          go_roundw
          case rel => exact ⟨j + 1, _, rfl, by omega, by rw [Hnx2.out]; go_num, by go_num, HBX.out.drew⟩
          case measure => simp [intOf]; omega
      · obtain rfl : no = j := by omega
        have heq : cj = nR := by rw [Hcj.out, Hmk.out]
        subst heq
        go_wp2_with fail
        refine (wakes16_any _).mono ?_
        rintro e w24 ⟨rfl, hb24⟩
        have HB24 := bthen (bthen HR22.out HBX.out (Nat.le_refl _)) hb24 (Nat.le_refl _)
        clear hb24
        go_wp2
        go_ret
        exact ⟨rfl, HB24⟩
  · rw [if_neg hc] at hxx
    simp only [Prod.mk.injEq] at hxx
    obtain ⟨rfl, rfl⟩ := hxx
    have hmn : mX = n := by rw [HmX.out, List.length_take, List.length_drop, ← HL.out]; omega
    subst hmn
    obtain ⟨xA, hxA, hBA, hlA, _, _⟩ := HA15.out.at (i := 0) (by omega)
    subst hxA
    have hcA := HA15.out.len.1
    have hne : ¬ cA = off := by omega
    have hle1 : (off : Int) + (mX : Int) ≤ (cA : Int) := by omega
    have hle2 : 0 ≤ (off : Int) + (mX : Int) := by omega
    have HS15 : Hid (Src w15 (some ⟨xA, off, none⟩) (bvs ((W.drop off).take mX))) := Lib.hid (by
      have := Src.sub HA15.out.src off mX
      rw [bvs_take, bvs_drop]
      rw [Nat.zero_add] at this
      exact this)
    have Hmx2 : Hid (mX = ((W.drop off).take mX).length) := HmX
    clear HmX hBA hlA
    by_cases h9 : qa ≤ bd
    · have e9 : decide (qa ≤ bd) = true := by simp; omega
      have e10 : decide (bd ≤ qb) = false := by simp; omega
      clear hc h9
      go_wp2_with fail
      refine (bytes_at aX cX ((W.drop off).take mX) _ (cA - off) ((W.drop off).take mX) w15 mX mX true HX15.out.src HS15.out Hmx2.out Hmx2.out (by omega) (by omega) (by simp)).mono ?_
      rintro e w16 ⟨rfl, nn, rfl⟩
      have hbd := ext_drewN w15 nn w15.heap.size
      have HDQ' := Lib.hid (HDQ.out.ext hbd)
      have HVQ' := Lib.hid (HVQ.out.ext hbd)
      have HBQ' := Lib.hid (bthen HBQ.out hbd (Nat.le_refl _))
      clear hbd HDQ HVQ HBQ HX15 HS15 HA15
      have HDQ := HDQ'
      have HVQ := HVQ'
      have HBQ := HBQ'
      clear HDQ' HVQ' HBQ'
      generalize w15.drewN nn = w16 at *
      obtain ⟨pS, hS⟩ := vScan_spoilt (at_ := pR) (b := bd) (rfl : (sz : Int) = (sz : Int)) HPO3.out HF2.out HA3.out HBL.out
      obtain ⟨mk, hmk⟩ : ∃ mk, mk = cntP (recs l) (bd * sz) (recs l).length := ⟨_, rfl⟩
      rw [← hmk] at hS
      have hcnt := cntP_ok (recs l) (bd * sz) (recs l).length
      rw [← hmk, recs_length, ← HN.out] at hcnt
      have hmk2 : mk = cntP (recs l) (bd * sz) no := by rw [hmk, recs_length, HN.out]
      have HS := Lib.hid hS
      have Hmk := Lib.hid hmk2
      have hmN := hcnt.1
      clear hS hmk hcnt hmk2
      go_wp2_with fail
      refine (vol_scan 1 ((recs l).take mk) ((offsP (recs l)).take mk) false 0 pS w16 HVQ.out HDQ.out HBQ.out.size HO2.out (by decide) HS.out).mono ?_
      rintro e w20 ⟨aR, nR, cR, vs, aI, cI, rfl, hn1, hn2, hrec, hrl, hoff, hd20, hm20⟩
      have hnm : nR = mk := by
        rw [hn2, List.length_take]
        unfold offsP
        rw [List.length_map, List.length_range, recs_length, ← HN.out]
        omega
      subst hnm
      have Hn1 := Lib.hid hn1
      have HREC := Lib.hid hrec
      have HRL := Lib.hid hrl
      have HOFF := Lib.hid hoff
      have HB20 := Lib.hid (HBQ.out.trans (hm20.below (fun b T h => h.1) HBQ.out.size))
      have HP20 := Lib.hid (HP11.out.offs.ext HB20.out)
      have Hs20 := Lib.hid (Hs11.out.ext HB20.out)
      have HR20 := Lib.hid (bthen HB11.out HB20.out (Nat.le_refl _))
      clear hn1 hn2 hrec hrl hoff hd20 hm20 HVQ HDQ HBQ HB11 HS
      have t1 : decide (no < nR) = false := by simp; omega
      have t2 : nR ≤ cL := by omega
      have t3 : nR ≤ cO := by have := HP20.out.len.1; omega
      go_wp2_with fail
      have Hlt : Hid (nR = (l.take nR).length) := Lib.hid (by rw [List.length_take, ← HN.out]; omega)
      refine (records_at aR cR vs aL cL (l.take nR) w20 nR nR true HREC.out.mat (Hs20.out.take nR) Hn1.out Hlt.out (by omega) (by omega) (by rw [HRL.out]; unfold recs; rw [List.map_take]; simp)).mono ?_
      rintro e w21 ⟨rfl, hb21⟩
      have HOFF21 := Lib.hid (HOFF.out.ext hb21)
      have HP21 := Lib.hid (HP20.out.ext hb21)
      have Hs21 := Lib.hid (Hs20.out.ext hb21)
      have HR21 := Lib.hid (bthen HR20.out hb21 (Nat.le_refl _))
      clear hb21 HOFF HP20 Hs20 HR20 HREC
      go_wp2_with fail
      have Hol : Hid (nR = ((offsP (recs l)).take nR).length) := Lib.hid (by
        rw [List.length_take]
        unfold offsP
        rw [List.length_map, List.length_range, recs_length, ← HN.out]
        omega)
      have Hsrc : Hid (Src w21 aO (ivs ((offsP (recs l)).take nR))) := Lib.hid (by have := HP21.out.src.take nR; unfold ivs at this ⊢; rw [List.map_take]; exact this)
      refine (keepints_at aI cI ((offsP (recs l)).take nR) aO cO ((offsP (recs l)).take nR) w21 nR nR true HOFF21.out.src Hsrc.out Hol.out Hol.out (by omega) (by omega) (by simp)).mono ?_
      rintro e w22 ⟨rfl, hb22⟩
      have HP22 := Lib.hid (HP21.out.ext hb22)
      have Hs22 := Lib.hid (Hs21.out.ext hb22)
      have HR22 := Lib.hid (bthen HR21.out hb22 (Nat.le_refl _))
      clear hb22 HOFF21 HP21 Hs21 HR21 Hsrc Hol t1 t2 t3
      go_wp2_with fail
      go_loopw [24, 25] (fun wv iv wr => ∃ (j : Nat) (wx : World), wx = wr ∧ j ≤ no ∧ wv = .int .i64 ((cntP (recs l) (bd * sz) j : Nat) : Int) ∧ iv = .int .i64 (j : Int) ∧ Below w22.heap.size w22 wx) (fun _ iv _ => no - (intOf iv).toNat)
      case atStart => exact ⟨0, _, rfl, by omega, rfl, rfl, Below.refl _ _⟩
      case round =>
        obtain ⟨j, wx, hwx, hj, rfl, rfl, hbx⟩ := hrel
        subst hwx
        obtain ⟨cj, hcj⟩ : ∃ c, c = cntP (recs l) (bd * sz) j := ⟨_, rfl⟩
        have hcjl : cj ≤ j := by rw [hcj]; exact (cntP_ok (recs l) (bd * sz) j).1
        rw [← hcj]
        have Hcj := Lib.hid hcj
        have HBX := Lib.hid hbx
        clear hcj hbx
        by_cases hjn : j < no
        · have hjl : j < l.length := by rw [← HN.out]; exact hjn
          have hjr : j < (recs l).length := by rw [recs_length]; exact hjl
          obtain ⟨rb, ro, rfl, hlr, hat⟩ := Hs22.out.at hjl
          obtain ⟨_, _, q2⟩ := hat j hjl
          obtain ⟨ob, rfl, _, hlo, hato, _⟩ := HP22.out.at (i := j) (by omega)
          have hvl : j < (ivs (offsP (recs l))).length := by rw [ivs_length]; unfold offsP; rw [List.length_map, List.length_range]; exact hjr
          have q3 := hato j hvl
          have hve : (ivs (offsP (recs l)))[j] = .int .i64 ((offP (recs l) j : Nat) : Int) := by unfold ivs offsP; simp
          rw [hve] at q3
          obtain ⟨dl, hdl⟩ : ∃ n, n = l[j].d.l.length := ⟨_, rfl⟩
          rw [← hdl] at q2
          obtain ⟨oj, hoj⟩ : ∃ n, n = offP (recs l) j := ⟨_, rfl⟩
          rw [← hoj] at q3
          have hsucc : offP (recs l) (j + 1) = oj + 13 + dl := by
            have hgj : (recs l)[j].d.length = l[j].d.l.length := by simp [recs, RecV.pl]
            rw [offP_succ hjr, hgj, hoj, hdl]
            omega
          have hoL : oj ≤ 102500 ∧ dl ≤ 102500 := by
            have h1 := offP_mono (recs l) (show j + 1 ≤ (recs l).length by omega)
            have h2 := aggr_len (recs l)
            have h3 : (joinB (aggrL (recs l))).length = L := by rw [HL.out, HWJ.out]
            omega
          have hbs : bd * sz ≤ 256 * 400 := by
            have h1 : bd * sz ≤ 400 * 256 := Nat.mul_le_mul (by omega) hsz.2
            omega
          obtain ⟨BS, hBS⟩ : ∃ n, n = bd * sz := ⟨_, rfl⟩
          have r2 := (World.cell?_of_block (w := w22) (a := ⟨rb, ro + j * 3 + 2, none⟩) (HBX.out.block rb hlr)).trans q2
          have r3 := (World.cell?_of_block (w := w22) (a := ⟨ob, j, none⟩) (HBX.out.block ob hlo)).trans q3
          have u1 : IntKind.i64.wrap ((oj : Int) + 13) = ((oj + 13 : Nat) : Int) := by rw [IntKind.wrap_i64]; omega
          have u2 : IntKind.i64.wrap (((oj + 13 : Nat) : Int) + (dl : Int)) = ((oj + 13 + dl : Nat) : Int) := by rw [IntKind.wrap_i64]; omega
          have u3 : IntKind.i64.wrap ((bd : Int) * (sz : Int)) = (BS : Int) := by rw [show ((bd : Int) * (sz : Int)) = ((bd * sz : Nat) : Int) from (Int.natCast_mul bd sz).symm, ← hBS, IntKind.wrap_i64]; omega
          have Hsucc := Lib.hid hsucc
          have HBS := Lib.hid hBS
          have hwc : IntKind.i64.wrap ((cj : Int) + 1) = (cj : Int) + 1 := by rw [IntKind.wrap_i64]; omega
          clear hat hato hve q2 q3 hdl hoj hsucc hBS hbs
          have hnx : cntP (recs l) (bd * sz) (j + 1) = cj + if oj + 13 + dl ≤ BS then 1 else 0 := by
            show cntP (recs l) (bd * sz) j + (if offP (recs l) (j + 1) ≤ bd * sz then 1 else 0) = _
            rw [Hsucc.out, ← Hcj.out, ← HBS.out]
          have Hnx := Lib.hid hnx
          clear hnx
          by_cases hle : oj + 13 + dl ≤ BS
          · have v1 : ((oj + 13 + dl : Nat) : Int) ≤ (BS : Int) := by omega
            have hnx := Hnx.out
            rw [if_pos hle] at hnx
            have Hnx2 := Lib.hid hnx
            clear hnx Hnx
            go_wp2_with fail
            go_region
            go_wp2_with fail
            go_roundw
            case rel => exact ⟨j + 1, _, rfl, by omega, by rw [Hnx2.out]; go_num, by go_num, HBX.out.drew⟩
            case measure => simp [intOf]; omega
          · have v1 : decide (((oj + 13 + dl : Nat) : Int) ≤ (BS : Int)) = false := by simp; omega
            have hnx := Hnx.out
            rw [if_neg hle] at hnx
            have Hnx2 := Lib.hid hnx
            clear hnx Hnx
            go_wp2_with fail
            go_region
            go_wp2_with fail
            go_roundw
            case rel => exact ⟨j + 1, _, rfl, by omega, by rw [Hnx2.out]; go_num, by go_num, HBX.out.drew⟩
            case measure => simp [intOf]; omega
        · obtain rfl : no = j := by omega
          have heq : cj = nR := by rw [Hcj.out, Hmk.out]
          subst heq
          go_wp2_with fail
          refine (wakes16_any _).mono ?_
          rintro e w24 ⟨rfl, hb24⟩
          have HB24 := bthen (bthen HR22.out HBX.out (Nat.le_refl _)) hb24 (Nat.le_refl _)
          clear hb24
          go_wp2
          go_ret
          exact ⟨rfl, HB24⟩
    · have e9 : decide (qa ≤ bd) = false := by simp; omega
      clear hc h9
      go_wp2_with fail
      refine (bytes_at aX cX ((W.drop off).take mX) _ (cA - off) ((W.drop off).take mX) w15 mX mX true HX15.out.src HS15.out Hmx2.out Hmx2.out (by omega) (by omega) (by simp)).mono ?_
      rintro e w16 ⟨rfl, nn, rfl⟩
      have hbd := ext_drewN w15 nn w15.heap.size
      have HDQ' := Lib.hid (HDQ.out.ext hbd)
      have HVQ' := Lib.hid (HVQ.out.ext hbd)
      have HBQ' := Lib.hid (bthen HBQ.out hbd (Nat.le_refl _))
      clear hbd HDQ HVQ HBQ HX15 HS15 HA15
      have HDQ := HDQ'
      have HVQ := HVQ'
      have HBQ := HBQ'
      clear HDQ' HVQ' HBQ'
      generalize w15.drewN nn = w16 at *
      obtain ⟨pS, hS⟩ := vScan_spoilt (at_ := pR) (b := bd) (rfl : (sz : Int) = (sz : Int)) HPO3.out HF2.out HA3.out HBL.out
      obtain ⟨mk, hmk⟩ : ∃ mk, mk = cntP (recs l) (bd * sz) (recs l).length := ⟨_, rfl⟩
      rw [← hmk] at hS
      have hcnt := cntP_ok (recs l) (bd * sz) (recs l).length
      rw [← hmk, recs_length, ← HN.out] at hcnt
      have hmk2 : mk = cntP (recs l) (bd * sz) no := by rw [hmk, recs_length, HN.out]
      have HS := Lib.hid hS
      have Hmk := Lib.hid hmk2
      have hmN := hcnt.1
      clear hS hmk hcnt hmk2
      go_wp2_with fail
      refine (vol_scan 1 ((recs l).take mk) ((offsP (recs l)).take mk) false 0 pS w16 HVQ.out HDQ.out HBQ.out.size HO2.out (by decide) HS.out).mono ?_
      rintro e w20 ⟨aR, nR, cR, vs, aI, cI, rfl, hn1, hn2, hrec, hrl, hoff, hd20, hm20⟩
      have hnm : nR = mk := by
        rw [hn2, List.length_take]
        unfold offsP
        rw [List.length_map, List.length_range, recs_length, ← HN.out]
        omega
      subst hnm
      have Hn1 := Lib.hid hn1
      have HREC := Lib.hid hrec
      have HRL := Lib.hid hrl
      have HOFF := Lib.hid hoff
      have HB20 := Lib.hid (HBQ.out.trans (hm20.below (fun b T h => h.1) HBQ.out.size))
      have HP20 := Lib.hid (HP11.out.offs.ext HB20.out)
      have Hs20 := Lib.hid (Hs11.out.ext HB20.out)
      have HR20 := Lib.hid (bthen HB11.out HB20.out (Nat.le_refl _))
      clear hn1 hn2 hrec hrl hoff hd20 hm20 HVQ HDQ HBQ HB11 HS
      have t1 : decide (no < nR) = false := by simp; omega
      have t2 : nR ≤ cL := by omega
      have t3 : nR ≤ cO := by have := HP20.out.len.1; omega
      go_wp2_with fail
      have Hlt : Hid (nR = (l.take nR).length) := Lib.hid (by rw [List.length_take, ← HN.out]; omega)
      refine (records_at aR cR vs aL cL (l.take nR) w20 nR nR true HREC.out.mat (Hs20.out.take nR) Hn1.out Hlt.out (by omega) (by omega) (by rw [HRL.out]; unfold recs; rw [List.map_take]; simp)).mono ?_
      rintro e w21 ⟨rfl, hb21⟩
      have HOFF21 := Lib.hid (HOFF.out.ext hb21)
      have HP21 := Lib.hid (HP20.out.ext hb21)
      have Hs21 := Lib.hid (Hs20.out.ext hb21)
      have HR21 := Lib.hid (bthen HR20.out hb21 (Nat.le_refl _))
      clear hb21 HOFF HP20 Hs20 HR20 HREC
      go_wp2_with fail
      have Hol : Hid (nR = ((offsP (recs l)).take nR).length) := Lib.hid (by
        rw [List.length_take]
        unfold offsP
        rw [List.length_map, List.length_range, recs_length, ← HN.out]
        omega)
      have Hsrc : Hid (Src w21 aO (ivs ((offsP (recs l)).take nR))) := Lib.hid (by have := HP21.out.src.take nR; unfold ivs at this ⊢; rw [List.map_take]; exact this)
      refine (keepints_at aI cI ((offsP (recs l)).take nR) aO cO ((offsP (recs l)).take nR) w21 nR nR true HOFF21.out.src Hsrc.out Hol.out Hol.out (by omega) (by omega) (by simp)).mono ?_
      rintro e w22 ⟨rfl, hb22⟩
      have HP22 := Lib.hid (HP21.out.ext hb22)
      have Hs22 := Lib.hid (Hs21.out.ext hb22)
      have HR22 := Lib.hid (bthen HR21.out hb22 (Nat.le_refl _))
      clear hb22 HOFF21 HP21 Hs21 HR21 Hsrc Hol t1 t2 t3
      go_wp2_with fail
      go_loopw [24, 25] (fun wv iv wr => ∃ (j : Nat) (wx : World), wx = wr ∧ j ≤ no ∧ wv = .int .i64 ((cntP (recs l) (bd * sz) j : Nat) : Int) ∧ iv = .int .i64 (j : Int) ∧ Below w22.heap.size w22 wx) (fun _ iv _ => no - (intOf iv).toNat)
      case atStart => exact ⟨0, _, rfl, by omega, rfl, rfl, Below.refl _ _⟩
      case round =>
        obtain ⟨j, wx, hwx, hj, rfl, rfl, hbx⟩ := hrel
        subst hwx
        obtain ⟨cj, hcj⟩ : ∃ c, c = cntP (recs l) (bd * sz) j := ⟨_, rfl⟩
        have hcjl : cj ≤ j := by rw [hcj]; exact (cntP_ok (recs l) (bd * sz) j).1
        rw [← hcj]
        have Hcj := Lib.hid hcj
        have HBX := Lib.hid hbx
        clear hcj hbx
        by_cases hjn : j < no
        · have hjl : j < l.length := by rw [← HN.out]; exact hjn
          have hjr : j < (recs l).length := by rw [recs_length]; exact hjl
          obtain ⟨rb, ro, rfl, hlr, hat⟩ := Hs22.out.at hjl
          obtain ⟨_, _, q2⟩ := hat j hjl
          obtain ⟨ob, rfl, _, hlo, hato, _⟩ := HP22.out.at (i := j) (by omega)
          have hvl : j < (ivs (offsP (recs l))).length := by rw [ivs_length]; unfold offsP; rw [List.length_map, List.length_range]; exact hjr
          have q3 := hato j hvl
          have hve : (ivs (offsP (recs l)))[j] = .int .i64 ((offP (recs l) j : Nat) : Int) := by unfold ivs offsP; simp
          rw [hve] at q3
          obtain ⟨dl, hdl⟩ : ∃ n, n = l[j].d.l.length := ⟨_, rfl⟩
          rw [← hdl] at q2
          obtain ⟨oj, hoj⟩ : ∃ n, n = offP (recs l) j := ⟨_, rfl⟩
          rw [← hoj] at q3
          have hsucc : offP (recs l) (j + 1) = oj + 13 + dl := by
            have hgj : (recs l)[j].d.length = l[j].d.l.length := by simp [recs, RecV.pl]
            rw [offP_succ hjr, hgj, hoj, hdl]
            omega
          have hoL : oj ≤ 102500 ∧ dl ≤ 102500 := by
            have h1 := offP_mono (recs l) (show j + 1 ≤ (recs l).length by omega)
            have h2 := aggr_len (recs l)
            have h3 : (joinB (aggrL (recs l))).length = L := by rw [HL.out, HWJ.out]
            omega
          have hbs : bd * sz ≤ 256 * 400 := by
            have h1 : bd * sz ≤ 400 * 256 := Nat.mul_le_mul (by omega) hsz.2
            omega
          obtain ⟨BS, hBS⟩ : ∃ n, n = bd * sz := ⟨_, rfl⟩
          have r2 := (World.cell?_of_block (w := w22) (a := ⟨rb, ro + j * 3 + 2, none⟩) (HBX.out.block rb hlr)).trans q2
          have r3 := (World.cell?_of_block (w := w22) (a := ⟨ob, j, none⟩) (HBX.out.block ob hlo)).trans q3
          have u1 : IntKind.i64.wrap ((oj : Int) + 13) = ((oj + 13 : Nat) : Int) := by rw [IntKind.wrap_i64]; omega
          have u2 : IntKind.i64.wrap (((oj + 13 : Nat) : Int) + (dl : Int)) = ((oj + 13 + dl : Nat) : Int) := by rw [IntKind.wrap_i64]; omega
          have u3 : IntKind.i64.wrap ((bd : Int) * (sz : Int)) = (BS : Int) := by rw [show ((bd : Int) * (sz : Int)) = ((bd * sz : Nat) : Int) from (Int.natCast_mul bd sz).symm, ← hBS, IntKind.wrap_i64]; omega
          have Hsucc := Lib.hid hsucc
          have HBS := Lib.hid hBS
          have hwc : IntKind.i64.wrap ((cj : Int) + 1) = (cj : Int) + 1 := by rw [IntKind.wrap_i64]; omega
          clear hat hato hve q2 q3 hdl hoj hsucc hBS hbs
          have hnx : cntP (recs l) (bd * sz) (j + 1) = cj + if oj + 13 + dl ≤ BS then 1 else 0 := by
            show cntP (recs l) (bd * sz) j + (if offP (recs l) (j + 1) ≤ bd * sz then 1 else 0) = _
            rw [Hsucc.out, ← Hcj.out, ← HBS.out]
          have Hnx := Lib.hid hnx
          clear hnx
          by_cases hle : oj + 13 + dl ≤ BS
          · have v1 : ((oj + 13 + dl : Nat) : Int) ≤ (BS : Int) := by omega
            have hnx := Hnx.out
            rw [if_pos hle] at hnx
            have Hnx2 := Lib.hid hnx
            clear hnx Hnx
            go_wp2_with fail
            go_region
            go_wp2_with fail
            go_roundw
            case rel => exact ⟨j + 1, _, rfl, by omega, by rw [Hnx2.out]; go_num, by go_num, HBX.out.drew⟩
            case measure => simp [intOf]; omega
          · have v1 : decide (((oj + 13 + dl : Nat) : Int) ≤ (BS : Int)) = false := by simp; omega
            have hnx := Hnx.out
            rw [if_neg hle] at hnx
            have Hnx2 := Lib.hid hnx
            clear hnx Hnx
            go_wp2_with fail
            go_region
            go_wp2_with fail
            go_roundw
            case rel => exact ⟨j + 1, _, rfl, by omega, by rw [Hnx2.out]; go_num, by go_num, HBX.out.drew⟩
            case measure => simp [intOf]; omega
        · obtain rfl : no = j := by omega
          have heq : cj = nR := by rw [Hcj.out, Hmk.out]
          subst heq
          go_wp2_with fail
          refine (wakes16_any _).mono ?_
          rintro e w24 ⟨rfl, hb24⟩
          have HB24 := bthen (bthen HR22.out HBX.out (Nat.le_refl _)) hb24 (Nat.le_refl _)
          clear hb24
          go_wp2
          go_ret
          exact ⟨rfl, HB24⟩
end Go.Proofs.Ytjngfkkbfkoedaa
