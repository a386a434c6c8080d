/- Several texts of this claim, one behind the other: VolWk, VolWakes, VolTrim. -/
import Derived.Test.YtclkkhpnnbkfmaaVolumeBackPartV
import Derived.Test.YtclkkhpnnbkfmaaVolRead
import Derived.Test.YtclkkhpnnbkfmaaVolumeBackPartM
import Derived.Lib.SlBytesConst
import Derived.Test.YtclkkhpnnbkfmaaVolApp
/- What cellarerlaw16.wakes makes, plainly. -/
namespace Go.Proofs.Ytclkkhpnnbkfmaa
open Go.RowKit

def wr16 : List Rec := [⟨1, 0, [120#8]⟩]
def wj16 : List Byte := joinB (aggrL wr16)
def rows16 : List (List Byte) := rowsC wj16 32
def lab16 : List Byte := lbytes 2 0 0
theorem wj16_len : wj16.length = 40 := by simp [wj16, wr16, aggrL, joinB_cons, frameOf_length, joinB]
theorem wk16_whole : wholeP 32 wr16 = (wj16, 0) := by
  have h : joinE (aggrL wr16) = 0 := by decide
  unfold wholeP
  rw [if_neg (by decide), if_neg (by decide), if_neg (by rw [h]; decide), if_neg (by decide)]
  rfl
theorem wk16_pack : packP 32 wr16 = (rows16, [13], 0) := by
  unfold packP
  rw [wk16_whole, if_neg (by decide)]
  rfl
theorem rows16_eq : rows16 = [wj16.take 32, wj16.drop 32] := by
  unfold rows16 rowsC
  rw [wj16_len]
  show [rowC wj16 32 0, rowC wj16 32 1] = _
  unfold rowC
  have h2 : (wj16.drop 32).take 32 = wj16.drop 32 := List.take_of_length_le (by rw [List.length_drop, wj16_len]; decide)
  rw [show 0 * 32 = 0 from rfl, show 1 * 32 = 32 from rfl, List.drop_zero, h2]
theorem rows16_ok : ∀ r ∈ rows16, 1 ≤ r.length ∧ r.length ≤ 256 := by
  rw [rows16_eq]
  intro r hr
  rcases List.mem_cons.1 hr with rfl | hr
  · rw [List.length_take, wj16_len]; decide
  · rw [List.mem_singleton.1 hr, List.length_drop, wj16_len]; decide
theorem wk16_format : vFormat PS.new ⟨30, []⟩ 0 2 0 0 = (0, PS.new, volT 30 lab16 [], 2) :=
  vFormat_ok (by decide) (by decide) (by rw [lbytes_length]; decide)
theorem rows16_len : rows16.length = 2 := by rw [rows16_eq]; rfl
theorem wk16_append : vAppend PS.new (volT 30 lab16 []) 2 0 32 wr16 = ([13], 0, PS.new, volT 30 lab16 [rows16], 5) := by
  have h := vAppend_ok (cap := 30) (lab := lab16) (gs := []) (f := 0) (size := 32) (at_ := 2) (l := wr16) (Nat.zero_le _) wk16_pack rows16_ok (by rw [rows16_len]; decide)
  rw [rows16_len] at h
  exact h
def wd16 : List Byte := ((wj16.take 32).drop 13).take 14
theorem wd16_eq : wd16 = frameOf ⟨1, 0, [120#8]⟩ := by
  have h1 : wj16 = frameOf ⟨4, 1, []⟩ ++ (frameOf ⟨1, 0, [120#8]⟩ ++ joinB [⟨5, 1, []⟩]) := by
    unfold wj16
    rw [show aggrL wr16 = [⟨4, 1, []⟩, ⟨1, 0, [120#8]⟩, ⟨5, 1, []⟩] from rfl, joinB_cons, joinB_cons]
  have h2 : (frameOf ⟨4, 1, []⟩).length = 13 := by simp [frameOf_length]
  have h3 : (frameOf ⟨1, 0, [120#8]⟩).length = 14 := by simp [frameOf_length]
  unfold wd16
  rw [List.drop_take, List.take_take, h1, List.drop_left' h2, show min 14 (32 - 13) = 14 from rfl, List.take_left' h3]
theorem wd16_len : wd16.length = 14 := by rw [wd16_eq]; simp [frameOf_length]
theorem wd16_at : wd16[13]? = some 120#8 := by
  rw [wd16_eq]
  unfold frameOf
  have hl : (fhead ⟨1, 0, [120#8]⟩ ++ crcBytesOf (crc (fhead ⟨1, 0, [120#8]⟩ ++ [120#8]))).length = 13 := by
    rw [List.length_append, crcBytesOf_length]
    rfl
  rw [← List.append_assoc, List.getElem?_append_right (by rw [hl]; decide), hl]
  rfl
theorem wk16_block : vBlock (volT 30 lab16 [rows16]) 1 0 0 = (wj16.take 32, 0, 3) := by
  have hb : (volT 30 lab16 [rows16]).behind 1 = (2, 0) := by
    have := volT_behind 30 lab16 [rows16] 0
    rw [if_pos (Nat.zero_le _)] at this
    exact this
  have hl : (volT 30 lab16 [rows16]).locate 1 0 0 = (0, 2) := by
    rw [locate_behind (by decide) (by rw [hb]), hb]
  have hk : (volT 30 lab16 [rows16]).look 2 = (wj16.take 32, 0) := by
    unfold Med.look
    rw [volT_len, if_neg (by have := lenA_ge [rows16]; simp only [List.length_singleton] at this; omega)]
    have : (volT 30 lab16 [rows16]).cells[(2 : Int).toNat]? = some (blkC (wj16.take 32)) := by
      show (blkC lab16 :: markC :: aggsC [rows16])[2]? = _
      rw [rows16_eq]
      rfl
    rw [this]
    rfl
  unfold vBlock
  rw [hl, if_neg (by decide)]
  dsimp only
  rw [hk, if_neg (by decide), if_neg (by decide)]
  rfl
theorem wk16_read : vRead PS.new (volT 30 lab16 [rows16]) 5 32 1 13 14 = (wd16, 0, 3) := by
  unfold vRead
  rw [if_neg (by decide), if_neg (by decide), if_neg (by decide)]
  show vReadGo (volT 30 lab16 [rows16]) 32 1 14 15 13 [] 0 = _
  unfold vReadGo
  rw [if_neg (by decide), show ((13 / 32 : Nat) : Int) = 0 from rfl, wk16_block]
  dsimp only
  rw [if_neg (by decide), List.length_take, wj16_len, if_neg (by decide)]
  unfold vReadGo
  rw [if_pos]
  · rfl
  · show 14 ≤ ([] ++ wd16).length
    rw [List.nil_append, wd16_len]
    exact Nat.le_refl _
theorem wk16_ok0 : (volT 30 lab16 []).ok = true := volT_ok (by decide) (by decide) (by unfold lab16; rw [lbytes_length]; decide) fun r hr => by cases hr
theorem wk16_ok1 : (volT 30 lab16 [rows16]).ok = true := by
  refine volT_ok (by decide) ?_ (by unfold lab16; rw [lbytes_length]; decide) fun r hr => ?_
  · rw [lenA_cons, rows16_len]; decide
  · rw [List.mem_singleton.1 hr]; exact rows16_ok
theorem wk16_files0 : vFiles (volT 30 lab16 []) = 0 := by decide
theorem wk16_files1 : vFiles (volT 30 lab16 [rows16]) = 1 := by
  refine vFiles_vol 30 lab16 [rows16] ?_
  unfold Med.files
  rw [if_neg (by rw [wk16_ok1]; decide)]
end Go.Proofs.Ytclkkhpnnbkfmaa

/- cellarerlaw16.wakes. -/
namespace Go.Proofs.Ytclkkhpnnbkfmaa
open Go.RowKit

variable {B : Nat} {K : Nat → Prop} {w w' : World} {d g : Nat} {M : Med} {at_ : Int}
set_option maxRecDepth 100000 in
set_option maxHeartbeats 4000000 in
theorem wakes16_any (w : World) :
    Calls Try.prog 20 #[] w fun e w' => e = .returned (.bool true) ∧ Below w.heap.size w w' := by
  have kc := fun (w : World) (C : Array Value) (n c : Nat) => Lib.run_convert_bytes_const (P := Try.prog) w 50 5 C n c Try.underlying50 Try.underlying5
  go_enter Try.func20, Try.ntmps20
  go_wp2_with fail
  refine (power_new w).mono ?_
  rintro e w1 ⟨g, rfl, hp1, hb1⟩
  go_wp2_with fail
  refine (drv_new (g := g) 30 none 0 0 [] w1 (CMat.nil _ _) rfl (by decide) (by simp) (by rfl)).mono ?_
  rintro e w2 ⟨d, a2, c2, cs2, rfl, h2, hb2⟩
  have hd2 : DrvP w.heap.size AllK w2 d g ⟨30, []⟩ 0 PS.new := ⟨⟨_, _, _, _, h2.mono hb1.size fun _ _ _ => trivial⟩, hp1.ext hb2⟩
  have hb02 := bthen hb1 hb2 (Nat.le_refl _)
  have HD := Lib.hid hd2
  have HB := Lib.hid hb02
  clear h2 hp1 hb1 hb2 hd2 hb02
  go_wp2_with fail
  refine (vol_new (d := d) 32 w2 (by decide)).mono ?_
  rintro e w3 ⟨vb, rfl, hv3, hb3⟩
  have HD3 := Lib.hid (HD.out.ext hb3)
  have HB3 := Lib.hid (bthen HB.out hb3 (Nat.le_refl _))
  have HV3 := Lib.hid hv3
  clear hv3 hb3 HD HB
  go_wp2_with fail
  refine (vol_format 2 0 0 0 2 PS.new (volT 30 lab16 []) w3 HV3.out HD3.out (Up.all HB3.out.size) (by rfl) wk16_format).mono ?_
  rintro e w4 ⟨rfl, hd4, hm4⟩
  have HD4 := Lib.hid hd4
  have HB4 := Lib.hid (HB3.out.trans (hm4.below (fun b T h => h.1) HB3.out.size))
  have HV4 := Lib.hid (HV3.out.vf hm4)
  clear hd4 hm4 HD3 HB3 HV3
  go_wp2_with fail
  refine (vol_files 0 w4 HV4.out HD4.out wk16_ok0 wk16_files0).mono ?_
  rintro e w5 ⟨rfl, hb5⟩
  have HD5 := Lib.hid (HD4.out.ext hb5)
  have HB5 := Lib.hid (bthen HB4.out hb5 (Nat.le_refl _))
  have HV5 := Lib.hid (HV4.out.ext hb5)
  clear hb5 HD4 HB4 HV4
  go_wp2_with fail
  have hbA := ext_alloc w5 (.cells #[.int .u8 120] 5 (1, 2))
  have hgA := heap_alloc_new w5 (.cells #[.int .u8 120] 5 (1, 2))
  obtain ⟨wA, hwA⟩ : ∃ y, y = w5.alloc (.cells #[.int .u8 120] 5 (1, 2)) := ⟨_, rfl⟩
  have hsA : wA.heap.size = w5.heap.size + 1 := by rw [hwA]; exact Array.size_push ..
  rw [← hwA] at hbA hgA ⊢
  rw [← hsA]
  have hbR := ext_alloc wA (.cells #[.int .i64 1, .int .i64 0, .slice (some ⟨w5.heap.size, 0, none⟩) 1 1] 54)
  have hgR := heap_alloc_new wA (.cells #[.int .i64 1, .int .i64 0, .slice (some ⟨w5.heap.size, 0, none⟩) 1 1] 54)
  have hgA2 := (hbR.block w5.heap.size (heap_lt hgA)).trans hgA
  obtain ⟨wR, hwR⟩ : ∃ y, y = wA.alloc (.cells #[.int .i64 1, .int .i64 0, .slice (some ⟨w5.heap.size, 0, none⟩) 1 1] 54) := ⟨_, rfl⟩
  rw [← hwR] at hbR hgR hgA2 ⊢
  have hbAR := bthen hbA hbR (Nat.le_refl _)
  have HMR : Hid (∀ w', Mod (VF w.heap.size AllK) wR w' → RMat w' (some ⟨wA.heap.size, 0, none⟩) [⟨1, 0, ⟨some ⟨w5.heap.size, 0, none⟩, 1, [120#8]⟩⟩]) := Lib.hid fun w' hm =>
    ⟨Or.inr ⟨_, 0, _, _, _, rfl, hm.keep hgR (VF_no (by decide)), rfl⟩, fun r hr => by rw [List.mem_singleton.1 hr]; exact ⟨src_vf (B := w.heap.size) (K := AllK) (l := [120#8]) hgA2 w' hm, show (1 : Nat) ≤ 9223372036854775807 by decide⟩⟩
  have HD6 := Lib.hid (HD5.out.ext hbAR)
  have HB6 := Lib.hid (bthen HB5.out hbAR (Nat.le_refl _))
  have HV6 := Lib.hid (HV5.out.ext hbAR)
  clear hbA hgA hbR hgR hgA2 hbAR HD5 HB5 HV5 hsA hwA hwR
  refine (vol_append 0 (some ⟨wA.heap.size, 0, none⟩) 1 1 [⟨1, 0, ⟨some ⟨w5.heap.size, 0, none⟩, 1, [120#8]⟩⟩] [13] 0 5 PS.new (volT 30 lab16 [rows16]) wR HV6.out HD6.out (Up.all HB6.out.size) wk16_ok0 HMR.out rfl (by decide) (by decide) wk16_append).mono ?_
  rintro e w7 ⟨aO, no, cO, rfl, rfl, hO, hd7, hm7⟩
  have HD7 := Lib.hid hd7
  have HB7 := Lib.hid (HB6.out.trans (hm7.below (fun b T h => h.1) HB6.out.size))
  have HV7 := Lib.hid (HV6.out.vf hm7)
  have HO := Lib.hid hO
  clear hd7 hm7 hO HD6 HB6 HV6 HMR
  go_wp2_with fail
  refine (vol_read 1 13 14 32 wd16 0 3 w7 HV7.out HD7.out HB7.out.size ⟨wk16_ok1, 5, rfl, by rw [volT_len, lenA_cons, rows16_len]; decide⟩ (by decide) (by decide) (by decide) wk16_read).mono ?_
  rintro e w8 ⟨aD, m, cD, rfl, hmd, hOD, hd8, hm8⟩
  obtain rfl : m = 14 := hmd.trans wd16_len
  have HD8 := Lib.hid hd8
  have HB8 := Lib.hid (HB7.out.trans (hm8.below (fun b T h => h.1) HB7.out.size))
  have HV8 := Lib.hid (HV7.out.vf hm8)
  have hO8 := HO.out.mod hm8 fun b _ _ => VF_no (by decide)
  obtain ⟨x, rfl, _, _, hat, _⟩ := hO8.at (i := 0) (by decide)
  have r0 : w8.cell? ⟨x, 0, none⟩ = some (.int .i64 13) := hat 0 (by decide)
  obtain ⟨y, rfl, _, _, haty, _⟩ := hOD.at (i := 13) (by decide)
  have hvl : (bvs wd16).length = 14 := by rw [bvs, List.length_map, wd16_len]
  have hve : (bvs wd16)[13]? = some (.int .u8 120) := by rw [bvs, List.getElem?_map, wd16_at]; rfl
  have r1 : w8.cell? ⟨y, 13, none⟩ = some (.int .u8 120) := by
    rw [haty 13 (by rw [hvl]; decide), ← hve, List.getElem?_eq_getElem (by rw [hvl]; decide)]
  have HF := Lib.hid HB8.out
  clear hmd hat haty hO8 hOD hd8 hm8 HD7 HB7 HV7 HO hve hvl
  go_wp2_with fail
  refine (vol_files 1 w8 HV8.out HD8.out wk16_ok1 wk16_files1).mono ?_
  rintro e w9 ⟨rfl, hb9⟩
  have hbF := bthen HB8.out hb9 (Nat.le_refl _)
  clear hb9
  go_wp2
  go_ret
  exact ⟨rfl, hbF⟩
end Go.Proofs.Ytclkkhpnnbkfmaa

/- volume: Trim. -/
namespace Go.Proofs.Ytclkkhpnnbkfmaa
open Go.RowKit

variable {B : Nat} {K : Nat → Prop} {w w' : World} {vb d g : Nat} {size : Int} {M : Med} {at_ : Int} {s : PS}
def vTrim (s : PS) (M : Med) (at_ f : Int) : Int × PS × Med × Int :=
  if s.off then (5, s, M, at_) else if (behindV M f).2 ≠ 0 then (8, s, M, 0) else if (behindV M f).1 = M.cells.length then (0, s, M, 0) else
    ((dvEnd s M (behindV M f).1.toNat).1, (dvEnd s M (behindV M f).1.toNat).2.1, (dvEnd s M (behindV M f).1.toNat).2.2, (behindV M f).1)
theorem behindV_ok {f : Int} (h : (behindV M f).2 = 0) : 0 ≤ f ∧ f < M.cells.length ∧ behindV M f = M.behind (f + 1) := by
  unfold behindV at h ⊢
  split at h
  · exact absurd h (by show ¬ (8 : Int) = 0; decide)
  · rename_i h1
    rw [if_neg h1]
    exact ⟨by omega, by omega, rfl⟩
set_option maxRecDepth 100000 in
set_option maxHeartbeats 4000000 in
theorem vol_trim (f : Int) (R at' : Int) (s' : PS) (M' : Med) (w : World) (hv : VolAt w vb d size) (hd : DrvP B K w d g M at_ s) (hB : Up B K w) (hg : M.ok = true) (hf : f ≤ 9223372036854775806) (hr : vTrim s M at_ f = (R, s', M', at')) :
    Calls Try.prog 18 #[.pointer (some ⟨vb, 0, none⟩), .int .i64 f] w fun e w' => e = .returned (.int .i64 R) ∧ DrvP B K w' d g M' at' s' ∧ Mod (VF B K) w w' := by
  have hG : DGood M 0 := ⟨hg, 0, rfl, Nat.zero_le _⟩
  have hcap := hG.at0
  have hlc := (Med.ok_iff.1 hg).1
  have HV := Lib.hid hv
  have HD := Lib.hid hd
  have HU := Lib.hid hB
  have HR := Lib.hid hr
  obtain ⟨⟨P, E⟩, hq⟩ : ∃ y, y = behindV M f := ⟨_, rfl⟩
  have HQ := Lib.hid hq.symm
  have hbd := behindV_le (M := M) (f := f)
  rw [← hq] at hbd
  clear hv hd hB hr hq
  go_enter Try.func18, Try.ntmps18
  go_wp2_with fail
  refine (vol_on (at_ := at_) s.off (if s.off then at_ else 0) w HV.out HD.out hG.len rfl rfl).mono ?_
  rintro r w2 ⟨rfl, h2, hm2⟩
  have HD2 := Lib.hid h2
  have HM2 := Lib.hid hm2
  have HV2 := Lib.hid (HV.out.vf hm2)
  have HU2 := Lib.hid (HU.out.grow hm2.size)
  clear h2 hm2 HD HV HU
  cases hso : s.off with
  | true =>
    have hh := HR.out
    unfold vTrim at hh
    rw [if_pos hso] at hh
    simp only [Prod.mk.injEq] at hh
    obtain ⟨rfl, rfl, rfl, rfl⟩ := hh
    rw [hso] at HD2
    have HD3 : Hid (DrvP B K w2 d g M at_ s) := HD2
    clear HD2 HR
    go_wp2
    go_ret
    exact ⟨rfl, HD3.out, HM2.out⟩
  | false =>
  rw [hso] at HD2
  have HD3 : Hid (DrvP B K w2 d g M 0 s) := HD2
  have Hso := Lib.hid hso
  have hr2 := HR.out
  unfold vTrim at hr2
  rw [if_neg (by rw [hso]; decide), HQ.out] at hr2
  dsimp only at hr2
  have HR2 := Lib.hid hr2
  obtain ⟨c0, c1⟩ := HV2.out.cells
  clear HD2 HR hso hr2
  go_wp2_with fail
  refine (drv_mediumP w2 HD3.out (Nat.le_trans hG.len (by decide)) hG.short).mono ?_
  rintro e w5 ⟨a2, c2, cs2, k2, rfl, hM2, hc2, hb2⟩
  obtain ⟨capx, hcapx⟩ : ∃ z, z = M.cap := ⟨_, rfl⟩
  rw [← hcapx] at hcap
  have Hcx := Lib.hid hcapx
  clear hcapx
  try rw [← Hcx.out]
  have HM5 := Lib.hid hM2
  have HB5 := Lib.hid hb2
  clear hM2 hb2
  go_wp2_with fail
  have hzA := heap_alloc_new w5 (.cells #[.int .i64 capx, .slice a2 k2 c2] 31)
  have hbA := ext_alloc w5 (.cells #[.int .i64 capx, .slice a2 k2 c2] 31)
  obtain ⟨wA, hwA⟩ : ∃ y, y = w5.alloc (.cells #[.int .i64 capx, .slice a2 k2 c2] 31) := ⟨_, rfl⟩
  rw [← hwA] at hzA hbA ⊢
  clear hwA
  refine (vol_behind capx a2 c2 k2 cs2 f P E wA (HM5.out.mat.ext hbA) HM5.out.len.symm (by have := HM5.out.size; have := hG.len; omega) (by rw [Hcx.out, HM5.out.of]; exact HQ.out)).mono ?_
  rintro e w7 ⟨rfl, hb4⟩
  have HB7 := Lib.hid (bthen (bthen HB5.out hbA (Nat.le_refl _)) hb4 (Nat.le_refl _))
  have HZ7 := Lib.hid ((hb4.block _ (heap_lt hzA)).trans hzA)
  clear hb4 hbA hzA
  have x1 := cell_of_row _ w5.heap.size 1 _ _ _ HZ7.out
  have x0 := cell_of_row _ w5.heap.size 0 _ _ _ HZ7.out
  have hk2 : (k2 : Int) = (M.cells.length : Int) := by have := HM5.out.size; omega
  have HD7 := Lib.hid (HD3.out.ext HB7.out)
  have HV7 := Lib.hid (HV2.out.ext HB7.out)
  have HU7 := Lib.hid (HU2.out.grow HB7.out.size)
  have HM7 := Lib.hid (HM2.out.trans (bmod HB7.out _))
  have hr3 := HR2.out
  clear HD3 HV2 HU2 HM2 HB7 HB5 HM5 HZ7 HR2 c0 c1
  by_cases h0 : E = 0
  case neg =>
    have e0 : (E != 0) = true := by simpa using h0
    rw [if_pos h0] at hr3
    simp only [Prod.mk.injEq] at hr3
    obtain ⟨rfl, rfl, rfl, rfl⟩ := hr3
    go_wp2
    go_ret
    exact ⟨rfl, HD7.out, HM7.out⟩
  subst h0
  obtain ⟨hf0, hfl, hbe⟩ := behindV_ok (M := M) (f := f) (by rw [HQ.out])
  rw [HQ.out] at hbe
  rw [if_neg (by decide)] at hr3
  by_cases h1 : P = (M.cells.length : Int)
  case pos =>
    have e1 : (P == (k2 : Int)) = true := by rw [hk2]; simpa using h1
    rw [if_pos h1] at hr3
    simp only [Prod.mk.injEq] at hr3
    obtain ⟨rfl, rfl, rfl, rfl⟩ := hr3
    go_wp2
    go_ret
    exact ⟨rfl, HD7.out, HM7.out⟩
  have e1 : (P == (k2 : Int)) = false := by rw [hk2]; simpa using h1
  rw [if_neg h1] at hr3
  have hlo := locate_behind (M := M) (n := f + 1) (by omega) (by rw [← hbe]) 0
  rw [← hbe] at hlo
  have hPb : 0 ≤ P ∧ P ≤ (M.cells.length : Int) := by
    rcases M.behind_bound (f + 1) with h | h
    · rw [← hbe] at h; exact h.2
    · rw [← hbe] at h; exact absurd h.1 (by show ¬ ((0 : Int) = 8); decide)
  obtain ⟨p, rfl⟩ := Int.eq_ofNat_of_zero_le hPb.1
  have hwf : IntKind.i64.wrap (f + 1) = f + 1 := by have := hG.len; rw [IntKind.wrap_i64]; omega
  obtain ⟨c0, c1⟩ := HV7.out.cells
  have HLO := Lib.hid hlo
  have HPB := Lib.hid hPb
  have HR3 := Lib.hid hr3
  clear hr3 hbe hlo hPb hbd
  go_wp2_with fail
  refine (drv_locate (f + 1) 0 0 (p : Int) s w7 HD7.out hG.len (by omega) (by decide) (by rw [if_neg (by rw [Hso.out]; decide)]; exact HLO.out)).mono ?_
  rintro r w8 ⟨rfl, h8, hm8⟩
  have HD8 := Lib.hid h8
  have HM8 := Lib.hid (HM7.out.trans hm8)
  have HV8 := Lib.hid (HV7.out.vf hm8)
  have HU8 := Lib.hid (HU7.out.grow hm8.size)
  have y1 := hm8.keep HV7.out
  clear h8 hm8 HD7 HM7 HV7 HU7 c0 c1 y1
  obtain ⟨c0, c1⟩ := HV8.out.cells
  go_wp2_with fail
  refine (drv_eot p s s' R M' w8 HD8.out HU8.out (by have := HPB.out; omega) ?_).mono ?_
  · have hh := HR3.out
    simp only [Prod.mk.injEq, Int.toNat_natCast] at hh
    exact Prod.ext hh.1 (Prod.ext hh.2.1 hh.2.2.1)
  have hat : at' = (p : Int) := by have hh := HR3.out; simp only [Prod.mk.injEq] at hh; exact hh.2.2.2.symm
  subst hat
  rintro r w9 ⟨rfl, h9, hm9⟩
  have HM9 := Lib.hid (HM8.out.trans hm9)
  have HD9 := Lib.hid h9
  clear h9 hm9
  go_wp2
  go_ret
  exact ⟨rfl, HD9.out, HM9.out⟩
end Go.Proofs.Ytclkkhpnnbkfmaa
