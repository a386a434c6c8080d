/- volume: New, on, behind, Files, Room, Format. -/
import Derived.Test.YtclkkhpnnbkfmaaVolumeBackPartS
import Derived.Test.YtclkkhpnnbkfmaaVolumeBackPartT
import Derived.Test.YtclkkhpnnbkfmaaVolumeBackPartU
import Derived.Test.YtclkkhpnnbkfmaaVolumeBackPartM
import Derived.Test.YtclkkhpnnbkfmaaVolumeBackPartH
import Derived.Test.YtclkkhpnnbkfmaaVolumeBackPartO
namespace Go.Proofs.Ytclkkhpnnbkfmaa
open Go.RowKit

/-- In block vb stands a volume of the drive in block d. -/
def VolAt (w : World) (vb d : Nat) (size : Int) : Prop := w.heap[vb]? = some (.cells #[.pointer (some ⟨d, 0, none⟩), .int .i64 size] 123 (0, 0))
variable {B : Nat} {K : Nat → Prop} {w w' : World} {vb d g : Nat} {size : Int} {M : Med} {at_ : Int} {s : PS}
theorem VolAt.cells (h : VolAt w vb d size) : w.cell? ⟨vb, 0, none⟩ = some (.pointer (some ⟨d, 0, none⟩)) ∧ w.cell? ⟨vb, 1, none⟩ = some (.int .i64 size) := ⟨cell_of_row _ _ _ _ _ _ h, cell_of_row _ _ _ _ _ _ h⟩
theorem VolAt.ext (h : VolAt w vb d size) (hb : Below w.heap.size w w') : VolAt w' vb d size := (hb.block _ (heap_lt h)).trans h
theorem VolAt.vf (h : VolAt w vb d size) (hm : Mod (VF B K) w w') : VolAt w' vb d size := hm.keep h (by
  rintro ⟨_, h | ⟨_, h⟩⟩ <;> revert h <;> decide)

theorem vol_new (size : Int) (w : World) (hs : 32 ≤ size ∧ size ≤ 256) :
    Calls Try.prog 8 #[.pointer (some ⟨d, 0, none⟩), .int .i64 size] w fun e w' => ∃ vb, e = .returned (.tuple #[.pointer (some ⟨vb, 0, none⟩), .int .i64 0]) ∧ VolAt w' vb d size ∧ Below w.heap.size w w' := by
  have e0 : decide (size < 32) = false := by simp; omega
  have e1 : decide (size > 256) = false := by simp; omega
  have hz := heap_alloc_new w (.cells #[.pointer (some ⟨d, 0, none⟩), .int .i64 size] 123)
  have hb := ext_alloc w (.cells #[.pointer (some ⟨d, 0, none⟩), .int .i64 size] 123)
  go_enter Try.func8, Try.ntmps8
  go_wp2
  go_ret2
  exact ⟨_, rfl, hz, hb⟩
set_option maxHeartbeats 1000000 in
theorem vol_on (o : Bool) (at' : Int) (w : World) (hv : VolAt w vb d size) (hd : DrvP B K w d g M at_ s) (hk : M.cells.length ≤ 90000) (ho : s.off = o) (ha : (if o then at_ else 0) = at') :
    Calls Try.prog 72 #[.pointer (some ⟨vb, 0, none⟩)] w fun e w' => e = .returned (.bool (!o)) ∧ DrvP B K w' d g M at' s ∧ Mod (VF B K) w w' := by
  obtain ⟨c0, c1⟩ := hv.cells
  clear hv
  cases o with
  | true =>
    have hat : at_ = at' := ha
    subst hat
    have HD := Lib.hid hd
    have HO := Lib.hid ho
    clear hd ha ho
    go_enter Try.func72, Try.ntmps72
    go_wp2_with fail
    refine (drv_locate 0 0 5 at_ s w HD.out hk (by decide) (by decide) (by rw [if_pos HO.out])).mono ?_
    rintro e w2 ⟨rfl, h2, hm⟩
    have H2 := Lib.hid h2
    have HM := Lib.hid hm
    clear h2 hm c0 c1
    go_wp2
    go_ret
    exact ⟨rfl, H2.out, HM.out⟩
  | false =>
    have hat : (0 : Int) = at' := ha
    subst hat
    have HD := Lib.hid hd
    have HO := Lib.hid ho
    clear hd ha ho
    go_enter Try.func72, Try.ntmps72
    go_wp2_with fail
    refine (drv_locate 0 0 0 0 s w HD.out hk (by decide) (by decide) (by rw [if_neg (by rw [HO.out]; decide)]; exact locate_00 M at_)).mono ?_
    rintro e w2 ⟨rfl, h2, hm⟩
    have H2 := Lib.hid h2
    have HM := Lib.hid hm
    clear h2 hm c0 c1
    go_wp2
    go_ret
    exact ⟨rfl, H2.out, HM.out⟩
/-- The place behind so many aggregates. -/
def behindV (M : Med) (f : Int) : Int × Int := if f < 0 ∨ (M.cells.length : Int) ≤ f then (0, 8) else M.behind (f + 1)
set_option maxHeartbeats 1000000 in
theorem vol_behind (cap : Int) (a : Option Addr) (c n : Nat) (cs : List CellV) (f R E : Int) (w : World) (hs : CMat w a cs) (hn : n = cs.length) (hn2 : n ≤ 100000) (hr : behindV (medOf cap cs) f = (R, E)) :
    Calls Try.prog 82 #[.agg #[.int .i64 cap, .slice a n c], .int .i64 f] w fun e w' => e = .returned (.tuple #[.int .i64 R, .int .i64 E]) ∧ Below w.heap.size w w' := by
  have hz := heap_alloc_new w (.cells #[.int .i64 cap, .slice a n c] 31)
  have hb := ext_alloc w (.cells #[.int .i64 cap, .slice a n c] 31)
  have d0 := cell_of_row _ w.heap.size 0 _ _ _ hz
  have d1 := cell_of_row _ w.heap.size 1 _ _ _ hz
  have hl : ((medOf cap cs).cells.length : Int) = (n : Int) := by rw [hn]; simp [medOf, pls_length]
  unfold behindV at hr
  rw [hl] at hr
  have HR := Lib.hid hr
  have Hs := Lib.hid (hs.ext hb)
  have Hn := Lib.hid hn
  clear hs hn hr hl hz
  by_cases h0 : f < 0
  · have e0 : decide (f < 0) = true := by simpa using h0
    have hh := HR.out
    rw [if_pos (.inl h0)] at hh
    simp only [Prod.mk.injEq] at hh
    obtain ⟨rfl, rfl⟩ := hh
    clear HR
    go_enter Try.func82, Try.ntmps82
    go_wp2
    go_ret2
    exact ⟨rfl, hb⟩
  have e0 : decide (f < 0) = false := by simpa using h0
  by_cases h1 : (n : Int) ≤ f
  · have e1 : decide (f ≥ (n : Int)) = true := by simpa using h1
    have hh := HR.out
    rw [if_pos (.inr h1)] at hh
    simp only [Prod.mk.injEq] at hh
    obtain ⟨rfl, rfl⟩ := hh
    clear HR
    go_enter Try.func82, Try.ntmps82
    go_wp2
    go_ret2
    exact ⟨rfl, hb⟩
  have e1 : decide (f ≥ (n : Int)) = false := by simpa using h1
  have hw : IntKind.i64.wrap (f + 1) = f + 1 := by rw [IntKind.wrap_i64]; omega
  have hh := HR.out
  rw [if_neg (by omega)] at hh
  have HH := Lib.hid hh
  have HB := Lib.hid hb
  have hf1 : 0 ≤ f + 1 ∧ f + 1 ≤ 9223372036854775807 := by omega
  clear hh HR hb h0 h1
  go_enter Try.func82, Try.ntmps82
  go_wp2_with fail
  refine (behind_any cap a c n cs (f + 1) R E _ Hs.out Hn.out (by omega) hf1.1 hf1.2 HH.out).mono ?_
  rintro e w2 ⟨rfl, hb2⟩
  have HB2 := Lib.hid (bthen HB.out hb2 (Nat.le_refl _))
  clear hb2 d0 d1
  go_wp2
  go_ret2
  exact ⟨rfl, HB2.out⟩
set_option maxHeartbeats 1000000 in
theorem vol_files (R : Int) (w : World) (hv : VolAt w vb d size) (hd : DrvP B K w d g M at_ s) (hg : M.ok = true) (hr : vFiles M = R) :
    Calls Try.prog 12 #[.pointer (some ⟨vb, 0, none⟩)] w fun e w' => e = .returned (.int .i64 R) ∧ Below w.heap.size w w' := by
  have hG : DGood M 0 := ⟨hg, 0, rfl, Nat.zero_le _⟩
  obtain ⟨c0, c1⟩ := hv.cells
  have HD := Lib.hid hd
  obtain ⟨F, hF⟩ : ∃ F, F = M.files := ⟨_, rfl⟩
  have HF := Lib.hid hF
  have hFb : 0 ≤ F ∧ F ≤ 90000 := by
    rw [hF]; unfold Med.files; rw [if_neg (by rw [hg]; decide)]
    have := List.countP_le_length (p := fun c : CellP => decide (c.kind = 2)) (l := M.cells)
    have := hG.len
    unfold marks
    omega
  unfold vFiles at hr
  rw [← hF] at hr
  have hw : IntKind.i64.wrap (F - 1) = F - 1 := by rw [IntKind.wrap_i64]; omega
  clear hv hd hF
  go_enter Try.func12, Try.ntmps12
  go_wp2_with fail
  refine (drv_mediumP w HD.out (Nat.le_trans hG.len (by decide)) hG.short).mono ?_
  rintro e w2 ⟨a2, c2, cs2, k2, rfl, hM2, hc2, hb2⟩
  have HM2 := Lib.hid hM2
  have HB2 := Lib.hid hb2
  clear hM2 hb2 c0 c1
  go_wp2_with fail
  refine (files_any M.cap a2 c2 k2 cs2 F w2 HM2.out.mat HM2.out.len.symm HM2.out.len63 (by rw [HM2.out.of]; exact HF.out.symm)).mono ?_
  rintro e w3 ⟨rfl, hb3⟩
  have HB3 := Lib.hid (bthen HB2.out hb3 (Nat.le_refl _))
  clear hb3
  by_cases h0 : F - 1 < 0
  · rw [if_pos h0] at hr
    subst hr
    go_wp2
    go_ret
    exact ⟨by first | rfl | (congr 2; omega), HB3.out⟩
  · rw [if_neg h0] at hr
    subst hr
    go_wp2
    go_ret
    exact ⟨by first | rfl | (congr 2; omega), HB3.out⟩
theorem roomP_behind (M : Med) (f : Int) : roomP M f = if (behindV M f).2 ≠ 0 then -1 else M.cap - (behindV M f).1 := by
  unfold roomP behindV
  by_cases h : f < 0 ∨ (M.cells.length : Int) ≤ f
  · rw [if_pos h, if_pos h, if_pos (by decide)]
  · rw [if_neg h, if_neg h]
theorem behindV_le {M : Med} {f : Int} : (behindV M f).2 ≠ 0 ∨ 0 ≤ (behindV M f).1 ∧ (behindV M f).1 ≤ M.cells.length := by
  unfold behindV
  split
  · exact .inl (by decide)
  · rcases M.behind_bound (f + 1) with h | h
    · exact .inr h.2
    · exact .inl (by rw [h.1]; decide)
set_option maxHeartbeats 1000000 in
theorem vol_room (f R : Int) (w : World) (hv : VolAt w vb d size) (hd : DrvP B K w d g M at_ s) (hg : M.ok = true) (hr : roomP M f = R) :
    Calls Try.prog 75 #[.pointer (some ⟨vb, 0, none⟩), .int .i64 f] w fun e w' => e = .returned (.int .i64 R) ∧ Below w.heap.size w w' := by
  have hG : DGood M 0 := ⟨hg, 0, rfl, Nat.zero_le _⟩
  have hcap := hG.at0
  have hlc := (Med.ok_iff.1 hg).1
  obtain ⟨c0, c1⟩ := hv.cells
  have HD := Lib.hid hd
  obtain ⟨⟨P, E⟩, hq⟩ : ∃ y, y = behindV M f := ⟨_, rfl⟩
  have HQ := Lib.hid hq.symm
  have hbd := behindV_le (M := M) (f := f)
  rw [roomP_behind, ← hq] at hr
  rw [← hq] at hbd
  clear hv hd hq
  go_enter Try.func75, Try.ntmps75
  go_wp2_with fail
  refine (drv_mediumP w HD.out (Nat.le_trans hG.len (by decide)) hG.short).mono ?_
  rintro e w2 ⟨a2, c2, cs2, k2, rfl, hM2, hc2, hb2⟩
  obtain ⟨hTX, hSX⟩ := TapeO.new M.cap rfl hM2 hc2
  have hzX := heap_alloc_new w2 (.cells #[.int .i64 0, .slice none 0 0] 31)
  have hbX := bthen hb2 hSX (Nat.le_refl _)
  obtain ⟨capx, hcapx⟩ : ∃ z, z = M.cap := ⟨_, rfl⟩
  rw [← hcapx] at hTX hbX hr hcap hSX
  have Hcx := Lib.hid hcapx
  clear hcapx
  try rw [← Hcx.out]
  go_wp2_with (refine wpList_store_row rfl rfl 31 (.tmp 5) (.tmp 14) rfl w2.heap.size rfl 31 #[.int .i64 0, .slice none 0 0] #[.int .i64 capx, .slice a2 k2 c2] rfl hzX rfl (by kernel_rfl) (by simp [Value.oneCell']) ?_
               clear hzX hSX hb2 c0 c1
               generalize (w2.alloc (.cells #[.int .i64 0, .slice none 0 0] 31)).setRow w2.heap.size #[.int .i64 capx, .slice a2 k2 c2] = w3 at *
               generalize w2.heap.size = GX at *
               have HTX := Lib.hid hTX
               have HB3 := Lib.hid hbX
               clear hTX hbX
               obtain ⟨x0, x1⟩ := HTX.out.box.cells
               rw [← Hcx.out] at x0)
  clear x0 x1
  refine (vol_behind capx a2 c2 k2 cs2 f P E w3 HTX.out.r.mat HTX.out.r.len.symm (by have := HTX.out.r.size; have := hG.len; omega) (by rw [Hcx.out, HTX.out.r.of]; exact HQ.out)).mono ?_
  rintro e w4 ⟨rfl, hb4⟩
  have HT4 := Lib.hid (HTX.out.ext hb4)
  have HB4 := Lib.hid (bthen HB3.out hb4 (Nat.le_refl _))
  clear hb4
  obtain ⟨x0, x1⟩ := HT4.out.box.cells
  rw [← Hcx.out] at x0
  by_cases h0 : E = 0
  · subst h0
    rw [if_neg (by simp)] at hr
    change capx - P = R at hr
    subst hr
    have hw : IntKind.i64.wrap (capx - P) = capx - P := by
      rcases hbd with h | h
      · exact absurd rfl h
      · have h2 := h.2; have h1 := h.1; change 0 ≤ P at h1; change P ≤ (M.cells.length : Int) at h2; have := hlc.2.2; rw [IntKind.wrap_i64]; omega
    clear hbd
    go_wp2
    go_ret
    exact ⟨rfl, HB4.out⟩
  · rw [if_pos (by simpa using h0)] at hr
    subst hr
    have e0 : (E != 0) = true := by simpa using h0
    clear hbd
    go_wp2
    go_ret
    exact ⟨rfl, HB4.out⟩
set_option maxRecDepth 100000 in
set_option maxHeartbeats 2000000 in
theorem vol_format (v p e : Int) (R at' : Int) (s' : PS) (M' : Med) (w : World) (hv : VolAt w vb d size) (hd : DrvP B K w d g M at_ s) (hB : Up B K w) (hg : M.ok = true) (hr : vFormat s M at_ v p e = (R, s', M', at')) :
    Calls Try.prog 9 #[.pointer (some ⟨vb, 0, none⟩), .agg #[.int .i64 v, .int .i64 p, .int .i64 e]] w fun r w' => r = .returned (.int .i64 R) ∧ DrvP B K w' d g M' at' s' ∧ Mod (VF B K) w w' := by
  have hG : DGood M 0 := ⟨hg, 0, rfl, Nat.zero_le _⟩
  have hbL := ext_alloc w (.cells #[.int .i64 v, .int .i64 p, .int .i64 e] 37)
  have hzL := heap_alloc_new w (.cells #[.int .i64 v, .int .i64 p, .int .i64 e] 37)
  have HV := Lib.hid (hv.ext hbL)
  have HD := Lib.hid (hd.ext hbL)
  have HU := Lib.hid (hB.grow hbL.size)
  have HM0 : Hid (Mod (VF B K) w _) := Lib.hid (bmod hbL _)
  obtain ⟨GL, hGL⟩ : ∃ n, n = w.heap.size := ⟨_, rfl⟩
  have HR := Lib.hid hr
  clear hv hd hB hr hbL
  go_enter Try.func9, Try.ntmps9
  go_wp2_with fail
  generalize w.alloc (.cells #[.int .i64 v, .int .i64 p, .int .i64 e] 37) = w1 at *
  rw [← hGL] at hzL ⊢
  clear hGL
  refine (vol_on (at_ := at_) s.off (if s.off then at_ else 0) w1 HV.out HD.out hG.len rfl rfl).mono ?_
  rintro r w2 ⟨rfl, h2, hm2⟩
  have HD2 := Lib.hid h2
  have HM2 := Lib.hid (HM0.out.trans hm2)
  have HV2 := Lib.hid (HV.out.vf hm2)
  have HU2 := Lib.hid (HU.out.grow hm2.size)
  have hzL2 := hm2.keep hzL (by rintro ⟨_, h | ⟨_, h⟩⟩ <;> revert h <;> decide)
  clear h2 hm2 hzL HD HM0 HV HU
  cases hso : s.off with
  | true =>
    have hh := HR.out
    unfold vFormat at hh
    rw [if_pos hso] at hh
    simp only [Prod.mk.injEq] at hh
    obtain ⟨rfl, rfl, rfl, rfl⟩ := hh
    rw [hso] at HD2
    have HD3 : Hid (DrvP B K w2 d g M at_ s) := HD2
    clear HD2 HR
    go_wp2
    go_ret
    exact ⟨rfl, HD3.out, HM2.out⟩
  | false =>
    rw [hso] at HD2
    have HD3 : Hid (DrvP B K w2 d g M 0 s) := HD2
    have Hso := Lib.hid hso
    clear HD2 hso
    have l0 := cell_of_row _ GL 0 _ _ _ hzL2
    have l1 := cell_of_row _ GL 1 _ _ _ hzL2
    have l2 := cell_of_row _ GL 2 _ _ _ hzL2
    go_wp2_with fail
    clear l0 l1 l2 hzL2
    obtain ⟨lb, hlb⟩ : ∃ l, l = labB v p e := ⟨_, rfl⟩
    obtain ⟨L, hL⟩ : ∃ n, n = lb.length := ⟨_, rfl⟩
    obtain ⟨El, hEl⟩ : ∃ n, n = labE v p e := ⟨_, rfl⟩
    have HLB := Lib.hid hlb
    have HL := Lib.hid hL
    have HEL := Lib.hid hEl
    refine (labbytes_at v p e El lb L w2 hlb.symm hL.symm hEl.symm).mono ?_
    clear hlb hL hEl
    rintro r w3 ⟨aL, cL, rfl, hoL, hb3⟩
    have HD4 := Lib.hid (HD3.out.ext hb3)
    have HV4 := Lib.hid (HV2.out.ext hb3)
    have HU4 := Lib.hid (HU2.out.grow hb3.size)
    have HM4 := Lib.hid (HM2.out.trans (bmod hb3 _))
    have HO := Lib.hid hoL
    have hcL := hoL.len.1
    clear hb3 hoL HD3 HV2 HU2 HM2
    have HR2 := HR
    cases hok : okL v p e with
    | false =>
      have hh := HR.out
      unfold vFormat at hh
      rw [if_neg (by rw [Hso.out]; decide), if_pos hok] at hh
      simp only [Prod.mk.injEq] at hh
      obtain ⟨rfl, rfl, rfl, rfl⟩ := hh
      have hE1 : El = 1 := by rw [HEL.out, labE_no hok]
      subst hE1
      clear HR HR2 HEL hok
      go_wp2
      go_ret
      exact ⟨rfl, HD4.out, HM4.out⟩
    | true =>
      have hE0 : El = 0 := by rw [HEL.out, labE_ok hok]
      subst hE0
      have hlbe : lb = lbytes v p e := by rw [HLB.out, labB_ok hok]
      have HLB2 := Lib.hid hlbe
      have hL14 : L = 14 := by rw [HL.out, hlbe, lbytes_length]
      subst hL14
      have hh := HR.out
      unfold vFormat at hh
      rw [if_neg (by rw [Hso.out]; decide), if_neg (by rw [hok]; decide)] at hh
      obtain ⟨⟨E1, s1, M1, a1⟩, hw1⟩ : ∃ y, y = dvWrite s M 0 (lbytes v p e) := ⟨_, rfl⟩
      rw [← hw1] at hh
      have HW1 := Lib.hid hw1.symm
      have HH := Lib.hid hh
      obtain ⟨c0, c1⟩ := HV4.out.cells
      clear hlbe hh hw1 HR HR2 HEL HLB hok
      go_wp2_with fail
      refine (drv_locate 0 0 0 0 s w3 HD4.out hG.len (by decide) (by decide) (by rw [if_neg (by rw [Hso.out]; decide)]; exact locate_00 M 0)).mono ?_
      rintro r w5 ⟨rfl, h5, hm5⟩
      have HD5 := Lib.hid h5
      have HM5 := Lib.hid (HM4.out.trans hm5)
      have HV5 := Lib.hid (HV4.out.vf hm5)
      have HU5 := Lib.hid (HU4.out.grow hm5.size)
      have HO5 := Lib.hid (HO.out.mod hm5 fun b _ _ => VF_no_u8 b)
      clear h5 hm5 c0 c1 HD4 HV4 HU4 HM4 HO
      obtain ⟨c0, c1⟩ := HV5.out.cells
      go_wp2_with fail
      refine (drv_write 0 aL 14 cL lb s s1 E1 M1 a1 w5 HD5.out HU5.out (Nat.zero_le _) hG.len (fun w' hm => (HO5.out.mod hm fun b _ _ => VF_no_u8 b).src) HL.out (by decide) hcL (by rw [HLB2.out]; exact HW1.out)).mono ?_
      rintro r w6 ⟨rfl, h6, hm6⟩
      have HD6 := Lib.hid h6
      have HM6 := Lib.hid (HM5.out.trans hm6)
      have HV6 := Lib.hid (HV5.out.vf hm6)
      have HU6 := Lib.hid (HU5.out.grow hm6.size)
      clear h6 hm6 c0 c1 HD5 HV5 HU5 HM5 HO5
      obtain ⟨c0, c1⟩ := HV6.out.cells
      by_cases hE : E1 = 0
      · subst hE
        have hp1 := dvWrite_pos HW1.out rfl
        have hg1 := dvWrite_good hg (Nat.zero_le _) HW1.out
        have ha1 : a1 = ((1 : Nat) : Int) := by rw [hp1]; rfl
        subst ha1
        have hh := HH.out
        rw [if_neg (by simp)] at hh
        change dvMark s1 M1 1 = _ at hh
        have HH2 := Lib.hid hh
        have hM1l : 1 ≤ M1.cells.length := by
          obtain ⟨q, hq, hql⟩ := hg1.1.pos
          omega
        have hM1g := hg1.1.len
        clear hh hg1 hp1 HH
        go_wp2_with fail
        refine (drv_mark 1 s1 s' R M' at' w6 HD6.out HU6.out hM1l hM1g HH2.out).mono ?_
        rintro r w7 ⟨rfl, h7, hm7⟩
        have HD7 := Lib.hid h7
        have HM7 := Lib.hid (HM6.out.trans hm7)
        clear h7 hm7 c0 c1
        go_wp2
        go_ret
        exact ⟨rfl, HD7.out, HM7.out⟩
      · have hh := HH.out
        rw [if_pos (by exact hE)] at hh
        simp only [Prod.mk.injEq] at hh
        obtain ⟨rfl, rfl, rfl, rfl⟩ := hh
        have eE : (E1 != 0) = true := by simpa using hE
        clear HH
        go_wp2
        go_ret
        exact ⟨rfl, HD6.out, HM6.out⟩
end Go.Proofs.Ytclkkhpnnbkfmaa
