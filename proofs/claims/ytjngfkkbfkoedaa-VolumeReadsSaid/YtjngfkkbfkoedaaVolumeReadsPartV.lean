/- Several texts of this claim, one behind the other: VolSnap, FlatK, VolumeReads. -/
import Derived.Test.YtjngfkkbfkoedaaVolumeReadsPartL
import Derived.Test.YtjngfkkbfkoedaaVolumeReadsPartM
import Derived.Test.YtjngfkkbfkoedaaVolumeReadsPartB
import Derived.Test.YtjngfkkbfkoedaaProg
import Derived.Test.YtjngfkkbfkoedaaVolumeReadsPartT
import Derived.Test.YtjngfkkbfkoedaaVolR
import Derived.Test.YtjngfkkbfkoedaaRecK
import Derived.Test.YtjngfkkbfkoedaaRegionPhase
import Derived.BigRegion
/- A drive's tape, taken as it is: it stays while the drive works on. -/
namespace Go.Proofs.Ytjngfkkbfkoedaa
open Go.RowKit
variable {B : Nat} {K : Nat → Prop} {w w' : World} {d g : Nat} {M : Med} {at_ : Int} {s : PS}
/-- All blocks but those of a stretch. -/
def ZK (n m : Nat) : Nat → Prop := fun b => b < n ∨ m ≤ b
theorem ZK.no {n m b : Nat} (h1 : n ≤ b) (h2 : b < m) : ¬ ZK n m b := fun h => by unfold ZK at h; omega
theorem ZK.up {n m : Nat} (hB : B ≤ w.heap.size) (h : m ≤ w.heap.size) : Up B (ZK n m) w := ⟨hB, fun _ hb => .inr (Nat.le_trans h hb)⟩
theorem drv_snap {s : PS} (w : World) (hd : DrvP B K w d g M at_ s) (hk : M.cells.length ≤ 100000) (hx : ∀ x ∈ M.cells, x.data.length ≤ 140737488355328) :
    Calls Try.prog 16 #[.pointer (some ⟨d, 0, none⟩)] w fun e w' => ∃ a' c' cs' k, e = .returned (.agg #[.int .i64 M.cap, .slice a' k c']) ∧ MedR w' w.heap.size M a' k c' cs' ∧ k ≤ c' ∧ DrvP B (fun b => b < w.heap.size) w' d g M at_ s ∧ Below w.heap.size w w' := by
  refine (drv_mediumP w hd hk hx).mono ?_
  rintro e w2 ⟨a, c, cs, k, he, hM, hc, hb⟩
  exact ⟨a, c, cs, k, he, hM, hc, (hd.rek fun b _ hb _ => hb).ext hb, hb⟩
theorem DrvP.zone {n : Nat} (h : DrvP B (fun b => b < n) w d g M at_ s) : DrvP B (ZK n w.heap.size) w d g M at_ s := h.rek fun _ _ _ hb => .inl hb
theorem DrvP.allK (h : DrvP B K w d g M at_ s) : DrvP B AllK w d g M at_ s := h.rek fun _ _ _ _ => trivial
theorem drv_startK {s s' : PS} (w : World) (hd : DrvP B K w d g M at_ s) (hs : s.start = s') (hl0 : 0 ≤ s.life) (hl1 : s.life ≤ 4611686018427387904) :
    Calls Try.prog 28 #[.pointer (some ⟨g, 0, none⟩)] w fun e w' => e = .returned (.tuple #[]) ∧ DrvP B K w' d g M at_ s' ∧ Mod (VF B K) w w' := by
  obtain ⟨⟨a, k, c, cs, h⟩, hp⟩ := hd
  refine (start_at hp hs hl0 hl1).mono ?_
  rintro e w2 ⟨rfl, hp2, hm⟩
  exact ⟨rfl, ⟨⟨a, k, c, cs, h.pf hm⟩, hp2⟩, PF.vf hm⟩
theorem drv_offK {s : PS} {r : Bool} (w : World) (hd : DrvP B K w d g M at_ s) (hs : s.off = r) :
    Calls Try.prog 27 #[.pointer (some ⟨g, 0, none⟩)] w fun e w' => e = .returned (.bool r) ∧ w = w' := off_at hd.pow hs
/-- Such a tape stays. -/
theorem MedR.snap {n m : Nat} {a : Option Addr} {k c : Nat} {cs : List CellV} (h : MedR w n M a k c cs) (hm : Mod (VF B (ZK n m)) w w') (hw : m = w.heap.size) : MedR w' n M a k c cs := h.vf hm fun b h1 h2 => ZK.no h1 (by omega)
end Go.Proofs.Ytjngfkkbfkoedaa

/- cellarerlaw02.Flat. -/
namespace Go.Proofs.Ytjngfkkbfkoedaa
open Go.RowKit

theorem flatg_le (ps : List Bsl) (k : Nat) (hp : ∀ p ∈ ps, p.l.length ≤ 300) : (flat (ps.take k)).length ≤ k * 300 := by
  induction k generalizing ps with
  | zero => simp [flat]
  | succ k ih =>
    cases ps with
    | nil => simp [flat]
    | cons p ps =>
      have h1 := hp p (by simp)
      have h2 := ih ps (fun q hq => hp q (by simp [hq]))
      simp [flat] at h2 ⊢
      omega
set_option maxHeartbeats 1000000 in
theorem flatg_any (a : Option Addr) (c : Nat) (ps : List Bsl) (w : World) (hm : Mat w a ps) (hn : ps.length ≤ 1000000) (hp : ∀ p ∈ ps, p.l.length ≤ 300) :
    Calls Try.prog 23 #[.slice a ps.length c] w fun e w' => ∃ a' c', e = .returned (.slice a' (flat ps).length c') ∧ Own w' w.heap.size 5 1 a' (flat ps).length c' (bvs (flat ps)) ∧ Below w.heap.size w w' := by
  obtain ⟨i0, hi, hz0, hz1, hz2⟩ := info_parts info8
  go_enter Try.func23, Try.ntmps23
  go_wp2_with fail
  go_loopw [3, 4] (fun v i wr => ∃ k a' c', k ≤ ps.length ∧ i = .int .i64 (k : Nat) ∧ v = .slice a' (flat (ps.take k)).length c' ∧ Own wr w.heap.size 5 1 a' (flat (ps.take k)).length c' (bvs (flat (ps.take k))) ∧ Below w.heap.size w wr) (fun _ i _ => ps.length - (intOf i).toNat)
  case atStart => exact ⟨0, none, 0, by omega, rfl, rfl, Own.nil _ _ _ _ _, Below.refl _ _⟩
  case round =>
    obtain ⟨k, a', c', hk, rfl, rfl, hown, hb⟩ := hrel
    by_cases hlt : k < ps.length
    · have hm2 := hm.ext hb
      have hrow := hm2.row _ (List.getElem_mem hlt)
      have Htk := Lib.hid (congrArg flat (take_succ_list ps k hlt))
      obtain ⟨b, o, rfl, hlb, hat⟩ := hm2.at hlt
      have hc := hat k hlt
      clear hat
      have hbd := flatg_le ps k hp
      have hpl := hp _ (List.getElem_mem hlt)
      generalize hpp : ps[k] = p at *
      have Hpp := Lib.hid hpp
      clear hpp
      obtain ⟨pa, pc, l⟩ := p
      obtain ⟨hsrc, hl⟩ := hrow
      simp only at hc hsrc hl hpl
      generalize hf : flat (ps.take k) = f at *
      have Hf := Lib.hid hf
      clear hf
      have hkk : k * 300 ≤ 300000000 := by omega
      go_wp2_with (refine wpList_app rfl (.tmp 11) (.tmp 15) 28 rfl w.heap.size 5 i0 (.int .u8 0) 1 1 Try.underlying28 hi hz0 hz1 hz2 rfl (by decide) a' f.length c' (bvs f) rfl hown pa l.length pc (bvs l) rfl (by simp) hsrc (bvs_one l) (by unfold maxLen; omega) (by omega) hb.size ?_; intro a2 c2 w2 hown2 hb2)
      go_roundw
      case rel =>
        have e : flat (ps.take (k + 1)) = f ++ l := by rw [Htk.out, flat_snoc, Hf.out]
        exact ⟨k + 1, a2, c2, by omega, by go_num, by rw [e, List.length_append], by rw [e, List.length_append, bvs_append]; exact hown2, hb.trans hb2⟩
      case measure => simp [intOf]; omega
    · have hkl : k = ps.length := by omega
      subst hkl
      rw [List.take_length] at hown ⊢
      go_wp2
      go_ret
      exact ⟨a', c', rfl, hown, hb⟩
theorem flatg_at (a : Option Addr) (c n : Nat) (ps : List Bsl) (w : World) (hm : Mat w a ps) (hn : n = ps.length) (hn2 : ps.length ≤ 1000000) (hp : ∀ p ∈ ps, p.l.length ≤ 300) {l : List Byte} {L : Nat} (hl : flat ps = l) (hL : L = l.length) :
    Calls Try.prog 23 #[.slice a n c] w fun e w' => ∃ a' c', e = .returned (.slice a' L c') ∧ Own w' w.heap.size 5 1 a' L c' (bvs l) ∧ Below w.heap.size w w' := by
  subst hn hl hL
  exact flatg_any a c ps w hm hn2 hp
end Go.Proofs.Ytjngfkkbfkoedaa

/- The walk of VolumeReads. -/
namespace Go.Proofs.Ytjngfkkbfkoedaa
open Go.RowKit

set_option maxRecDepth 100000 in
set_option maxHeartbeats 16000000 in
theorem volumeReads_walk (w : World) (zs : Int) (ws : (Lit.int .i64 zs).wf = true) (aL : Option Addr) (cL : Nat) (l : List RecV) (hs : RMat w aL l) (hl : l.length ≤ 9223372036854775807) (hlc : l.length ≤ cL) (off0 : Int) (wo : (Lit.int .i64 off0).wf = true) (n0 : Int) (wn : (Lit.int .i64 n0).wf = true) :
    Calls Try.prog 5 #[.int .i64 zs, .slice aL l.length cL, .int .i64 off0, .int .i64 n0] w fun e w' => e = .returned (.bool true) ∧ Below w.heap.size w w' := by
  obtain ⟨N, hN⟩ : ∃ N, N = l.length := ⟨_, rfl⟩
  rw [← hN]
  have HN := Lib.hid hN
  have Hs := Lib.hid hs
  have hN2 : N ≤ 9223372036854775807 := by omega
  clear hs hN hl ws wo wn hlc
  go_enter Try.func5, Try.ntmps5
  by_cases h1 : zs < 32
  · have e1 : decide (zs < 32) = true := by simpa using h1
    go_wp2
    go_ret
    exact ⟨rfl, Below.refl _ _⟩
  have e1 : decide (zs < 32) = false := by simpa using h1
  by_cases h2 : 256 < zs
  · have e2 : decide (zs > 256) = true := by simpa using h2
    go_wp2
    go_ret
    exact ⟨rfl, Below.refl _ _⟩
  have e2 : decide (zs > 256) = false := by simpa using h2
  obtain ⟨sz, rfl⟩ := Int.eq_ofNat_of_zero_le (show 0 ≤ zs by omega)
  have hsz : 32 ≤ sz ∧ sz ≤ 256 := by omega
  clear h1 h2
  cases hhv : heavy06 l with
  | true =>
    have Hhv := Lib.hid hhv
    clear hhv
    go_wp2_with fail
    refine (heavy06_at aL cL N l true w Hs.out HN.out hN2 Hhv.out).mono ?_
    rintro e wz ⟨rfl, rfl⟩
    go_wp2
    go_ret
    exact ⟨rfl, Below.refl _ _⟩
  | false =>
  have Hhv := Lib.hid hhv
  clear hhv
  go_wp2_with fail
  refine (heavy06_at aL cL N l false w Hs.out HN.out hN2 Hhv.out).mono ?_
  rintro e wz ⟨rfl, rfl⟩
  clear e1 e2
  obtain ⟨⟨rows, ofs, Ep⟩, hpk⟩ : ∃ y, y = packP (sz : Int) (recs l) := ⟨_, rfl⟩
  have HPK := Lib.hid hpk.symm
  clear hpk
  go_wp2_with fail
  refine (pack_at (sz : Int) aL cL N l rows ofs Ep w Hs.out HN.out hN2 HPK.out).mono ?_
  rintro e w5 ⟨aB, m, cB, aO, no, cO, bs, rfl, hPR, hb5⟩
  obtain ⟨hm1, hm2, hno, hmc, hnc⟩ := hPR.len
  have Hm1 := Lib.hid hm1
  have Hm2 := Lib.hid hm2
  have HPR := Lib.hid hPR
  have HB5 := Lib.hid hb5
  have Hs5 := Lib.hid (Hs.out.ext hb5)
  clear hm1 hm2 hno hnc hPR hb5
  by_cases hE : Ep = 0
  case neg =>
    have e3 : (Ep != 0) = true := by simpa using hE
    have hr0 := (packP_no HPK.out).2.1 hE
    have hm0 : m = 0 := by rw [Hm2.out, hr0.1]; rfl
    subst hm0
    clear hE hr0
    go_wp2_with fail
    refine (wakes16_any w5).mono ?_
    rintro e w6 ⟨rfl, hb6⟩
    have HB6 := bthen HB5.out hb6 (Nat.le_refl _)
    clear hb6
    go_wp2
    go_ret
    exact ⟨rfl, HB6⟩
  subst hE
  have HPO := Lib.hid (packOk HPK.out)
  go_wp2_with fail
  refine (power_new w5).mono ?_
  rintro e w1 ⟨g, rfl, hp1, hb1⟩
  go_wp2_with fail
  refine (drv_new (g := g) 400 none 0 0 [] w1 (CMat.nil _ _) rfl (by decide) (by simp) (by rfl)).mono ?_
  rintro e w2 ⟨d, a2, c2, cs2, rfl, h2, hb2⟩
  have HD : Hid (DrvP w5.heap.size AllK w2 d g ⟨400, []⟩ 0 PS.new) := Lib.hid ⟨⟨_, _, _, _, h2.mono hb1.size fun _ _ _ => trivial⟩, hp1.ext hb2⟩
  have HB := Lib.hid (bthen hb1 hb2 (Nat.le_refl _))
  clear h2 hp1 hb1 hb2
  go_wp2_with fail
  refine (vol_new (d := d) (sz : Int) w2 (by omega)).mono ?_
  rintro e w3 ⟨vb, rfl, hv3, hb3⟩
  have HV := Lib.hid hv3
  have HB' := Lib.hid (bthen HB.out hb3 (Nat.le_refl _))
  have HD' := Lib.hid (HD.out.ext hb3)
  clear hb3 HB HD
  have HB := HB'
  have HD := HD'
  clear HB' HD'
  clear hv3
  go_wp2_with fail
  refine (vol_format 0 0 0 0 2 PS.new (volT 400 (lbytes 0 0 0) []) w3 HV.out HD.out (Up.all HB.out.size) (by rfl)
    (vFormat_ok (M := ⟨400, []⟩) (show (2 : Int) ≤ 400 by decide) (by decide) (lab_ok _ _ _))).mono ?_
  rintro e w4 ⟨rfl, hd4, hm4⟩
  have HD4 := Lib.hid hd4
  have HB4 := Lib.hid (HB.out.trans (hm4.below (fun b T h => h.1) HB.out.size))
  have HV4 := Lib.hid (HV.out.vf hm4)
  clear hd4 hm4 HD HB HV
  have HOK : Hid (VolOk 400 (lbytes 0 0 0) []) := Lib.hid (volOk_new (by decide))
  have HB45 := Lib.hid (bthen HB5.out HB4.out (Nat.le_refl _))
  rcases vAppend_fit (at_ := 2) HOK.out HPK.out with hap | ⟨pA, hap, hok2, hgp⟩
  · have HAP := Lib.hid hap
    clear hap
    go_wp2_with fail
    refine (vol_append 0 aL cL N l [] 7 0 PS.new (volT 400 (lbytes 0 0 0) []) w4 HV4.out HD4.out (Up.all HB4.out.size) HOK.out.ok (fun w' hm => Hs5.out.ext (HB4.out.trans (hm.below (fun b T h => h.1) HB4.out.size))) HN.out hN2 (by decide) HAP.out).mono ?_
    rintro e w8 ⟨aO', no', cO', rfl, hno, hO, hd8, hm8⟩
    have HB8 := Lib.hid (bthen HB5.out (HB4.out.trans (hm8.below (fun b T h => h.1) HB4.out.size)) (Nat.le_refl _))
    clear hno hO hd8 hm8 HD4 HB4 HV4 HB45 HAP
    go_wp2_with fail
    refine (wakes16_any w8).mono ?_
    rintro e w9 ⟨rfl, hb9⟩
    have HB9 := bthen HB8.out hb9 (Nat.le_refl _)
    clear hb9
    go_wp2
    go_ret
    exact ⟨rfl, HB9⟩
  have HAP := Lib.hid hap
  have HOK2 := Lib.hid hok2
  have HGP := Lib.hid hgp
  clear hap hok2 hgp
  go_wp2_with fail
  refine (vol_append 0 aL cL N l ofs 0 pA PS.new (volT 400 (lbytes 0 0 0) ([] ++ [rows])) w4 HV4.out HD4.out (Up.all HB4.out.size) HOK.out.ok (fun w' hm => Hs5.out.ext (HB4.out.trans (hm.below (fun b T h => h.1) HB4.out.size))) HN.out hN2 (by decide) HAP.out).mono ?_
  rintro e w8 ⟨aO', no', cO', rfl, hno, hO, hd8, hm8⟩
  have HD8 := Lib.hid hd8
  have HB8 := Lib.hid (HB4.out.trans (hm8.below (fun b T h => h.1) HB4.out.size))
  have HV8 := Lib.hid (HV4.out.vf hm8)
  have HP8 := Lib.hid (HPR.out.ext HB8.out)
  clear hno hO hd8 hm8 HD4 HB4 HV4 HB45 HAP
  obtain ⟨W, hW⟩ : ∃ W, W = rows.flatten := ⟨_, rfl⟩
  obtain ⟨L, hL⟩ : ∃ L, L = W.length := ⟨_, rfl⟩
  have HW := Lib.hid hW
  have HL := Lib.hid hL
  have hL1 : L ≤ 102400 := by rw [hL, hW]; exact HOK2.out.bytes (by simp)
  have hge : 26 ≤ L := by rw [hL, hW, HPO.out.flat]; exact joinB_aggr_ge _
  clear hW hL
  go_wp2_with fail
  refine (flatg_at aB cB m bs w8 HP8.out.mat Hm1.out (by have := HPO.out.ne; have h2 := pack_small HPK.out; rw [← Hm1.out, Hm2.out]; omega) (fun p hp => by have h2 := pack_small HPK.out; have := h2.2.1 p.l (by rw [← HP8.out.rows]; exact List.mem_map.2 ⟨p, hp, rfl⟩); omega) (l := W) (L := L) (by rw [HP8.out.flat, HW.out]) HL.out).mono ?_
  rintro e w9 ⟨aA, cA, rfl, hA9, hb9⟩
  have HA9 := Lib.hid hA9
  have HD9 := Lib.hid (HD8.out.ext hb9)
  have HB9 := Lib.hid (bthen HB8.out hb9 (Nat.le_refl _))
  have HV9 := Lib.hid (HV8.out.ext hb9)
  have HS89 := Lib.hid HB8.out.size
  clear hA9 hb9 HD8 HB8 HV8
  obtain ⟨off, hoff, eo⟩ := umod off0 ((L : Int) + 40) (by omega) (by omega)
  obtain ⟨n, hn, en⟩ := umod n0 ((L : Int) + 40) (by omega) (by omega)
  have Heo := Lib.hid eo
  have Hen := Lib.hid en
  clear eo en
  go_wp2_with fail
  go_region
  go_wp2_with fail
  rw [Heo.out, Hen.out]
  have hbd : Below w9.heap.size w9 w9.drew := (Below.refl _ _).drew
  have HB9' := Lib.hid (bthen HB9.out hbd (Nat.le_refl _))
  have HD9' := Lib.hid (HD9.out.ext hbd)
  have HV9' := Lib.hid (HV9.out.ext hbd)
  have HA9' := Lib.hid (HA9.out.ext hbd)
  clear hbd HB9 HD9 HV9 HA9
  have HB9 := HB9'
  have HD9 := HD9'
  have HV9 := HV9'
  have HA9 := HA9'
  clear HB9' HD9' HV9' HA9'
  generalize w9.drew = w10 at *
  obtain ⟨pR, hR⟩ := vRead_vol (cap := 400) (lab := lbytes 0 0 0) (gs := [] ++ [rows]) (f := 0) (W := W) (sz := sz) (off := off) (n := n) (at_ := pA) (by
    have h1 := HPO.out.eq
    have h2 := HPO.out.flat
    rw [← HW.out] at h2
    rw [← h2, Int.toNat_natCast] at h1
    rw [← h1]
    rfl) (by omega) (by omega)
  obtain ⟨⟨xl, xE⟩, hx⟩ : ∃ y, y = pieceP W off n := ⟨_, rfl⟩
  rw [← hx] at hR
  dsimp only at hR
  have HGA : Hid (DGood (volT 400 (lbytes 0 0 0) ([] ++ [rows])) pA) := Lib.hid HGP.out
  have HR : Hid (vRead PS.new (volT 400 (lbytes 0 0 0) ([] ++ [rows])) pA sz 1 (off : Int) (n : Int) = (xl, xE, pR)) := Lib.hid hR
  have HGR : Hid (DGood (volT 400 (lbytes 0 0 0) ([] ++ [rows])) pR) := Lib.hid (by have := vRead_good (s := PS.new) (sz := sz) (file := 1) (off := (off : Int)) (n := (n : Int)) HGA.out; rw [HR.out] at this; exact this)
  have HX := Lib.hid hx
  clear hR hx
  refine (vol_read 1 (off : Int) (n : Int) sz xl xE pR w10 HV9.out HD9.out HB9.out.size HGA.out hsz (by decide) (by omega) HR.out).mono ?_
  rintro e w11 ⟨aX, mX, cX, rfl, hmX, hX, hd11, hm11⟩
  have HmX := Lib.hid hmX
  have HX11 := Lib.hid hX
  have HD11 := Lib.hid hd11
  have HV11 := Lib.hid (HV9.out.vf hm11)
  have HB11 := Lib.hid (HB9.out.trans (hm11.below (fun b T h => h.1) HB9.out.size))
  have HA11 := Lib.hid (HA9.out.mod hm11 fun b _ _ => VF_no (by decide))
  clear hmX hX hd11 hm11 HD9 HV9 HB9 HA9 HR
  obtain ⟨p2, hR2⟩ := vRead_behind (cap := 400) (lab := lbytes 0 0 0) (gs := [] ++ [rows]) (at_ := pR) (sz := sz) (by omega) (file := 2) (by rfl)
  have HR2 := Lib.hid hR2
  clear hR2
  go_wp2_with fail
  refine (vol_read 2 0 1 sz [] 8 p2 w11 HV11.out HD11.out HB11.out.size HGR.out hsz (by decide) (by decide) HR2.out).mono ?_
  rintro e w12 ⟨aY, mY, cY, rfl, hmY, hY, hd12, hm12⟩
  obtain rfl : mY = 0 := hmY
  have HX12 := Lib.hid (HX11.out.mod hm12 fun b _ _ => VF_no (by decide))
  have HB12 := Lib.hid (bthen HB5.out (HB11.out.trans (hm12.below (fun b T h => h.1) HB11.out.size)) (Nat.le_refl _))
  have HA12 := Lib.hid (HA11.out.mod hm12 fun b _ _ => VF_no (by decide))
  clear hY hd12 hm12 HD11 HV11 HB11 HA11 HX11
  by_cases h0 : n = 0
  · subst h0
    have hxx := HX.out
    unfold pieceP at hxx
    rw [if_pos rfl] at hxx
    simp only [Prod.mk.injEq] at hxx
    obtain ⟨rfl, rfl⟩ := hxx
    obtain rfl : mX = 0 := HmX.out
    clear HX
    go_wp2_with fail
    refine (wakes16_any w12).mono ?_
    rintro e w13 ⟨rfl, hb13⟩
    have HB13 := bthen HB12.out hb13 (Nat.le_refl _)
    clear hb13
    go_wp2
    go_ret
    exact ⟨rfl, HB13⟩
  have e0 : ((n : Int) == 0) = false := by simpa using h0
  have hwn : IntKind.i64.wrap ((off : Int) + (n : Int)) = (off : Int) + (n : Int) := by rw [IntKind.wrap_i64]; omega
  have hxx := HX.out
  unfold pieceP at hxx
  rw [if_neg h0] at hxx
  by_cases hle : off + n ≤ L
  · rw [if_pos (by rw [← HL.out]; exact hle)] at hxx
    simp only [Prod.mk.injEq] at hxx
    obtain ⟨rfl, rfl⟩ := hxx
    have e1 : decide ((off : Int) + (n : Int) > (L : Int)) = false := by simp; omega
    have hmn : mX = n := by rw [HmX.out, List.length_take, List.length_drop, ← HL.out]; omega
    subst hmn
    obtain ⟨xA, hxA, hBA, hlA, _, _⟩ := HA12.out.at (i := 0) (by omega)
    subst hxA
    have hcA := HA12.out.len.1
    have hne : ¬ cA = off := by omega
    have hle1 : (off : Int) + (mX : Int) ≤ (cA : Int) := by omega
    have hle2 : 0 ≤ (off : Int) + (mX : Int) := by omega
    have HS12 : Hid (Src w12 (some ⟨xA, off, none⟩) (bvs ((W.drop off).take mX))) := Lib.hid (by
      have := Src.sub HA12.out.src off mX
      rw [bvs_take, bvs_drop]
      rw [Nat.zero_add] at this
      exact this)
    have Hmx2 : Hid (mX = ((W.drop off).take mX).length) := HmX
    clear HX h0 hle HmX hBA hlA
    go_wp2_with fail
    refine (bytes_at aX cX ((W.drop off).take mX) _ (cA - off) ((W.drop off).take mX) w12 mX mX true HX12.out.src HS12.out Hmx2.out Hmx2.out (by omega) (by omega) (by simp)).mono ?_
    rintro e w13 ⟨rfl, nn, rfl⟩
    have hbd := ext_drewN w12 nn w12.heap.size
    have HB12' := Lib.hid (bthen HB12.out hbd (Nat.le_refl _))
    clear hbd HB12
    have HB12 := HB12'
    clear HB12'
    go_wp2_with fail
    refine (wakes16_any _).mono ?_
    rintro e w14 ⟨rfl, hb14⟩
    have HB14 := bthen HB12.out hb14 (Nat.le_refl _)
    clear hb14
    go_wp2
    go_ret
    exact ⟨rfl, HB14⟩
  · rw [if_neg (by rw [← HL.out]; exact hle)] at hxx
    simp only [Prod.mk.injEq] at hxx
    obtain ⟨rfl, rfl⟩ := hxx
    have e1 : decide ((off : Int) + (n : Int) > (L : Int)) = true := by simp; omega
    obtain rfl : mX = 0 := HmX.out
    clear HX h0 hle
    go_wp2_with fail
    refine (wakes16_any w12).mono ?_
    rintro e w13 ⟨rfl, hb13⟩
    have HB13 := bthen HB12.out hb13 (Nat.le_refl _)
    clear hb13
    go_wp2
    go_ret
    exact ⟨rfl, HB13⟩
end Go.Proofs.Ytjngfkkbfkoedaa
