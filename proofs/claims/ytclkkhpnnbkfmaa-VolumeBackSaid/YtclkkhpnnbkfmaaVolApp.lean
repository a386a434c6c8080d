/- volume: Append. -/
import Derived.Test.YtclkkhpnnbkfmaaVol
import Derived.Test.YtclkkhpnnbkfmaaAggrPack
namespace Go.Proofs.Ytclkkhpnnbkfmaa
open Go.RowKit

variable {B : Nat} {K : Nat → Prop} {w w' : World} {vb d g : Nat} {size : Int} {M : Med} {at_ : Int} {s : PS}
theorem VF_no {b : Nat} {T : TypeId} (hT : T ∉ PT ∧ T ∉ TT) : ¬ VF B K b T := by
  rintro ⟨_, h | ⟨_, h⟩⟩
  · exact hT.1 h
  · exact hT.2 h
theorem PackR.vf {W : Nat} {rows : List (List Byte)} {of : List Int} {aB : Option Addr} {m cB : Nat} {aO : Option Addr} {no cO : Nat} {bs : List Bsl} (h : PackR w W rows of aB m cB aO no cO bs) (hm : Mod (VF B K) w w') : PackR w' W rows of aB m cB aO no cO bs :=
  ⟨h.own.mod hm fun b _ _ => VF_no (by decide), h.rows, fun p hp => (h.dat p hp).mod hm fun b _ _ => VF_no (by decide), h.offs.mod hm fun b _ _ => VF_no (by decide)⟩

theorem pack_small {size : Int} {l : List Rec} {rows : List (List Byte)} {of : List Int} (h : packP size l = (rows, of, 0)) : rows.length ≤ 20000 ∧ (∀ r ∈ rows, r.length ≤ 256) ∧ 32 ≤ size ∧ size ≤ 256 := by
  obtain ⟨hE, -, h0⟩ := packP_no h
  obtain ⟨rfl, -⟩ := h0 rfl
  obtain ⟨hs, hn, hj, hb, hw⟩ := wholeP_ok hE.symm
  have hlen := aggrL_len l hj
  obtain ⟨k, hk⟩ := Int.eq_ofNat_of_zero_le (show 0 ≤ size by omega)
  subst hk
  rw [hw]
  refine ⟨?_, fun r hr => ?_, hs⟩
  · rw [rowsC_len, Int.toNat_natCast]
    have h1 : (joinB (aggrL l)).length ≤ 8013 * 66 := Nat.le_trans hlen (Nat.mul_le_mul_left _ (by omega))
    have h2 : ((joinB (aggrL l)).length + k - 1) / k ≤ (8013 * 66 + 256) / 32 := Nat.div_le_div (by omega) (by omega) (by decide)
    omega
  · unfold rowsC at hr
    obtain ⟨j, _, rfl⟩ := List.mem_map.1 hr
    have := rowC_le (joinB (aggrL l)) k j
    show (rowC (joinB (aggrL l)) k j).length ≤ 256
    omega
theorem locate_behind {n : Int} (hn : 0 ≤ n) (h : (M.behind n).2 = 0) (q : Int) : M.locate n 0 q = (0, (M.behind n).1) := by
  have hb : 0 ≤ (M.behind n).1 ∧ (M.behind n).1 ≤ M.cells.length := by
    rcases M.behind_bound n with h1 | h1
    · exact h1.2
    · rw [h] at h1; exact absurd h1.1 (by decide)
  unfold Med.locate
  rw [if_neg (by omega), if_neg (by rw [h]; simp; omega)]
  simp
theorem roomP_ok {f : Int} (h : 0 ≤ roomP M f) : 0 ≤ f ∧ (M.behind (f + 1)).2 = 0 ∧ 0 ≤ (M.behind (f + 1)).1 ∧ (M.behind (f + 1)).1 ≤ M.cells.length ∧ roomP M f = M.cap - (M.behind (f + 1)).1 ∧ f < M.cells.length := by
  unfold roomP at h ⊢
  split at h
  · omega
  · rename_i h1
    split at h
    · omega
    · rename_i h2
      have h3 : (M.behind (f + 1)).2 = 0 := Classical.not_not.1 h2
      rw [if_neg h1, if_neg h2]
      rcases M.behind_bound (f + 1) with h4 | h4
      · exact ⟨by omega, h3, h4.2.1, h4.2.2, rfl, by omega⟩
      · rw [h3] at h4; exact absurd h4.1 (by decide)
set_option maxRecDepth 100000 in
set_option maxHeartbeats 4000000 in
theorem vol_append (f : Int) (aR : Option Addr) (cR n : Nat) (rs : List RecV) (of : List Int) (R at' : Int) (s' : PS) (M' : Med) (w : World) (hv : VolAt w vb d size) (hd : DrvP B K w d g M at_ s) (hB : Up B K w) (hg : M.ok = true)
    (ha : ∀ w', Mod (VF B K) w w' → RMat w' aR rs) (hn : n = rs.length) (hl : n ≤ 9223372036854775807) (hf : f ≤ 9223372036854775806) (hr : vAppend s M at_ f size (recs rs) = (of, R, s', M', at')) :
    Calls Try.prog 11 #[.pointer (some ⟨vb, 0, none⟩), .int .i64 f, .slice aR n cR] w fun e w' => ∃ aO no cO, e = .returned (.tuple #[.slice aO no cO, .int .i64 R]) ∧ no = of.length ∧ Own w' w.heap.size 3 1 aO no cO (ivs of) ∧ DrvP B K w' d g M' at' s' ∧ Mod (VF B K) w w' := by
  have hG : DGood M 0 := ⟨hg, 0, rfl, Nat.zero_le _⟩
  have HV := Lib.hid hv
  have HD := Lib.hid hd
  have HU := Lib.hid hB
  have HR := Lib.hid hr
  have HA := Lib.hid ha
  have Hn := Lib.hid hn
  clear hv hd hB hr ha hn
  go_enter Try.func11, Try.ntmps11
  go_wp2_with fail
  refine (vol_on (at_ := at_) s.off (if s.off then at_ else 0) w HV.out HD.out hG.len rfl rfl).mono ?_
  rintro r w2 ⟨rfl, h2, hm2⟩
  have HD2 := Lib.hid h2
  have HM2 := Lib.hid hm2
  have HV2 := Lib.hid (HV.out.vf hm2)
  have HU2 := Lib.hid (HU.out.grow hm2.size)
  clear h2 hm2 HD HV HU
  cases hso : s.off with
  | true =>
    have hh := HR.out
    unfold vAppend at hh
    rw [if_pos hso] at hh
    simp only [Prod.mk.injEq] at hh
    obtain ⟨rfl, rfl, rfl, rfl, rfl⟩ := hh
    rw [hso] at HD2
    have HD3 : Hid (DrvP B K w2 d g M at_ s) := HD2
    clear HD2 HR
    go_wp2
    go_ret2
    exact ⟨none, 0, 0, rfl, rfl, Own.nil _ _ _ _ _, HD3.out, HM2.out⟩
  | false =>
  rw [hso] at HD2
  have HD3 : Hid (DrvP B K w2 d g M 0 s) := HD2
  have Hso := Lib.hid hso
  clear HD2 hso
  obtain ⟨⟨rows, ofs, Ep⟩, hpk⟩ : ∃ y, y = packP size (recs rs) := ⟨_, rfl⟩
  obtain ⟨rm, hrm⟩ : ∃ z, z = roomP M f := ⟨_, rfl⟩
  have hh := HR.out
  unfold vAppend at hh
  rw [if_neg (by rw [Hso.out]; decide), ← hpk, ← hrm] at hh
  dsimp only at hh
  have HH := Lib.hid hh
  have HPK := Lib.hid hpk.symm
  have HRM := Lib.hid hrm.symm
  obtain ⟨c0, c1⟩ := HV2.out.cells
  clear hh HR hpk hrm
  go_wp2_with fail
  refine (pack_at size aR cR n rs rows ofs Ep w2 (HA.out _ HM2.out) Hn.out hl HPK.out).mono ?_
  rintro r w3 ⟨aB, m, cB, aO, no, cO, bs, rfl, hPR, hb3⟩
  have HD4 := Lib.hid (HD3.out.ext hb3)
  have HV4 := Lib.hid (HV2.out.ext hb3)
  have HU4 := Lib.hid (HU2.out.grow hb3.size)
  have HM4 := Lib.hid (HM2.out.trans (bmod hb3 _))
  have HPR := Lib.hid hPR
  have HS2 : Hid (w.heap.size ≤ w2.heap.size) := Lib.hid HM2.out.size
  clear hb3 hPR HD3 HV2 HU2 HM2 c0 c1
  go_wp2_with fail
  refine (vol_room f rm w3 HV4.out HD4.out hg HRM.out).mono ?_
  rintro r w5 ⟨rfl, hb5⟩
  have HD5 := Lib.hid (HD4.out.ext hb5)
  have HV5 := Lib.hid (HV4.out.ext hb5)
  have HU5 := Lib.hid (HU4.out.grow hb5.size)
  have HM5 := Lib.hid (HM4.out.trans (bmod hb5 _))
  have HP5 := Lib.hid (HPR.out.ext hb5)
  clear hb5 HD4 HV4 HU4 HM4 HPR
  by_cases h1 : Ep = 0
  case neg =>
    have e1 : (Ep != 0) = true := by simpa using h1
    have hh := HH.out
    rw [if_pos h1] at hh
    simp only [Prod.mk.injEq] at hh
    obtain ⟨rfl, rfl, rfl, rfl, rfl⟩ := hh
    clear HH h1
    go_wp2
    go_ret2
    exact ⟨none, 0, 0, rfl, rfl, Own.nil _ _ _ _ _, HD5.out, HM5.out⟩
  subst h1
  by_cases h2 : rm < 0
  · have e2 : decide (rm < 0) = true := by simpa using h2
    have hh := HH.out
    rw [if_neg (by decide), if_pos h2] at hh
    simp only [Prod.mk.injEq] at hh
    obtain ⟨rfl, rfl, rfl, rfl, rfl⟩ := hh
    clear HH h2
    go_wp2
    go_ret2
    exact ⟨none, 0, 0, rfl, rfl, Own.nil _ _ _ _ _, HD5.out, HM5.out⟩
  have e2 : decide (rm < 0) = false := by simpa using h2
  obtain ⟨hm1, hm2, hno, hmc, hnc⟩ := HP5.out.len
  have Hm1 := Lib.hid hm1
  have Hm2 := Lib.hid hm2
  have Hno := Lib.hid hno
  clear hm1 hm2 hno hnc
  have hps := pack_small HPK.out
  have HPS := Lib.hid hps
  have hmb : m ≤ 20000 := by rw [Hm2.out]; exact hps.1
  clear hps
  have hcapb := hG.at0
  by_cases h3 : rm < (m : Int) + 1
  · have e3 : decide ((m : Int) + 1 > rm) = true := by simp; omega
    have hh := HH.out
    rw [if_neg (by decide), if_neg h2, if_pos (by rw [← Hm2.out]; exact h3)] at hh
    simp only [Prod.mk.injEq] at hh
    obtain ⟨rfl, rfl, rfl, rfl, rfl⟩ := hh
    clear HH h2 h3
    go_wp2
    go_ret2
    exact ⟨none, 0, 0, rfl, rfl, Own.nil _ _ _ _ _, HD5.out, HM5.out⟩
  have e3 : decide ((m : Int) + 1 > rm) = false := by simp; omega
  obtain ⟨hf0, hbe, hb0, hbl, hrm2, hfl⟩ := roomP_ok (M := M) (f := f) (by rw [HRM.out]; omega)
  obtain ⟨p, hp⟩ := Int.eq_ofNat_of_zero_le hb0
  have hpl : p ≤ M.cells.length := by omega
  have hwf : IntKind.i64.wrap (f + 1) = f + 1 := by have := hG.len; rw [IntKind.wrap_i64]; omega
  have hh := HH.out
  rw [if_neg (by decide), if_neg h2, if_neg (by rw [← Hm2.out]; exact h3), hp, Int.toNat_natCast] at hh
  obtain ⟨⟨Ew, sw, Mw, pw⟩, hww⟩ : ∃ y, y = vWrites s M p rows := ⟨_, rfl⟩
  rw [← hww] at hh
  dsimp only at hh
  have HW := Lib.hid hww.symm
  have HH2 := Lib.hid hh
  have HLo : Hid (M.locate (f + 1) 0 0 = (0, (p : Int))) := Lib.hid (by rw [← hp]; exact locate_behind (by omega) hbe 0)
  obtain ⟨c0, c1⟩ := HV5.out.cells
  have hf1 : 0 ≤ f + 1 ∧ f + 1 ≤ 9223372036854775807 := by omega
  clear hh HH hww h2 h3 hbe hb0 hbl hrm2 hp hfl
  go_wp2_with fail
  refine (drv_locate (f + 1) 0 0 (p : Int) s w5 HD5.out hG.len hf1.2 (by decide) (by rw [if_neg (by rw [Hso.out]; decide)]; exact HLo.out)).mono ?_
  rintro r w6 ⟨rfl, h6, hm6⟩
  have HD6 := Lib.hid h6
  have HM6 := Lib.hid (HM5.out.trans hm6)
  have HV6 := Lib.hid (HV5.out.vf hm6)
  have HU6 := Lib.hid (HU5.out.grow hm6.size)
  have HP6 : Hid (PackR w6 w2.heap.size rows ofs aB m cB aO no cO bs) := Lib.hid ⟨HP5.out.own.mod hm6 fun b _ _ => VF_no (by decide), HP5.out.rows, fun p hp => (HP5.out.dat p hp).mod hm6 fun b _ _ => VF_no (by decide), HP5.out.offs.mod hm6 fun b _ _ => VF_no (by decide)⟩
  clear h6 hm6 c0 c1 HD5 HV5 HU5 HM5 HP5 e2 e3
  have HG6 : Hid (DGood M (p : Int)) := Lib.hid ⟨hg, p, rfl, hpl⟩
  have HW6 : Hid (vWrites s M p (rows.drop 0) = (Ew, sw, Mw, pw)) := Lib.hid (by rw [List.drop_zero]; exact HW.out)
  clear hcapb HLo hg hG
  go_wp2_with fail
  go_loopw [6, 7, 11, 53] (fun o _ _ i wr => ∃ (k : Nat) (sk : PS) (Mk : Med) (wx : World), wx = wr ∧ o = .slice aO no cO ∧ k ≤ m ∧ i = .int .i64 (k : Int) ∧ DrvP B K wx d g Mk ((p + k : Nat) : Int) sk ∧ DGood Mk ((p + k : Nat) : Int) ∧ Mod (VF B K) w6 wx ∧ vWrites sk Mk (p + k) (rows.drop k) = (Ew, sw, Mw, pw)) (fun _ _ _ i _ => m - (intOf i).toNat)
  case atStart => exact ⟨0, s, M, _, rfl, rfl, by omega, rfl, HD6.out, HG6.out, Mod.refl _ _, HW6.out⟩
  case round =>
    obtain ⟨k, sk, Mk, wx, hwx, rfl, hk, rfl, hDk, hGk, hMk, hWk⟩ := hrel
    subst hwx
    have HDk := Lib.hid hDk
    have HGk := Lib.hid hGk
    have HMk := Lib.hid hMk
    have HWk := Lib.hid hWk
    have HUk := Lib.hid (HU6.out.grow hMk.size)
    have HVk := Lib.hid (HV6.out.vf hMk)
    have HMM := Lib.hid (HM6.out.trans hMk)
    have HPk : Hid (PackR wx w2.heap.size rows ofs aB m cB aO no cO bs) := Lib.hid ⟨HP6.out.own.mod hMk fun b _ _ => VF_no (by decide), HP6.out.rows, fun p hp => (HP6.out.dat p hp).mod hMk fun b _ _ => VF_no (by decide), HP6.out.offs.mod hMk fun b _ _ => VF_no (by decide)⟩
    clear hDk hGk hMk hWk HW6 HG6
    obtain ⟨c0, c1⟩ := HVk.out.cells
    by_cases hkm : k < m
    · have hkb : k < bs.length := by rw [← Hm1.out]; exact hkm
      have hkr : k < rows.length := by rw [← Hm2.out]; exact hkm
      obtain ⟨xb, xo, rfl, hlb, hat⟩ := HPk.out.mat.at hkb
      have q0 := hat k hkb
      have hdat := HPk.out.dat bs[k] (List.getElem_mem hkb)
      have hrow : bs[k].l = rows[k] := by
        have h1 : (bs.map Bsl.l)[k]? = rows[k]? := by rw [HPk.out.rows]
        rw [List.getElem?_map, List.getElem?_eq_getElem hkb, List.getElem?_eq_getElem hkr] at h1
        exact Option.some.inj h1
      have hdr : rows.drop k = rows[k] :: rows.drop (k + 1) := List.drop_eq_getElem_cons hkr
      have hww := HWk.out
      rw [hdr, ← hrow] at hww
      have hrl : bs[k].l = rows[k] := hrow
      clear hat hdr hrow
      generalize bs[k] = b at *
      obtain ⟨ba, bc, bl⟩ := b
      dsimp only at q0 hdat hww hrl
      obtain ⟨L, hL⟩ : ∃ n, n = bl.length := ⟨_, rfl⟩
      rw [← hL] at q0 hdat
      have HL := Lib.hid hL
      have HDat := Lib.hid hdat
      have hbc := hdat.len
      obtain ⟨⟨E1, s1, M1, a1⟩, hd1⟩ : ∃ y, y = dvWrite sk Mk (p + k) bl := ⟨_, rfl⟩
      unfold vWrites at hww
      rw [← hd1] at hww
      have HD1 := Lib.hid hd1.symm
      have HWW := Lib.hid hww
      have hpk : p + k ≤ Mk.cells.length := by
        obtain ⟨q, hq, hql⟩ := HGk.out.pos
        omega
      have hLm : L ≤ 256 := by rw [hL, hrl]; exact HPS.out.2.1 _ (List.getElem_mem hkr)
      have hg1 := dvWrite_good HGk.out.ok hpk hd1.symm
      have hp1 := dvWrite_pos hd1.symm
      have HG1 := Lib.hid hg1.1
      have Hp1 := Lib.hid hp1
      clear hL hdat hd1 hww hrl hg1 hp1
      go_wp2_with fail
      refine (drv_write (p + k) ba L bc bl sk s1 E1 M1 a1 wx HDk.out HUk.out hpk HGk.out.len (fun w' hm => (HDat.out.mod hm fun b _ _ => VF_no_u8 b).src) HL.out (by omega) hbc.1 HD1.out).mono ?_
      rintro r w8 ⟨rfl, h8, hm8⟩
      have HD8 := Lib.hid h8
      have HM8 := Lib.hid (HMk.out.trans hm8)
      have HMM8 := Lib.hid (HMM.out.trans hm8)
      clear h8 hm8 q0
      by_cases hE : E1 = 0
      · subst hE
        have hwn := HWW.out
        rw [if_neg (by simp)] at hwn
        have hak : a1 = ((p + (k + 1) : Nat) : Int) := by rw [Hp1.out rfl]; omega
        subst hak
        have HWN : Hid (vWrites s1 M1 (p + (k + 1)) (rows.drop (k + 1)) = (Ew, sw, Mw, pw)) := Lib.hid hwn
        clear hwn HWW c0 c1
        go_wp2_with fail
        go_roundw
        case rel => exact ⟨k + 1, s1, M1, _, rfl, rfl, by omega, by go_num, HD8.out, HG1.out, HM8.out, HWN.out⟩
        case measure => simp [intOf]; omega
      · have hwn := HWW.out
        rw [if_pos (by exact hE)] at hwn
        simp only [Prod.mk.injEq] at hwn
        obtain ⟨rfl, rfl, rfl, rfl⟩ := hwn
        have hh := HH2.out
        rw [if_pos hE] at hh
        simp only [Prod.mk.injEq] at hh
        obtain ⟨rfl, rfl, rfl, rfl, rfl⟩ := hh
        have eE : (E1 != 0) = true := by simpa using hE
        clear HWW c0 c1 HH2 hE
        go_wp2
        go_ret2
        exact ⟨none, 0, 0, rfl, rfl, Own.nil _ _ _ _ _, HD8.out, HMM8.out⟩
    · obtain rfl : m = k := by omega
      have hwk := HWk.out
      rw [List.drop_of_length_le (by rw [← Hm2.out]; exact Nat.le_refl _)] at hwk
      unfold vWrites at hwk
      simp only [Prod.mk.injEq] at hwk
      obtain ⟨rfl, rfl, rfl, rfl⟩ := hwk
      have hh := HH2.out
      rw [if_neg (by decide), Int.toNat_natCast] at hh
      obtain ⟨⟨Eq, sq, Mq, pq⟩, hq⟩ : ∃ y, y = dvMark sk Mk (p + m) := ⟨_, rfl⟩
      rw [← hq] at hh
      dsimp only at hh
      have HQ := Lib.hid hq.symm
      have HHQ := Lib.hid hh
      have hpk : p + m ≤ Mk.cells.length := by
        obtain ⟨q, hq, hql⟩ := HGk.out.pos
        omega
      clear hh HH2 hq HWk
      go_wp2_with fail
      refine (drv_mark (p + m) sk sq Eq Mq pq wx HDk.out HUk.out hpk HGk.out.len HQ.out).mono ?_
      rintro r w8 ⟨rfl, h8, hm8⟩
      have HD8 := Lib.hid h8
      have HMM8 := Lib.hid (HMM.out.trans hm8)
      have HO8 : Hid (Own w8 w2.heap.size 3 1 aO no cO (ivs ofs)) := Lib.hid (HPk.out.offs.mod hm8 fun b _ _ => VF_no (by decide))
      clear h8 hm8 c0 c1
      by_cases hE : Eq = 0
      · subst hE
        have hwn := HHQ.out
        rw [if_neg (by decide)] at hwn
        simp only [Prod.mk.injEq] at hwn
        obtain ⟨rfl, rfl, rfl, rfl, rfl⟩ := hwn
        clear HHQ
        go_wp2
        go_ret2
        exact ⟨aO, no, cO, rfl, Hno.out, HO8.out.mono HS2.out, HD8.out, HMM8.out⟩
      · have hwn := HHQ.out
        rw [if_pos hE] at hwn
        simp only [Prod.mk.injEq] at hwn
        obtain ⟨rfl, rfl, rfl, rfl, rfl⟩ := hwn
        have eE : (Eq != 0) = true := by simpa using hE
        clear HHQ hE
        go_wp2
        go_ret2
        exact ⟨none, 0, 0, rfl, rfl, Own.nil _ _ _ _ _, HD8.out, HMM8.out⟩
end Go.Proofs.Ytclkkhpnnbkfmaa
