/- The walk of RobotHolds. -/
import Derived.Test.YtnbpcdnpdcfiiaaRobotHoldsPartP
import Derived.Test.YtnbpcdnpdcfiiaaDrvWrite
import Derived.Test.YtnbpcdnpdcfiiaaDrvLocate
import Derived.Test.YtnbpcdnpdcfiiaaRobotHoldsPartJ
import Derived.Test.YtnbpcdnpdcfiiaaMake
import Derived.Test.YtnbpcdnpdcfiiaaRobotHoldsPartB
import Derived.Test.YtnbpcdnpdcfiiaaRobotHoldsPartF
import Derived.Test.YtnbpcdnpdcfiiaaRobotHoldsPartL
namespace Go.Proofs.Ytnbpcdnpdcfiiaa
open Go.RowKit

def in1 (z : Int) : List Value := [.int .i64 z]
theorem flt_in1 (l : List Int) : flt in1 l = ivs l := by
  induction l with
  | nil => rfl
  | cons x l ih => rw [flt_cons, ih]; rfl
theorem infoIntH : (Try.prog.info? 3).map (fun i => (i.zero, i.size, i.bytes)) = some (some (.int .i64 0), 1, 8) := by kernel_rfl
theorem RobF_no_int {B : Nat} {K : Nat → Prop} (b : Nat) : ¬ RobF B K b 3 := by
  rintro ⟨_, h | ⟨_, h⟩⟩ <;> revert h <;> decide
theorem holds_at {l : List Bay} {k : Nat} (hk : k < l.length) : (if 0 ≤ (k : Int) ∧ (k : Int) < l.length then (l.getD (k : Int).toNat bay0).vol else -1) = l[k].vol := by
  rw [if_pos ⟨by omega, by omega⟩, show (k : Int).toNat = k from rfl, getD_of _ (List.getElem?_eq_getElem hk)]

theorem pls_get' {cs : List CellV} {i : Nat} (hi : i < cs.length) : (pls cs)[i]? = some cs[i].pl := by unfold pls; rw [List.getElem?_map, List.getElem?_eq_getElem hi]; rfl

set_option maxRecDepth 100000 in
set_option maxHeartbeats 16000000 in
theorem robotHolds_walk (w : World) (vI : Int) (wv : (Lit.int .i64 vI).wf = true) (dI : Int) (wd : (Lit.int .i64 dI).wf = true) (a : Option Addr) (c0 : Nat) (zs : List Int) (hs : Src w a (ivs zs)) (hl : zs.length ≤ 9223372036854775807) :
    Calls Try.prog 6 #[.int .i64 vI, .int .i64 dI, .slice a zs.length c0] w fun e w' => e = .returned (.bool true) ∧ Below w.heap.size w w' := by
  obtain ⟨i0, hi0, hz0, hz1, hz2⟩ := info_parts infoIntH
  obtain ⟨N, hN⟩ : ∃ N, N = zs.length := ⟨_, rfl⟩
  rw [← hN]
  have HN := Lib.hid hN
  have hN2 : N ≤ 9223372036854775807 := by omega
  have Hs := Lib.hid hs
  obtain ⟨q, hq, eq⟩ := umod vI 8 (by decide) (by decide)
  obtain ⟨q2, hq2, eq2⟩ := umod dI 4 (by decide) (by decide)
  obtain ⟨nv, hn, hn1, hn8⟩ : ∃ n, n = 1 + q ∧ 1 ≤ n ∧ n ≤ 8 := ⟨_, rfl, by omega, by omega⟩
  obtain ⟨nd, hnd, hd1, hd4⟩ : ∃ n, n = 1 + q2 ∧ 1 ≤ n ∧ n ≤ 4 := ⟨_, rfl, by omega, by omega⟩
  have e1q : (1 : Int) + (q : Int) = (nv : Int) := by omega
  have e2q : (1 : Int) + (q2 : Int) = (nd : Int) := by omega
  clear hs hl hN hn hnd
  go_enter Try.func6, Try.ntmps6
  by_cases h60 : 60 < N
  · have eb : decide ((N : Int) > 60) = true := by simp; omega
    go_wp2
    go_ret
    exact ⟨rfl, Below.refl _ _⟩
  have eb : decide ((N : Int) > 60) = false := by simp; omega
  have hN60 : N ≤ 60 := by omega
  clear h60
  go_wp2_with fail
  clear eb eq hq eq2 hq2
  refine (power_new w).mono ?_
  rintro e w1 ⟨g, rfl, hp1, hb1⟩
  have HP1 := Lib.hid hp1
  have HB1 := Lib.hid hb1
  clear hp1 hb1
  go_wp2_with fail
  clear e1q e2q
  refine (rob_new (B := w.heap.size) (K := AllK) (fun _ => 0) nv 100 nd w1 (Up.all HB1.out.size) HP1.out (by omega) (by decide) (by omega)).mono ?_
  rintro e w2 ⟨r, rfl, h2, hb2⟩
  have HR2 := Lib.hid h2
  have HB2 := Lib.hid (bthen HB1.out hb2 (Nat.le_refl _))
  clear h2 hb2
  go_wp2_with (refine wpList_makeF rfl (.tmp 56) (.tmp 56) 64 rfl 3 i0 (.int .i64 0) in1 1 (fun _ => rfl) (by decide) 0 rfl Try.underlying64 hi0 hz0 hz1 nv rfl rfl (by rw [hz2]; omega) (by unfold maxLen; omega) ?_; intro w3 ho3 hb3)
  rw [flt_in1] at ho3
  have hL0 : List.replicate nv (0 : Int) = cnti (List.replicate nv 0) := by simp [cnti, List.map_replicate]
  rw [hL0] at ho3
  have HR3 := Lib.hid (HR2.out.ext hb3)
  have HL3 := Lib.hid (ho3.mono (base' := w.heap.size) HB2.out.size)
  have HB3 := Lib.hid (bthen HB2.out hb3 (Nat.le_refl _))
  have HN3 := Lib.hid (HoldsP.new nv nd (by omega) (by omega))
  generalize w2.heap.size = L at *
  clear ho3 hb3 hL0 HR2 HB2
  go_wp2_with fail
  go_loopw [11] (fun i wr => ∃ (t : Nat) (D : Nat → Nat) (cnt : List Nat) (S : RS) (wx : World), wx = wr ∧ t ≤ N ∧ i = .int .i64 (t : Int) ∧ HoldsP S cnt nv nd t ∧ RobP w.heap.size AllK wx r g S D PS.new ∧ Own wx w.heap.size 3 1 (some ⟨L, 0, none⟩) nv nv (ivs (cnti cnt)) ∧ Below w.heap.size w wx) (fun i _ => N - (intOf i).toNat)
  case atStart => exact ⟨0, _, _, _, _, rfl, by omega, rfl, HN3.out, HR3.out, HL3.out, HB3.out⟩
  case round =>
    obtain ⟨t, D, cnt, S, wx, hwx, htN, rfl, hH, hR, hL, hB⟩ := hrel
    subst hwx
    clear HR3 HL3 HB3 HN3
    have HH := Lib.hid hH
    have HR := Lib.hid hR
    have HL := Lib.hid hL
    have HB := Lib.hid hB
    clear hH hR hL hB
    by_cases htl : t < N
    · have hjl : t < zs.length := by have := HN.out; omega
      obtain ⟨zb, zo, hza, hlz, hat⟩ := src_ints_at Hs.out hjl
      subst hza
      have z0 := (World.cell?_of_block (w := w) (a := ⟨zb, zo + t, none⟩) (HB.out.block zb hlz)).trans (hat t hjl)
      generalize zs[t] = z at z0
      obtain ⟨v, hv, ev⟩ := umod z (nv : Int) (by omega) (by omega)
      have hvn : v < nv := by omega
      have hvl : v < cnt.length := by rw [HH.out.len]; exact hvn
      obtain ⟨cv, hcv⟩ : ∃ c, c = cnt[v] := ⟨_, rfl⟩
      have Hc : Hid (cnt[v] = cv) := Lib.hid hcv.symm
      have hc60 : cv ≤ 59 := by have := HH.out.le v hvl; omega
      obtain ⟨⟨S1, i⟩, hr⟩ : ∃ y, y = S.mount v := ⟨_, rfl⟩
      obtain ⟨⟨b, hbi, hbv, hbM⟩, hid, hok1, hok2, hH2⟩ := HH.out.step hvl (by omega) hr.symm
      rw [← hcv] at hbM hok2 hH2
      have hsv : v < S.vols.length := by rw [HH.out.vols]; exact hvn
      have hasked : S.asked < 4000000000000000000 := by rw [HH.out.asked]; omega
      obtain ⟨-, -, hbl1, -, hsz1, -⟩ := RS.mount_good HH.out.ok hasked hsv hr.symm
      have hmn := RS.mount_new HH.out.ok hr.symm
      have HR1 := Lib.hid hr.symm
      have HMN := Lib.hid hmn
      have HBI := Lib.hid hbi
      have HBV := Lib.hid hbv
      have HBM := Lib.hid hbM
      have HID := Lib.hid hid
      have Hsv := Lib.hid hsv
      have Hasked := Lib.hid hasked
      have hgood : ∀ q, q ≤ 61 → DGood (tapeOf v q) (q : Int) ∧ (tapeOf v q).cap = S1.size := fun q hq => by
        refine ⟨⟨Med.ok_iff.2 ⟨⟨by show (1 : Int) ≤ 100; omega, by show (100 : Int) ≤ 400; omega, by rw [tapeOf_len]; show (q : Int) ≤ 100; omega⟩, fun x hx => ?_⟩, q, rfl, by rw [tapeOf_len]; exact Nat.le_refl _⟩, by rw [hsz1, HH.out.size]; rfl⟩
        obtain ⟨k, _, rfl⟩ := List.mem_map.1 hx
        exact right_blk ⟨by show 1 ≤ 2; omega, by show 2 ≤ 256; omega⟩
      have HG1 := Lib.hid (hgood cv (by omega))
      have hg2 := hgood (cv + 1) (by omega)
      rw [show ((cv + 1 : Nat) : Int) = (cv : Int) + 1 by omega] at hg2
      have HG2 : Hid (DGood (tapeOf v (cv + 1)) ((cv : Int) + 1) ∧ (tapeOf v (cv + 1)).cap = (S1.drive i (tapeOf v cv) (cv : Int)).size) := Lib.hid hg2
      have HBI2 : Hid ((S1.drive i (tapeOf v cv) (cv : Int)).bays[i]? = some { b with M := tapeOf v cv, at_ := (cv : Int) }) := Lib.hid (by
        show (S1.bays.modify i _)[i]? = _
        rw [modify_get hbi, List.getElem?_set, if_pos rfl, if_pos (List.getElem?_eq_some_iff.1 hbi).1])
      obtain ⟨S2, hS2⟩ : ∃ S2, S2 = (S1.drive i (tapeOf v cv) (cv : Int)).drive i (tapeOf v (cv + 1)) ((cv : Int) + 1) := ⟨_, rfl⟩
      have HS2 := Lib.hid hS2
      rw [← hS2] at hH2
      have HNX := Lib.hid hH2
      have hvols : ∀ (j : Nat) (h1 : j < S2.bays.length), ∃ h2 : j < S1.bays.length, S2.bays[j].vol = S1.bays[j].vol := fun j h1 => by
        have e : S2.bays.map Bay.vol = S1.bays.map Bay.vol := by rw [hS2]; exact drive2_vols _ _ _ _ _ _
        have hl : S2.bays.length = S1.bays.length := by have := congrArg List.length e; simpa using this
        refine ⟨by omega, ?_⟩
        have e2 : (S2.bays.map Bay.vol)[j]? = (S1.bays.map Bay.vol)[j]? := by rw [e]
        rw [List.getElem?_map, List.getElem?_map, List.getElem?_eq_getElem h1, List.getElem?_eq_getElem (by omega)] at e2
        exact Option.some.inj e2
      have hbil := (List.getElem?_eq_some_iff.1 hbi).1
      have hbie : S1.bays[i] = b := by rw [List.getElem?_eq_getElem hbil] at hbi; exact Option.some.inj hbi
      have HBE : Hid (∀ j, i = j → ∀ h : j < S2.bays.length, S2.bays[j].vol = (v : Int)) := Lib.hid fun j hj h => by
        subst hj
        obtain ⟨h2, e⟩ := hvols i h
        rw [e, hbie, hbv]
      have HBN : Hid (∀ j (h : j < S2.bays.length), S2.bays[j].vol = (v : Int) → i = j) := Lib.hid fun j h he => by
        obtain ⟨h2, e⟩ := hvols j h
        exact hok1.one i j b S1.bays[j] hbi (List.getElem?_eq_getElem h2) (by rw [hbv, ← he, e]) (by rw [hbv]; omega)
      have B_le : w.heap.size ≤ w.heap.size := Nat.le_refl _
      clear hbi hbv hbM hid hok1 hok2 hH2 hr hmn hgood hg2 hS2 hvols hbil hbie hcv hsv hasked hbl1 hsz1 hat
      go_wp2_with fail
      try rw [ev]
      clear z0 ev
      refine (rob_mountsP S.mounts wx HR.out rfl).mono ?_
      rintro e wq ⟨rfl, rfl⟩
      obtain ⟨mt, hmt⟩ : ∃ m, m = S.mounts := ⟨_, rfl⟩
      have Hmt := Lib.hid hmt
      have hmb : 0 ≤ mt ∧ mt ≤ 60 := by have h1 := HH.out.ok.mounts; have h2 := HH.out.asked; omega
      rw [← hmt]
      clear hmt
      go_wp2_with fail
      go_loopw [14, 15] (fun b i wr => ∃ (k : Nat) (wz : World), wz = wr ∧ wz = wx ∧ k ≤ nd ∧ i = .int .i64 (k : Int) ∧ b = .bool (inUpto S.bays v k)) (fun _ i _ => nd - (intOf i).toNat)
      case atStart => exact ⟨0, wx, rfl, rfl, by omega, rfl, rfl⟩
      case round =>
        obtain ⟨k, wz, hwz, hwzx, hk, rfl, rfl⟩ := hrel
        subst hwzx
        subst hwz
        by_cases hkd : k < nd
        · have hkb : k < S.bays.length := by rw [HH.out.bays]; exact hkd
          have hsu := inUpto_succ (v := (v : Int)) hkb
          have Hsu := Lib.hid hsu
          clear hsu
          cases hiu : inUpto S.bays v k with
          | true =>
            go_wp2_with fail
            go_roundw
            case rel => exact ⟨k + 1, wz, rfl, rfl, by omega, by go_num, by rw [Hsu.out, hiu]; rfl⟩
            case measure => simp [intOf]; omega
          | false =>
            go_wp2_with fail
            refine (rob_holdsP (k : Int) S.bays[k].vol wz HR.out (holds_at hkb)).mono ?_
            rintro e wq ⟨rfl, rfl⟩
            have Hiu := Lib.hid hiu
            clear hiu
            generalize S.bays[k].vol = vk at *
            go_wp2_with fail
            go_roundw
            case rel => exact ⟨k + 1, wz, rfl, rfl, by omega, by go_num, by rw [Hsu.out, Hiu.out]; simp⟩
            case measure => simp [intOf]; omega
        · obtain rfl : nd = k := by omega
          have hall : inUpto S.bays v nd = (findV v S.bays).isSome := by
            have := inUpto_all S.bays v
            rw [HH.out.bays] at this
            exact this
          rw [hall]
          clear hall
          go_wp2_with fail
          refine (rob_mountP HR1.out wz HR.out (Up.all HB.out.size) rfl Hsv.out Hasked.out).mono ?_
          rintro e w5 ⟨d, D', rfl, hdi, hR5, hm5⟩
          have HDi := Lib.hid hdi
          have HR5 := Lib.hid hR5
          have HB5 := Lib.hid (HB.out.trans (hm5.below (fun b T h => h.1) HB.out.size))
          have HL5 := Lib.hid (HL.out.mod hm5 fun b _ _ hf => RTT_no_int _ hf)
          clear hdi hR5 hm5
          cases hfi : (findV v S.bays).isSome with
          | true =>
            have HM1 : Hid (S1.mounts = mt) := Lib.hid (by rw [HMN.out, hfi, Hmt.out]; rfl)
            clear hfi HMN
            go_wp2_with fail
            refine (rob_mountsP mt w5 HR5.out HM1.out).mono ?_
            rintro e wq ⟨rfl, rfl⟩
            -- behind the mount's test: world w5; HR5 : RobP S1 D'; facts: i, v, cv = cnt[v]
            obtain ⟨s0, f0, hBL, hLl, _⟩ := own_int_at HL5.out hvl
            rw [Hc.out] at s0
            go_wp2_with fail
            clear s0 f0 hBL hLl
            refine (RobP.drive HR5.out (Up.all HB5.out.size) HBI.out (by rw [HBV.out]; omega) HDi.out (M' := tapeOf v cv) (at' := (cv : Int)) (s' := PS.new) (fun K' hd hu => (drv_locate 0 (cv : Int) 0 (cv : Int) PS.new w5 hd (by rw [HBM.out, tapeOf_len]; omega) (by decide) (by omega) (by rw [if_neg (by decide), HBM.out]; exact locate_zero (tapeOf_marks v cv) (by rw [tapeOf_len]; exact Nat.le_refl _) _)).mono fun e w' ⟨he, hd', hm⟩ => ⟨he, by rw [HBM.out] at hd'; exact hd', hm⟩) HG1.out).mono ?_
            rintro e w6 ⟨rfl, hR6, hm6⟩
            have HR6 := Lib.hid hR6
            have HB6 := Lib.hid (HB5.out.trans (hm6.below (fun b T h => h.1) HB5.out.size))
            have HL6 := Lib.hid (HL5.out.mod hm6 fun b _ _ hf => RobF_no_int _ hf)
            clear hR6 hm6
            obtain ⟨s0, f0, hBL, hLl, _⟩ := own_int_at HL6.out hvl
            rw [Hc.out] at s0
            have hbT := ext_alloc w6 (.cells #[.int .u8 (v : Int), .int .u8 (cv : Int)] 5)
            have hrow := own_new w6 [.int .u8 (v : Int), .int .u8 (cv : Int)] 5 2 1 rfl (by unfold maxLen; omega)
            rw [← bvs_cell2 v cv (by omega) (by omega)] at hrow
            have HT := Lib.hid hrow
            have HR7 := Lib.hid (HR6.out.ext hbT)
            have HB7 := Lib.hid (bthen HB6.out hbT (Nat.le_refl _))
            have HL7 := Lib.hid (HL6.out.ext hbT)
            clear hrow
            go_wp2_with fail
            clear s0 f0 hbT
            simp only [bvs_cell2 v cv (by omega) (by omega)] at HT
            generalize w6.alloc (.cells #[.int .u8 (v : Int), .int .u8 (cv : Int)] 5) = w7 at *
            refine (RobP.drive HR7.out (Up.all HB7.out.size) HBI2.out (by rw [HBV.out]; omega) HDi.out (M' := tapeOf v (cv + 1)) (at' := (cv : Int) + 1) (s' := PS.new) (fun K' hd hu => drv_write cv _ 2 2 [BitVec.ofNat 8 v, BitVec.ofNat 8 cv] PS.new PS.new 0 (tapeOf v (cv + 1)) ((cv : Int) + 1) w7 hd hu (by rw [tapeOf_len]; exact Nat.le_refl _) (by rw [tapeOf_len]; omega) (fun w' hm => by rw [bvs_cell2 v cv (by omega) (by omega)]; exact (HT.out.mod hm fun b _ _ => VF_no_u8 b).src) rfl (by decide) (by decide) (by rw [dvWrite_ok (by rw [tapeOf_len]; exact Nat.le_refl _) (by show (cv : Int) < 100; omega) ⟨by show 1 ≤ 2; omega, by show 2 ≤ 256; omega⟩]; exact congrArg (fun M => ((0 : Int), PS.new, M, (cv : Int) + 1)) (tapeOf_lay v cv))) HG2.out).mono ?_
            rintro e w8 ⟨rfl, hR8, hm8⟩
            have HR8 := Lib.hid hR8
            have HB8 := Lib.hid (HB7.out.trans (hm8.below (fun b T h => h.1) HB7.out.size))
            have HL8 := Lib.hid (HL7.out.mod hm8 fun b _ _ hf => RobF_no_int _ hf)
            clear hR8 hm8
            obtain ⟨s0, f0, hBL, hLl, cur, hcur⟩ := own_int_at HL8.out hvl
            rw [Hc.out] at s0
            have hmL : Mod (fun b T => b = L ∧ T = 3) w8 (w8.setCell ⟨L, v, none⟩ (.int .i64 ((cv : Int) + 1))) := (Mod.refl _ w8).setCell hcur ⟨rfl, rfl⟩ _ _
            have HR9 : Hid (RobP w.heap.size AllK (w8.setCell ⟨L, v, none⟩ (.int .i64 ((cv : Int) + 1))) r g S2 D' PS.new) := Lib.hid (by rw [HS2.out]; exact HR8.out.far (K' := AllK) hmL (fun b T _ hf hT => by rw [hf.2] at hT; exact absurd hT (by decide)) (fun _ _ _ h => h) fun b T hf => by rw [hf.2]; decide)
            have HB9 : Hid (Below w.heap.size w (w8.setCell ⟨L, v, none⟩ (.int .i64 ((cv : Int) + 1)))) := Lib.hid (HB8.out.setCell (p := ⟨L, v, none⟩) hBL _)
            have HL9 : Hid (Own (w8.setCell ⟨L, v, none⟩ (.int .i64 ((cv : Int) + 1))) w.heap.size 3 1 (some ⟨L, 0, none⟩) nv nv (ivs (cnti (cnt.set v (cv + 1))))) := Lib.hid (by
              rw [← cnti_set, ← ivs_set, show ((cv + 1 : Nat) : Int) = (cv : Int) + 1 by omega]; exact HL8.out.set v _ hvn)
            clear hcur hmL
            go_wp2_with fail
            clear s0 f0
            generalize w8.setCell ⟨L, v, none⟩ (.int .i64 ((cv : Int) + 1)) = w9 at *
            have HN' := HNX
            go_loopw [18, 19, 20] (fun sn q _ wr => ∃ (k : Nat) (wx : World), wx = wr ∧ wx = w9 ∧ k ≤ nd ∧ q = .int .i64 (k : Int) ∧ sn = .int .i64 (snI i k)) (fun _ q _ _ => nd - (intOf q).toNat)
            case atStart => exact ⟨0, w9, rfl, rfl, by omega, rfl, by rw [snI_no (Nat.zero_le _)]⟩
            case round =>
              obtain ⟨k, wk, hwk, hwk9, hk, rfl, rfl⟩ := hrel
              subst hwk9
              subst hwk
              by_cases hkd : k < nd
              · have Hkb : Hid (k < S2.bays.length) := Lib.hid (by rw [HN'.out.bays]; exact hkd)
                have hb1 : decide (k < nd) = true := by simpa using hkd
                have hb2 : decide ((k : Int) < (nd : Int)) = true := by simp; omega
                go_wp2_with fail
                go_loopw [20] (fun p wr => ∃ (j : Nat) (wx : World), wx = wr ∧ wx = wk ∧ j ≤ k ∧ p = .int .i64 (j : Int)) (fun p _ => k - (intOf p).toNat)
                case atStart => exact ⟨0, wk, rfl, rfl, by omega, rfl⟩
                case round =>
                  obtain ⟨j, wj, hwj, hwjk, hj, rfl⟩ := hrel
                  subst hwjk
                  subst hwj
                  by_cases hjk : j < k
                  · have hjb : j < S2.bays.length := by have := Hkb.out; omega
                    go_wp2_with fail
                    refine (rob_holdsP (k : Int) (S2.bays[k]'Hkb.out).vol wj HR9.out (holds_at Hkb.out)).mono ?_
                    rintro e wq ⟨rfl, rfl⟩
                    obtain ⟨vk, hvk⟩ : ∃ vk, vk = (S2.bays[k]'Hkb.out).vol := ⟨_, rfl⟩
                    obtain ⟨vj, hvj⟩ : ∃ vj, vj = S2.bays[j].vol := ⟨_, rfl⟩
                    rw [← hvk]
                    by_cases h0 : 0 ≤ vk
                    · have e0 : decide (vk ≥ 0) = true := by simpa using h0
                      have hne : vk ≠ vj := fun he => by
                        have := HN'.out.ok.one k j (S2.bays[k]'Hkb.out) S2.bays[j] (List.getElem?_eq_getElem Hkb.out) (List.getElem?_eq_getElem hjb) (by rw [← hvk, ← hvj]; exact he) (by rw [← hvk]; exact h0)
                        omega
                      have e1 : (vk == vj) = false := by simpa using hne
                      have HVK : Hid (vk = (S2.bays[k]'Hkb.out).vol) := Lib.hid hvk
                      have HVJ : Hid (vj = S2.bays[j].vol) := Lib.hid hvj
                      clear hvk hvj hne h0
                      go_wp2_with fail
                      refine (rob_holdsP (k : Int) vk wj HR9.out ((holds_at Hkb.out).trans HVK.out.symm)).mono ?_
                      rintro e wq ⟨rfl, rfl⟩
                      go_wp2_with fail
                      refine (rob_holdsP (j : Int) vj wj HR9.out ((holds_at hjb).trans HVJ.out.symm)).mono ?_
                      rintro e wq ⟨rfl, rfl⟩
                      go_wp2_with fail
                      go_roundw
                      case rel => exact ⟨j + 1, wj, rfl, rfl, by omega, by go_num⟩
                      case measure => simp [intOf]; omega
                    · have e0 : decide (vk ≥ 0) = false := by simpa using h0
                      clear hvk hvj h0
                      go_wp2_with fail
                      go_roundw
                      case rel => exact ⟨j + 1, wj, rfl, rfl, by omega, by go_num⟩
                      case measure => simp [intOf]; omega
                  · obtain rfl : j = k := by omega
                    go_wp2_with fail
                    refine (rob_holdsP (j : Int) (S2.bays[j]'Hkb.out).vol wj HR9.out (holds_at Hkb.out)).mono ?_
                    rintro e wq ⟨rfl, rfl⟩
                    obtain ⟨vk, hvk⟩ : ∃ vk, vk = (S2.bays[j]'Hkb.out).vol := ⟨_, rfl⟩
                    rw [← hvk]
                    by_cases hji : i = j
                    · have e1 : (vk == (v : Int)) = true := by
                        have := HBE.out j hji Hkb.out
                        rw [hvk, this]; simp
                      have e2 : snI i j = 0 := snI_no (by omega)
                      have e3 : snI i (j + 1) = 1 := snI_yes (by omega)
                      clear hvk
                      rw [e2]
                      go_wp2_with fail
                      go_roundw
                      case rel => exact ⟨j + 1, wj, rfl, rfl, by omega, by go_num, by rw [e3]⟩
                      case measure => simp [intOf]; omega
                    · have e1 : (vk == (v : Int)) = false := by
                        have hne : vk ≠ (v : Int) := fun he => hji (HBN.out j Hkb.out (by rw [← hvk]; exact he))
                        simpa using hne
                      have e2 : snI i (j + 1) = snI i j := by
                        by_cases h9 : i < j
                        · rw [snI_yes h9, snI_yes (by omega)]
                        · rw [snI_no (by omega), snI_no (by omega)]
                      clear hvk
                      generalize snI i j = sv at *
                      go_wp2_with fail
                      go_roundw
                      case rel => exact ⟨j + 1, wj, rfl, rfl, by omega, by go_num, by rw [e2]⟩
                      case measure => simp [intOf]; omega
              · obtain rfl : nd = k := by omega
                have e3 : snI i nd = 1 := snI_yes HID.out
                rw [e3]
                go_wp2_with fail
                go_roundw
                case rel => exact ⟨t + 1, _, _, S2, _, rfl, by omega, by go_num, HN'.out, HR9.out, HL9.out, HB9.out⟩
                case measure => simp [intOf]; omega
          | false =>
            have HM1 : Hid (S1.mounts = mt + 1) := Lib.hid (by rw [HMN.out, hfi, Hmt.out]; rfl)
            clear hfi HMN
            go_wp2_with fail
            refine (rob_mountsP (mt + 1) w5 HR5.out HM1.out).mono ?_
            rintro e wq ⟨rfl, rfl⟩
            -- behind the mount's test: world w5; HR5 : RobP S1 D'; facts: i, v, cv = cnt[v]
            obtain ⟨s0, f0, hBL, hLl, _⟩ := own_int_at HL5.out hvl
            rw [Hc.out] at s0
            go_wp2_with fail
            clear s0 f0 hBL hLl
            refine (RobP.drive HR5.out (Up.all HB5.out.size) HBI.out (by rw [HBV.out]; omega) HDi.out (M' := tapeOf v cv) (at' := (cv : Int)) (s' := PS.new) (fun K' hd hu => (drv_locate 0 (cv : Int) 0 (cv : Int) PS.new w5 hd (by rw [HBM.out, tapeOf_len]; omega) (by decide) (by omega) (by rw [if_neg (by decide), HBM.out]; exact locate_zero (tapeOf_marks v cv) (by rw [tapeOf_len]; exact Nat.le_refl _) _)).mono fun e w' ⟨he, hd', hm⟩ => ⟨he, by rw [HBM.out] at hd'; exact hd', hm⟩) HG1.out).mono ?_
            rintro e w6 ⟨rfl, hR6, hm6⟩
            have HR6 := Lib.hid hR6
            have HB6 := Lib.hid (HB5.out.trans (hm6.below (fun b T h => h.1) HB5.out.size))
            have HL6 := Lib.hid (HL5.out.mod hm6 fun b _ _ hf => RobF_no_int _ hf)
            clear hR6 hm6
            obtain ⟨s0, f0, hBL, hLl, _⟩ := own_int_at HL6.out hvl
            rw [Hc.out] at s0
            have hbT := ext_alloc w6 (.cells #[.int .u8 (v : Int), .int .u8 (cv : Int)] 5)
            have hrow := own_new w6 [.int .u8 (v : Int), .int .u8 (cv : Int)] 5 2 1 rfl (by unfold maxLen; omega)
            rw [← bvs_cell2 v cv (by omega) (by omega)] at hrow
            have HT := Lib.hid hrow
            have HR7 := Lib.hid (HR6.out.ext hbT)
            have HB7 := Lib.hid (bthen HB6.out hbT (Nat.le_refl _))
            have HL7 := Lib.hid (HL6.out.ext hbT)
            clear hrow
            go_wp2_with fail
            clear s0 f0 hbT
            simp only [bvs_cell2 v cv (by omega) (by omega)] at HT
            generalize w6.alloc (.cells #[.int .u8 (v : Int), .int .u8 (cv : Int)] 5) = w7 at *
            refine (RobP.drive HR7.out (Up.all HB7.out.size) HBI2.out (by rw [HBV.out]; omega) HDi.out (M' := tapeOf v (cv + 1)) (at' := (cv : Int) + 1) (s' := PS.new) (fun K' hd hu => drv_write cv _ 2 2 [BitVec.ofNat 8 v, BitVec.ofNat 8 cv] PS.new PS.new 0 (tapeOf v (cv + 1)) ((cv : Int) + 1) w7 hd hu (by rw [tapeOf_len]; exact Nat.le_refl _) (by rw [tapeOf_len]; omega) (fun w' hm => by rw [bvs_cell2 v cv (by omega) (by omega)]; exact (HT.out.mod hm fun b _ _ => VF_no_u8 b).src) rfl (by decide) (by decide) (by rw [dvWrite_ok (by rw [tapeOf_len]; exact Nat.le_refl _) (by show (cv : Int) < 100; omega) ⟨by show 1 ≤ 2; omega, by show 2 ≤ 256; omega⟩]; exact congrArg (fun M => ((0 : Int), PS.new, M, (cv : Int) + 1)) (tapeOf_lay v cv))) HG2.out).mono ?_
            rintro e w8 ⟨rfl, hR8, hm8⟩
            have HR8 := Lib.hid hR8
            have HB8 := Lib.hid (HB7.out.trans (hm8.below (fun b T h => h.1) HB7.out.size))
            have HL8 := Lib.hid (HL7.out.mod hm8 fun b _ _ hf => RobF_no_int _ hf)
            clear hR8 hm8
            obtain ⟨s0, f0, hBL, hLl, cur, hcur⟩ := own_int_at HL8.out hvl
            rw [Hc.out] at s0
            have hmL : Mod (fun b T => b = L ∧ T = 3) w8 (w8.setCell ⟨L, v, none⟩ (.int .i64 ((cv : Int) + 1))) := (Mod.refl _ w8).setCell hcur ⟨rfl, rfl⟩ _ _
            have HR9 : Hid (RobP w.heap.size AllK (w8.setCell ⟨L, v, none⟩ (.int .i64 ((cv : Int) + 1))) r g S2 D' PS.new) := Lib.hid (by rw [HS2.out]; exact HR8.out.far (K' := AllK) hmL (fun b T _ hf hT => by rw [hf.2] at hT; exact absurd hT (by decide)) (fun _ _ _ h => h) fun b T hf => by rw [hf.2]; decide)
            have HB9 : Hid (Below w.heap.size w (w8.setCell ⟨L, v, none⟩ (.int .i64 ((cv : Int) + 1)))) := Lib.hid (HB8.out.setCell (p := ⟨L, v, none⟩) hBL _)
            have HL9 : Hid (Own (w8.setCell ⟨L, v, none⟩ (.int .i64 ((cv : Int) + 1))) w.heap.size 3 1 (some ⟨L, 0, none⟩) nv nv (ivs (cnti (cnt.set v (cv + 1))))) := Lib.hid (by
              rw [← cnti_set, ← ivs_set, show ((cv + 1 : Nat) : Int) = (cv : Int) + 1 by omega]; exact HL8.out.set v _ hvn)
            clear hcur hmL
            go_wp2_with fail
            clear s0 f0
            generalize w8.setCell ⟨L, v, none⟩ (.int .i64 ((cv : Int) + 1)) = w9 at *
            have HN' := HNX
            go_loopw [18, 19, 20] (fun sn q _ wr => ∃ (k : Nat) (wx : World), wx = wr ∧ wx = w9 ∧ k ≤ nd ∧ q = .int .i64 (k : Int) ∧ sn = .int .i64 (snI i k)) (fun _ q _ _ => nd - (intOf q).toNat)
            case atStart => exact ⟨0, w9, rfl, rfl, by omega, rfl, by rw [snI_no (Nat.zero_le _)]⟩
            case round =>
              obtain ⟨k, wk, hwk, hwk9, hk, rfl, rfl⟩ := hrel
              subst hwk9
              subst hwk
              by_cases hkd : k < nd
              · have Hkb : Hid (k < S2.bays.length) := Lib.hid (by rw [HN'.out.bays]; exact hkd)
                have hb1 : decide (k < nd) = true := by simpa using hkd
                have hb2 : decide ((k : Int) < (nd : Int)) = true := by simp; omega
                go_wp2_with fail
                go_loopw [20] (fun p wr => ∃ (j : Nat) (wx : World), wx = wr ∧ wx = wk ∧ j ≤ k ∧ p = .int .i64 (j : Int)) (fun p _ => k - (intOf p).toNat)
                case atStart => exact ⟨0, wk, rfl, rfl, by omega, rfl⟩
                case round =>
                  obtain ⟨j, wj, hwj, hwjk, hj, rfl⟩ := hrel
                  subst hwjk
                  subst hwj
                  by_cases hjk : j < k
                  · have hjb : j < S2.bays.length := by have := Hkb.out; omega
                    go_wp2_with fail
                    refine (rob_holdsP (k : Int) (S2.bays[k]'Hkb.out).vol wj HR9.out (holds_at Hkb.out)).mono ?_
                    rintro e wq ⟨rfl, rfl⟩
                    obtain ⟨vk, hvk⟩ : ∃ vk, vk = (S2.bays[k]'Hkb.out).vol := ⟨_, rfl⟩
                    obtain ⟨vj, hvj⟩ : ∃ vj, vj = S2.bays[j].vol := ⟨_, rfl⟩
                    rw [← hvk]
                    by_cases h0 : 0 ≤ vk
                    · have e0 : decide (vk ≥ 0) = true := by simpa using h0
                      have hne : vk ≠ vj := fun he => by
                        have := HN'.out.ok.one k j (S2.bays[k]'Hkb.out) S2.bays[j] (List.getElem?_eq_getElem Hkb.out) (List.getElem?_eq_getElem hjb) (by rw [← hvk, ← hvj]; exact he) (by rw [← hvk]; exact h0)
                        omega
                      have e1 : (vk == vj) = false := by simpa using hne
                      have HVK : Hid (vk = (S2.bays[k]'Hkb.out).vol) := Lib.hid hvk
                      have HVJ : Hid (vj = S2.bays[j].vol) := Lib.hid hvj
                      clear hvk hvj hne h0
                      go_wp2_with fail
                      refine (rob_holdsP (k : Int) vk wj HR9.out ((holds_at Hkb.out).trans HVK.out.symm)).mono ?_
                      rintro e wq ⟨rfl, rfl⟩
                      go_wp2_with fail
                      refine (rob_holdsP (j : Int) vj wj HR9.out ((holds_at hjb).trans HVJ.out.symm)).mono ?_
                      rintro e wq ⟨rfl, rfl⟩
                      go_wp2_with fail
                      go_roundw
                      case rel => exact ⟨j + 1, wj, rfl, rfl, by omega, by go_num⟩
                      case measure => simp [intOf]; omega
                    · have e0 : decide (vk ≥ 0) = false := by simpa using h0
                      clear hvk hvj h0
                      go_wp2_with fail
                      go_roundw
                      case rel => exact ⟨j + 1, wj, rfl, rfl, by omega, by go_num⟩
                      case measure => simp [intOf]; omega
                  · obtain rfl : j = k := by omega
                    go_wp2_with fail
                    refine (rob_holdsP (j : Int) (S2.bays[j]'Hkb.out).vol wj HR9.out (holds_at Hkb.out)).mono ?_
                    rintro e wq ⟨rfl, rfl⟩
                    obtain ⟨vk, hvk⟩ : ∃ vk, vk = (S2.bays[j]'Hkb.out).vol := ⟨_, rfl⟩
                    rw [← hvk]
                    by_cases hji : i = j
                    · have e1 : (vk == (v : Int)) = true := by
                        have := HBE.out j hji Hkb.out
                        rw [hvk, this]; simp
                      have e2 : snI i j = 0 := snI_no (by omega)
                      have e3 : snI i (j + 1) = 1 := snI_yes (by omega)
                      clear hvk
                      rw [e2]
                      go_wp2_with fail
                      go_roundw
                      case rel => exact ⟨j + 1, wj, rfl, rfl, by omega, by go_num, by rw [e3]⟩
                      case measure => simp [intOf]; omega
                    · have e1 : (vk == (v : Int)) = false := by
                        have hne : vk ≠ (v : Int) := fun he => hji (HBN.out j Hkb.out (by rw [← hvk]; exact he))
                        simpa using hne
                      have e2 : snI i (j + 1) = snI i j := by
                        by_cases h9 : i < j
                        · rw [snI_yes h9, snI_yes (by omega)]
                        · rw [snI_no (by omega), snI_no (by omega)]
                      clear hvk
                      generalize snI i j = sv at *
                      go_wp2_with fail
                      go_roundw
                      case rel => exact ⟨j + 1, wj, rfl, rfl, by omega, by go_num, by rw [e2]⟩
                      case measure => simp [intOf]; omega
              · obtain rfl : nd = k := by omega
                have e3 : snI i nd = 1 := snI_yes HID.out
                rw [e3]
                go_wp2_with fail
                go_roundw
                case rel => exact ⟨t + 1, _, _, S2, _, rfl, by omega, by go_num, HN'.out, HR9.out, HL9.out, HB9.out⟩
                case measure => simp [intOf]; omega
    · obtain rfl : N = t := by omega
      go_wp2_with fail
      go_loopw [21, 23, 24] (fun i _ _ wr => ∃ (v : Nat) (wy : World), wy = wr ∧ v ≤ nv ∧ i = .int .i64 (v : Int) ∧ RobP w.heap.size AllK wy r g S D PS.new ∧ Own wy w.heap.size 3 1 (some ⟨L, 0, none⟩) nv nv (ivs (cnti cnt)) ∧ Below w.heap.size w wy) (fun i _ _ _ => nv - (intOf i).toNat)
      case atStart => exact ⟨0, _, rfl, by omega, rfl, HR.out, HL.out, HB.out⟩
      case round =>
        obtain ⟨v, wy, hwy, hvn0, rfl, hR, hL, hB⟩ := hrel
        subst hwy
        clear HR HL HB
        have HR := Lib.hid hR
        have HL := Lib.hid hL
        have HB := Lib.hid hB
        clear hR hL hB
        by_cases hvn : v < nv
        · have hvl : v < cnt.length := by rw [HH.out.len]; exact hvn
          have hsv : v < S.vols.length := by rw [HH.out.vols]; exact hvn
          have hc60 : cnt[v] ≤ 60 := by have := HH.out.le v hvl; omega
          have HTP := Lib.hid (HH.out.tape v hvl)
          obtain ⟨cv, hcv⟩ : ∃ c, c = cnt[v] := ⟨_, rfl⟩
          have Hc : Hid (cnt[v] = cv) := Lib.hid hcv.symm
          rw [← hcv] at HTP hc60
          clear hcv
          go_wp2_with fail
          refine (rob_medium v (tapeOf v cv) wy HR.out hsv HTP.out).mono ?_
          rintro e wz ⟨aX, kX, cX, csX, rfl, hMX, hcX, hbX⟩
          have hkX : kX = cv := by rw [← hMX.len, ← pls_length, hMX.pls, tapeOf_len]
          subst hkX
          obtain ⟨hTX, hSX⟩ := TapeO.new 100 rfl hMX hcX
          have hzX := heap_alloc_new wz (.cells #[.int .i64 0, .slice none 0 0] 24)
          have hbyX := bthen hbX hSX (Nat.le_refl _)
          go_wp2_with (refine wpList_store_row rfl rfl 24 (.tmp 22) (.tmp 187) rfl wz.heap.size rfl 24 #[.int .i64 0, .slice none 0 0] #[.int .i64 100, .slice aX kX cX] rfl hzX rfl (by kernel_rfl) (by simp [Value.oneCell']) ?_)
          clear hzX hMX hbX hSX
          generalize (wz.alloc (.cells #[.int .i64 0, .slice none 0 0] 24)).setRow wz.heap.size #[.int .i64 100, .slice aX kX cX] = wx2 at *
          generalize wz.heap.size = GX at *
          have HTX := Lib.hid hTX
          have HRy := Lib.hid (HR.out.ext hbyX)
          have HLy := Lib.hid (HL.out.ext hbyX)
          have HBy := Lib.hid (bthen HB.out hbyX (Nat.le_refl _))
          clear hTX hbyX
          obtain ⟨x0, x1⟩ := HTX.out.box.cells
          have hlX := heap_lt HTX.out.box
          obtain ⟨s0, f0, hBL, hLl, _⟩ := own_int_at HLy.out hvl
          rw [Hc.out] at s0
          refine wp_region_phase (by kernel_rfl) [] (by kernel_rfl) (by kernel_rfl) ?_
          refine stage_last [Sp.eq (.int .i64 0), Sp.eq (.bool false), Sp.eq (.bool false), Sp.eq (.pointer (some ⟨GX, 1, none⟩)), Sp.eq (.slice aX kX cX), Sp.eq (.int .i64 (kX : Int)), Sp.eq (.slice (some ⟨L, 0, none⟩) nv nv), Sp.eq (.int .i64 (v : Int)), Sp.eq (.pointer (some ⟨L, v, none⟩)), Sp.eq (.int .i64 (kX : Int)), Sp.eq (.bool false), Sp.eq (.bool false)] ?_ ?_
          · refine stepsG_cons ?_ (stepsG_cons ?_ (stepsG_cons ?_ (stepsG_cons ?_ (stepsG_cons ?_ (stepsG_cons ?_ (stepsG_cons ?_ (stepsG_cons ?_ (stepsG_cons ?_ (stepsG_cons ?_ (stepsG_cons ?_ (stepsG_cons ?_ (stepsG_nil))))))))))))
            · intro ρ w' E
              have e23 : ρ (.tmp 23) = .int .i64 0 := E.out 23 rfl
              refine step_plain rfl ?_
              exact op_move (.inl rfl) e23 ⟨Below.refl _ _, rfl⟩
            · intro ρ w' E
              have e189 : ρ (.tmp 189) = .int .i64 0 := E.pre 0 rfl rfl
              refine step_plain rfl ?_
              refine op_val (v := .bool false) (w' := w') ?_ ⟨Below.refl _ _, rfl⟩
              have hcon := E.con
              clear E
              go_simp
            · intro ρ w' E
              have e190 : ρ (.tmp 190) = .bool false := E.pre 1 rfl rfl
              refine step_plain rfl ?_
              exact op_move (.inl rfl) e190 ⟨Below.refl _ _, rfl⟩
            · intro ρ w' E
              have e22 : ρ (.tmp 22) = .pointer (some ⟨GX, 0, none⟩) := E.out 22 rfl
              refine step_yes rfl (E.pre 2 rfl rfl) ?_
              refine op_val (v := .pointer (some ⟨GX, 1, none⟩)) (w' := w') ?_ ⟨Below.refl _ _, rfl⟩
              have hcon := E.con
              clear E
              go_simp
            · intro ρ w' E
              have e192 : ρ (.tmp 192) = .pointer (some ⟨GX, 1, none⟩) := E.pre 3 rfl rfl
              refine step_yes rfl (E.pre 2 rfl rfl) ?_
              refine op_val (v := .slice aX kX cX) (w' := w') ?_ ⟨Below.refl _ _, rfl⟩
              have hk := (World.cell?_of_block (w := wx2) (E.below.block _ hlX)).trans x1
              have hcon := E.con
              clear E x0 x1 s0
              go_simp
            · intro ρ w' E
              have e193 : ρ (.tmp 193) = .slice aX kX cX := E.pre 4 rfl rfl
              refine step_yes rfl (E.pre 2 rfl rfl) ?_
              refine op_val (v := .int .i64 (kX : Int)) (w' := w') ?_ ⟨Below.refl _ _, rfl⟩
              have hcon := E.con
              clear E
              go_simp
            · intro ρ w' E
              have e10 : ρ (.tmp 10) = .slice (some ⟨L, 0, none⟩) nv nv := E.out 10 rfl
              refine step_yes rfl (E.pre 2 rfl rfl) ?_
              exact op_move (.inl rfl) e10 ⟨Below.refl _ _, rfl⟩
            · intro ρ w' E
              have e21 : ρ (.tmp 21) = .int .i64 (v : Int) := E.out 21 rfl
              refine step_yes rfl (E.pre 2 rfl rfl) ?_
              exact op_move (.inl rfl) e21 ⟨Below.refl _ _, rfl⟩
            · intro ρ w' E
              have e195 : ρ (.tmp 195) = .slice (some ⟨L, 0, none⟩) nv nv := E.pre 6 rfl rfl
              have e196 : ρ (.tmp 196) = .int .i64 (v : Int) := E.pre 7 rfl rfl
              refine step_yes rfl (E.pre 2 rfl rfl) ?_
              refine op_val (v := .pointer (some ⟨L, v, none⟩)) (w' := w') ?_ ⟨Below.refl _ _, rfl⟩
              have hcon := E.con
              clear E
              go_simp
            · intro ρ w' E
              have e197 : ρ (.tmp 197) = .pointer (some ⟨L, v, none⟩) := E.pre 8 rfl rfl
              refine step_yes rfl (E.pre 2 rfl rfl) ?_
              refine op_val (v := .int .i64 (kX : Int)) (w' := w') ?_ ⟨Below.refl _ _, rfl⟩
              have hk := (World.cell?_of_block (w := wx2) (E.below.block _ hLl)).trans s0
              have hcon := E.con
              clear E x0 x1 s0
              go_simp
            · intro ρ w' E
              have e194 : ρ (.tmp 194) = .int .i64 (kX : Int) := E.pre 5 rfl rfl
              have e198 : ρ (.tmp 198) = .int .i64 (kX : Int) := E.pre 9 rfl rfl
              refine step_yes rfl (E.pre 2 rfl rfl) ?_
              refine op_val (v := .bool false) (w' := w') ?_ ⟨Below.refl _ _, rfl⟩
              have hcon := E.con
              clear E
              go_simp
            · intro ρ w' E
              have e191 : ρ (.tmp 191) = .bool false := E.pre 2 rfl rfl
              have e199 : ρ (.tmp 199) = .bool false := E.pre 10 rfl rfl
              refine step_plain rfl ?_
              exact op_pick (b := false) rfl e191 rfl ⟨Below.refl _ _, e199⟩
          · intro σF wF GF OF HF
            have s200 : σF 200 = .bool false := HF 11 rfl rfl
            clear OF HF
            simp only [upd, updL, dstsOf', elemB, List.filterMap_cons, List.filterMap_nil, Nat.reduceAdd, Nat.reduceBEq, Bool.or_false, Bool.false_or, Bool.or_true, Bool.true_or, cond_true, cond_false, Nat.zero_add, s200]
            have HTF := Lib.hid (HTX.out.ext GF)
            have HRF := Lib.hid (HRy.out.ext GF)
            have HLF := Lib.hid (HLy.out.ext GF)
            have HBF := Lib.hid (bthen HBy.out GF (Nat.le_refl _))
            clear GF x0 x1 s0 f0 s200 HTX HRy HLy HBy hlX
            go_wp2_with fail
            go_loopw [24] (fun i wr => ∃ (k : Nat) (wb : World), wb = wr ∧ k ≤ kX ∧ i = .int .i64 (k : Int) ∧ Below wF.heap.size wF wb) (fun i _ => kX - (intOf i).toNat)
            case atStart => exact ⟨0, wF, rfl, by omega, rfl, Below.refl _ _⟩
            case round =>
              obtain ⟨k, wb, hwb, hk0, rfl, hbb⟩ := hrel
              subst hwb
              have HTb := Lib.hid (HTF.out.ext hbb)
              have HRb := Lib.hid (HRF.out.ext hbb)
              have HLb := Lib.hid (HLF.out.ext hbb)
              have HBb := Lib.hid (bthen HBF.out hbb (Nat.le_refl _))
              have Hbb := Lib.hid hbb
              clear hbb
              obtain ⟨s0, f0, hBL, hLl, _⟩ := own_int_at HLb.out hvl
              rw [Hc.out] at s0
              obtain ⟨x0, x1⟩ := HTb.out.box.cells
              by_cases hkk : k < kX
              · have hkc : k < csX.length := by rw [HTb.out.r.len]; exact hkk
                obtain ⟨xb, xo, rfl, hlb, hat⟩ := HTb.out.r.mat.src.elem CellV.len (by decide) hkc
                have hpl : csX[k].pl = cell2 v k := by
                  have h1 : (pls csX)[k]? = some csX[k].pl := pls_get' hkc
                  rw [HTb.out.r.pls] at h1
                  unfold tapeOf at h1
                  rw [List.getElem?_map, List.getElem?_range hkk] at h1
                  exact (Option.some.inj h1).symm
                have hbd := HTb.out.r.mat.row csX[k] (List.getElem_mem hkc)
                have q1 := hat k hkc 1 _ rfl
                generalize csX[k] = xx at *
                obtain ⟨kd, ⟨xa, xc, xl⟩, bd⟩ := xx
                have hxl : xl = [BitVec.ofNat 8 v, BitVec.ofNat 8 k] := congrArg CellP.data hpl
                subst hxl
                have q1 : wb.cell? ⟨xb, xo + k * 3 + 1, none⟩ = some (.slice xa 2 xc) := q1
                have HSX := Lib.hid hbd.1
                clear hat hpl hbd
                have hbT := ext_alloc wb (.cells #[.int .u8 (v : Int), .int .u8 (k : Int)] 5)
                have hsT : Src (wb.alloc (.cells #[.int .u8 (v : Int), .int .u8 (k : Int)] 5)) (some ⟨wb.heap.size, 0, none⟩) [.int .u8 (v : Int), .int .u8 (k : Int)] := src_new wb _ _
                have HST := Lib.hid hsT
                have HBT := Lib.hid (bthen Hbb.out hbT (Nat.le_refl _))
                have HSX2 := Lib.hid (HSX.out.ext hbT)
                clear hsT hbT
                have hd1 : decide ((v : Int) < (nv : Int)) = true := by simp; omega
                have hd2 : decide (v < nv) = true := by simpa using hvn
                go_wp2_with fail
                refine (bytes_at xa xc [BitVec.ofNat 8 v, BitVec.ofNat 8 k] (some ⟨wb.heap.size, 0, none⟩) 2 [BitVec.ofNat 8 v, BitVec.ofNat 8 k] _ 2 2 true HSX2.out (by rw [bvs_cell2 v k (by omega) (by omega)]; exact HST.out) rfl rfl (by decide) (by decide) (by simp)).mono ?_
                rintro e wc ⟨rfl, nd2, rfl⟩
                have HBC := Lib.hid (bthen HBT.out (ext_drewN _ nd2 _) (Nat.le_refl _))
                clear q1 s0 f0 x0 x1
                go_wp2_with fail
                go_roundw
                case rel => exact ⟨k + 1, _, rfl, by omega, by go_num, HBC.out⟩
                case measure => simp [intOf]; omega
              · obtain rfl : kX = k := by omega
                go_wp2_with fail
                go_roundw
                case rel => exact ⟨v + 1, wb, rfl, by omega, by go_num, HRb.out, HLb.out, HBb.out⟩
                case measure => simp [intOf]; omega
        · obtain rfl : nv = v := by omega
          go_wp2_with fail
          refine (wakes13_any wy).mono ?_
          rintro e w4 ⟨rfl, hb4⟩
          have HB4 := Lib.hid (bthen HB.out hb4 (Nat.le_refl _))
          clear hb4
          go_wp2
          go_ret
          exact ⟨rfl, HB4.out⟩
end Go.Proofs.Ytnbpcdnpdcfiiaa
