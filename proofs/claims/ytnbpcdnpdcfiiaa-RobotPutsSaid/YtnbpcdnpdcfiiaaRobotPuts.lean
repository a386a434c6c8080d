/- The walk of RobotPuts. -/
import Derived.Test.YtnbpcdnpdcfiiaaRobotPutsPartQ
import Derived.Test.YtnbpcdnpdcfiiaaDrvWrite
import Derived.Test.YtnbpcdnpdcfiiaaRobotPutsPartD
import Derived.Test.YtnbpcdnpdcfiiaaKeepMed
import Derived.Test.YtnbpcdnpdcfiiaaRobotPutsPartB
import Derived.Test.YtnbpcdnpdcfiiaaRobotPutsPartF
import Derived.Test.YtnbpcdnpdcfiiaaRobotPutsPartL
namespace Go.Proofs.Ytnbpcdnpdcfiiaa
open Go.RowKit

theorem pls_get0 {cs : List CellV} {i : Nat} (hi : i < cs.length) : (pls cs)[i]? = some cs[i].pl := by unfold pls; rw [List.getElem?_map, List.getElem?_eq_getElem hi]; rfl

set_option maxRecDepth 100000 in
set_option maxHeartbeats 16000000 in
theorem robotPuts_walk (w : World) (vI : Int) (wv : (Lit.int .i64 vI).wf = true) (cap : Int) (a : Option Addr) (c : Nat) (cs : List CellV) (hs : CMat w a cs) (hl : cs.length ≤ 9223372036854775807) (hlc : cs.length ≤ c) (tI : Int) (wt : (Lit.int .i64 tI).wf = true) (mounted : Bool) :
    Calls Try.prog 5 #[.int .i64 vI, .agg #[.int .i64 cap, .slice a cs.length c], .int .i64 tI, .bool mounted] w fun e w' => e = .returned (.bool true) ∧ Below w.heap.size w w' := by
  obtain ⟨n, hn⟩ : ∃ n, n = cs.length := ⟨_, rfl⟩
  rw [← hn] at hl hlc ⊢
  have Hs := Lib.hid hs
  have Hn := Lib.hid hn
  obtain ⟨q, hq, eq⟩ := umod vI 8 (by decide) (by decide)
  obtain ⟨nv, hnv, hn1, hn8⟩ : ∃ n, n = 1 + q ∧ 1 ≤ n ∧ n ≤ 8 := ⟨_, rfl, by omega, by omega⟩
  have e1q : (1 : Int) + (q : Int) = (nv : Int) := by omega
  have hb1 := ext_alloc w (.cells #[.int .i64 cap, .slice a n c] 24)
  have hT : TapeAt (w.alloc (.cells #[.int .i64 cap, .slice a n c] 24)) w.heap.size ⟨cap, pls cs⟩ a n c cs := ⟨heap_alloc_new w _, hs.ext hb1, hn, rfl, hlc⟩
  have HT := Lib.hid hT
  have HB1 := Lib.hid hb1
  have hT0 := heap_lt hT.box
  have hlow : w.heap.size < (w.alloc (.cells #[.int .i64 cap, .slice a n c] 24)).heap.size := hT0
  obtain ⟨t0, t1⟩ := hT.box.cells
  dsimp only at t0 t1
  clear hs hn hnv hb1 hT hT0 hlc
  go_enter Try.func5, Try.ntmps5
  by_cases h60 : 60 < n
  · have eb : decide ((n : Int) > 60) = true := by simp; omega
    go_wp2
    go_ret
    exact ⟨rfl, HB1.out⟩
  have eb : decide ((n : Int) > 60) = false := by simp; omega
  by_cases hc1 : cap < 1
  · have ec : decide (cap < 1) = true := by simpa using hc1
    go_wp2
    go_ret
    exact ⟨rfl, HB1.out⟩
  have ec : decide (cap < 1) = false := by simpa using hc1
  by_cases hc4 : 400 < cap
  · have ed : decide (cap > 400) = true := by simpa using hc4
    go_wp2
    go_ret
    exact ⟨rfl, HB1.out⟩
  have ed : decide (cap > 400) = false := by simpa using hc4
  have hcap : 1 ≤ cap ∧ cap ≤ 400 := by omega
  have hn60 : n ≤ 60 := by omega
  have hn2 : n ≤ 9223372036854775807 := by omega
  clear h60 hc1 hc4
  go_wp2_with fail
  clear eb ec ed eq hq t0 t1 hl
  generalize hw1 : w.alloc (.cells #[.int .i64 cap, .slice a n c] 24) = w1 at *
  clear hw1
  go_loopw [9] (fun i wr => ∃ (k : Nat) (wx : World), wx = wr ∧ wx = w1 ∧ k ≤ n ∧ i = .int .i64 (k : Int) ∧ ∀ j (hj : j < cs.length), j < k → cs[j].d.l.length ≤ 300) (fun i _ => n - (intOf i).toNat)
  case atStart => exact ⟨0, w1, rfl, rfl, by omega, rfl, fun j _ hj => by omega⟩
  case round =>
    obtain ⟨k, wx, hwx, hwx1, hk, rfl, h300⟩ := hrel
    subst hwx1
    subst hwx
    have H300 := Lib.hid h300
    clear h300
    obtain ⟨t0, t1⟩ := HT.out.box.cells
    dsimp only at t0 t1
    by_cases hkn : k < n
    · have hkc : k < cs.length := by have := Hn.out; omega
      obtain ⟨xb, xo, rfl, hlb, hat⟩ := HT.out.mat.src.elem CellV.len (by decide) hkc
      have q1 : wx.cell? ⟨xb, xo + k * 3 + 1, none⟩ = some (.slice cs[k].d.a cs[k].d.l.length cs[k].d.c) := hat k hkc 1 _ rfl
      by_cases h3 : 300 < cs[k].d.l.length
      · have ee : decide ((cs[k].d.l.length : Int) > 300) = true := by simp; omega
        clear hat
        generalize cs[k].d.l.length = len at *
        go_wp2
        go_ret
        exact ⟨rfl, HB1.out⟩
      · have ee : decide ((cs[k].d.l.length : Int) > 300) = false := by simp; omega
        have HNX : Hid (∀ j (hj : j < cs.length), j < k + 1 → cs[j].d.l.length ≤ 300) := Lib.hid fun j hj hjk => by
          by_cases hj2 : j = k
          · subst hj2; omega
          · exact H300.out j hj (by omega)
        clear hat
        generalize cs[k].d.l.length = len at *
        generalize cs[k].d.a = xa at *
        generalize cs[k].d.c = xc at *
        go_wp2_with fail
        go_roundw
        case rel => exact ⟨k + 1, wx, rfl, rfl, by omega, by go_num, HNX.out⟩
        case measure => simp [intOf]; omega
    · obtain rfl : n = k := by omega
      have Hx : Hid (∀ x ∈ cs, x.d.l.length ≤ 140737488355328) := Lib.hid fun x hx => by
        obtain ⟨j, hj, rfl⟩ := List.mem_iff_getElem.1 hx
        have := H300.out j hj (by have := Hn.out; omega)
        omega
      clear H300 t0 t1
      obtain ⟨t0, t1⟩ := HT.out.box.cells
      dsimp only at t0 t1
      go_wp2_with fail
      clear t0 t1
      refine (power_new wx).mono ?_
      rintro e w2 ⟨g, rfl, hp2, hb2⟩
      have HP2 := Lib.hid hp2
      have HB2 := Lib.hid hb2
      have HT2 := Lib.hid (HT.out.ext hb2)
      clear hp2 hb2
      obtain ⟨t0, t1⟩ := HT2.out.box.cells
      dsimp only at t0 t1
      obtain ⟨capN, hcapN⟩ : ∃ k : Nat, (k : Int) = cap := ⟨cap.toNat, by omega⟩
      have HcapN := Lib.hid hcapN
      go_wp2_with fail
      rw [← hcapN]
      clear t0 t1 hcapN e1q
      refine (rob_new (B := wx.heap.size) (K := AllK) (fun _ => 0) nv capN 2 w2 (Up.all HB2.out.size) HP2.out (by omega) (by have := HcapN.out; omega) (by decide)).mono ?_
      rintro e w3 ⟨r, rfl, h3, hb3⟩
      have HN0 := PutsP.new hcap nv (by omega)
      rw [show cap.toNat = capN by have := HcapN.out; omega] at HN0
      have HPN := Lib.hid HN0
      have HR3 := Lib.hid h3
      have HB3 := Lib.hid (bthen HB2.out hb3 (Nat.le_refl _))
      clear h3 hb3 HN0 HB2
      go_wp2_with fail
      go_loopw [13, 14, 15] (fun i _ _ wr => ∃ (v : Nat) (D : Nat → Nat) (S : RS) (wy : World), wy = wr ∧ v ≤ nv ∧ i = .int .i64 (v : Int) ∧ PutsP S cap nv v (fun u => if u < v then one1 cap u else ⟨cap, []⟩) ∧ RobP wx.heap.size AllK wy r g S D PS.new ∧ Below wx.heap.size wx wy) (fun i _ _ _ => nv - (intOf i).toNat)
      case atStart => exact ⟨0, _, _, _, rfl, by omega, rfl, HPN.out, HR3.out, HB3.out⟩
      case round =>
        obtain ⟨v, D, S, wy, hwy, hvn0, rfl, hPN, hR, hB⟩ := hrel
        subst hwy
        clear HPN HR3 HB3
        have HPN := Lib.hid hPN
        have HR := Lib.hid hR
        have HB := Lib.hid hB
        clear hPN hR hB
        by_cases hvn : v < nv
        · obtain ⟨⟨S1, i⟩, hr⟩ : ∃ y, y = S.mount v := ⟨_, rfl⟩
          obtain ⟨⟨b, hbi, hbv, hbM, hbat⟩, hok1, hsz1, hstep⟩ := HPN.out.step hcap hvn (by omega) hr.symm
          have HR1 := Lib.hid hr.symm
          have HST := Lib.hid hstep
          have HBI := Lib.hid hbi
          have HBV := Lib.hid hbv
          have HBM := Lib.hid hbM
          have HBA := Lib.hid hbat
          have HG1 : Hid (DGood (one1 cap v) 1 ∧ (one1 cap v).cap = S1.size) := Lib.hid ⟨one1_good hcap v, hsz1.symm⟩
          clear hbi hbv hbM hbat hok1 hsz1 hstep hr
          go_wp2_with fail
          refine (rob_mountP HR1.out wy HR.out (Up.all HB.out.size) rfl (by rw [HPN.out.vols]; exact hvn) (by rw [HPN.out.asked]; omega)).mono ?_
          rintro e w5 ⟨d, D', rfl, hdi, hR5, hm5⟩
          have HDi := Lib.hid hdi
          have HR5 := Lib.hid hR5
          have HB5 := Lib.hid (HB.out.trans (hm5.below (fun b T h => h.1) HB.out.size))
          clear hdi hR5 hm5
          have hbT := ext_alloc w5 (.cells #[.int .u8 (v : Int)] 5)
          have hrow := own_new w5 [.int .u8 (v : Int)] 5 1 1 rfl (by unfold maxLen; omega)
          have hbv1 : bvs [BitVec.ofNat 8 v] = [.int .u8 (v : Int)] := by simp [bvs, u8v, BitVec.toNat_ofNat, Nat.mod_eq_of_lt (show v < 256 by omega)]
          have Hbv1 := Lib.hid hbv1
          have HT5 := Lib.hid hrow
          have HR7 := Lib.hid (HR5.out.ext hbT)
          have HB7 := Lib.hid (bthen HB5.out hbT (Nat.le_refl _))
          clear hrow hbv1 hbT
          go_wp2_with fail
          generalize w5.alloc (.cells #[.int .u8 (v : Int)] 5) = w7 at *
          refine (RobP.drive HR7.out (Up.all HB7.out.size) HBI.out (by rw [HBV.out]; omega) HDi.out (M' := one1 cap v) (at' := 1) (s' := PS.new) (fun K' hd hu => drv_write 0 _ 1 1 [BitVec.ofNat 8 v] PS.new PS.new 0 (one1 cap v) 1 w7 (by rw [HBA.out] at hd; exact hd) hu (Nat.zero_le _) (by rw [HBM.out]; exact Nat.zero_le _) (fun w' hm => by rw [Hbv1.out]; exact (HT5.out.mod hm fun b _ _ => VF_no_u8 b).src) rfl (by decide) (by decide) (by rw [HBM.out, dvWrite_ok (Nat.zero_le _) (by show ((0 : Nat) : Int) < cap; omega) ⟨by show 1 ≤ 1; omega, by show 1 ≤ 256; omega⟩]; rfl)) HG1.out).mono ?_
          rintro e w8 ⟨rfl, hR8, hm8⟩
          have HR8 := Lib.hid hR8
          have HB8 := Lib.hid (HB7.out.trans (hm8.below (fun b T h => h.1) HB7.out.size))
          clear hR8 hm8
          go_wp2_with fail
          go_roundw
          case rel => exact ⟨v + 1, D', _, _, rfl, by omega, by go_num, HST.out, HR8.out, HB8.out⟩
          case measure => simp [intOf]; omega
        · obtain rfl : nv = v := by omega
          have HPN2 : Hid (PutsP S cap nv nv (one1 cap)) := Lib.hid ⟨HPN.out.ok, HPN.out.vols, HPN.out.bays, HPN.out.size, HPN.out.asked, fun u hu => by rw [HPN.out.tape u hu, if_pos hu]⟩
          clear HPN
          obtain ⟨v, hv, ev⟩ := umod tI (nv : Int) (by omega) (by omega)
          have hvn : v < nv := by omega
          have HTy := Lib.hid (HT.out.ext HB.out)
          obtain ⟨⟨S1, i⟩, hr⟩ : ∃ y, y = S.mount v := ⟨_, rfl⟩
          have HR1 := Lib.hid hr.symm
          have HPM := Lib.hid (HPN2.out.mount hvn (by omega) hr.symm)
          clear hr
          cases mounted with
          | true =>
            go_wp2_with fail
            try rw [ev]
            clear ev
            refine (rob_mountP HR1.out wy HR.out (Up.all HB.out.size) rfl (by rw [HPN2.out.vols]; exact hvn) (by rw [HPN2.out.asked]; omega)).mono ?_
            rintro e w5 ⟨d, D', rfl, hdi, hR5, hm5⟩
            have HR5 := Lib.hid hR5
            have HB5 := Lib.hid (HB.out.trans (hm5.below (fun b T h => h.1) HB.out.size))
            clear hdi hR5 hm5
            -- ahead of Put: world w5, HR5 : RobP S5 D5; HPM : PutsP S5 cap nv t5 (one1 cap); HB5 : Below wx w5
            have HT5 := Lib.hid (HT.out.ext HB5.out)
            obtain ⟨t0, t1⟩ := HT5.out.box.cells
            dsimp only at t0 t1
            go_wp2_with fail
            try rw [ev]
            try clear ev
            clear t0 t1
            cases hok : (medOf cap cs).ok with
            | true =>
              have HOKB := Lib.hid hok
              refine (rob_put v cap a c n cs w5 HR5.out (Up.all HB5.out.size) HT5.out.mat Hn.out (by omega) Hx.out (by rw [HPM.out.vols]; exact hvn) hok HPM.out.size.symm).mono ?_
              rintro e wp ⟨rfl, hRQ, hmQ⟩
              have hPQ := HPM.out.put hvn (m := ⟨cap, pls cs⟩) ⟨hok, rfl⟩
              have HAT : Hid (∀ (SZ : RS) (i : Nat), (S1.put v ⟨cap, pls cs⟩).mount v = (SZ, i) → ∃ b : Bay, SZ.bays[i]? = some b ∧ b.vol = v ∧ b.at_ = 0) := Lib.hid fun SZ i hr => put_mount_at HPM.out.ok (by rw [HPM.out.vols]; exact hvn) ⟨hok, HPM.out.size.symm⟩ (by rw [HPM.out.asked]; omega) hr
              obtain ⟨SQ, hSQ⟩ : ∃ S9, S9 = S1.put v ⟨cap, pls cs⟩ := ⟨_, rfl⟩
              obtain ⟨TQ, hTQ⟩ : ∃ T : Nat → Med, T = fun u => if u = v then ⟨cap, pls cs⟩ else one1 cap u := ⟨_, rfl⟩
              rw [← hSQ, ← hTQ] at hPQ
              rw [← hSQ] at hRQ HAT
              have HTQ := Lib.hid hTQ
              have HPQ := Lib.hid hPQ
              have HRQ := Lib.hid hRQ
              have HBp := Lib.hid (HB5.out.trans (hmQ.below (fun b T h => h.1) HB5.out.size))
              have HTp := Lib.hid (HT.out.ext HBp.out)
              clear hRQ hmQ hok hPQ hSQ hTQ
              -- behind Put: world wp; HPQ : PutsP SQ cap nv tq T2; HRQ : RobP SQ D; HBp: Below wx wp; HTp: box of m
              obtain ⟨t0, t1⟩ := HTp.out.box.cells
              dsimp only at t0 t1
              go_wp2_with fail
              clear t0 t1
              refine (refmed_any cap a c n cs true wp HTp.out.mat Hn.out hn2 HOKB.out).mono ?_
              rintro e wr0 ⟨rfl, hbr⟩
              have HR0 := Lib.hid (HRQ.out.ext hbr)
              have HB0 := Lib.hid (bthen HBp.out hbr (Nat.le_refl _))
              have HT0 := Lib.hid (HTp.out.ext hbr)
              clear hbr
              obtain ⟨t0, t1⟩ := HT0.out.box.cells
              dsimp only at t0 t1
              have hbO := bsetRow (ext_alloc wr0 (.cells #[.int .i64 0, .slice none 0 0] 24)) (Nat.le_refl _) #[.int .i64 cap, .slice a n c]
              have hgO := setRow_heap (wr0.alloc (.cells #[.int .i64 0, .slice none 0 0] 24)) wr0.heap.size _ #[.int .i64 cap, .slice a n c] _ _ (heap_alloc_new wr0 _)
              have hbO2 := hbO.setCell (p := ⟨wr0.heap.size, 0, none⟩) (Nat.le_refl _) (.int .i64 (cap % 400 + 1))
              have hgO2 := heap_setCell_same _ wr0.heap.size 0 _ _ (.int .i64 (cap % 400 + 1)) hgO
              have o0 := cell_of_row _ wr0.heap.size 0 _ _ _ hgO
              have fo := frozen_of_row _ wr0.heap.size 0 _ _ hgO
              have t0' := (World.cell?_of_block (w := wr0) (hbO.block _ (heap_lt HT0.out.box))).trans t0
              have HO := Lib.hid (show _ = some (Obj.cells #[.int .i64 (cap % 400 + 1), .slice a n c] 24 (0, 0)) from hgO2)
              have HR1 := Lib.hid (HR0.out.ext hbO2)
              have HB1' := Lib.hid (bthen HB0.out hbO2 (Nat.le_refl _))
              have HT1 := Lib.hid (HT0.out.ext hbO2)
              obtain ⟨t0'', t1''⟩ := HT1.out.box.cells
              dsimp only at t0'' t1''
              clear hbO hbO2 hgO2 hgO
              go_wp2_with (refine wpList_store_row rfl rfl 24 (.tmp 20) (.tmp 124) rfl wr0.heap.size rfl 24 #[.int .i64 0, .slice none 0 0] #[.int .i64 cap, .slice a n c] rfl (heap_alloc_new wr0 _) rfl (by kernel_rfl) (by simp [Value.oneCell']) ?_)
              clear t0 t1 o0 fo t0' t0'' t1''
              generalize ((wr0.alloc (.cells #[.int .i64 0, .slice none 0 0] 24)).setRow wr0.heap.size #[.int .i64 cap, .slice a n c]).setCell ⟨wr0.heap.size, 0, none⟩ (.int .i64 (cap % 400 + 1)) = wo at *
              generalize wr0.heap.size = GO at *
              refine (rob_put_bad (nv : Int) cap a c n cs wo HR1.out HT1.out.mat Hn.out (by omega) Hx.out (.inr (.inl (by rw [HPQ.out.vols]; exact Int.le_refl _)))).mono ?_
              rintro e wo1 ⟨rfl, hbq⟩
              have HR2 := Lib.hid (HR1.out.ext hbq)
              have HB2' := Lib.hid (bthen HB1'.out hbq (Nat.le_refl _))
              have HT2' := Lib.hid (HT1.out.ext hbq)
              have HO2 := Lib.hid ((hbq.block _ (heap_lt HO.out)).trans HO.out)
              clear hbq
              obtain ⟨t0, t1⟩ := HT2'.out.box.cells
              dsimp only at t0 t1
              go_wp2_with fail
              clear t0 t1
              refine (rob_put_bad (-1) cap a c n cs wo1 HR2.out HT2'.out.mat Hn.out (by omega) Hx.out (.inl (by decide))).mono ?_
              rintro e wo2 ⟨rfl, hbq⟩
              have HR3 := Lib.hid (HR2.out.ext hbq)
              have HB3 := Lib.hid (bthen HB2'.out hbq (Nat.le_refl _))
              have HT3 := Lib.hid (HT2'.out.ext hbq)
              have HO3 := Lib.hid ((hbq.block _ (heap_lt HO2.out)).trans HO2.out)
              clear hbq
              obtain ⟨t0, t1⟩ := HT3.out.box.cells
              dsimp only at t0 t1
              have o0 := cell_of_row _ GO 0 _ _ _ HO3.out
              have o1 := cell_of_row _ GO 1 _ _ _ HO3.out
              by_cases h400 : cap < 400
              · have e4 : decide (cap < 400) = true := by simpa using h400
                have hoc : cap % 400 + 1 ≠ cap := by omega
                have Hoc := Lib.hid hoc
                clear h400 hoc
                go_wp2_with fail
                clear t0 t1 o0 o1 e4
                refine (rob_put_bad (v : Int) (cap % 400 + 1) a c n cs wo2 HR3.out HT3.out.mat Hn.out (by omega) Hx.out (.inr (.inr (.inr (by rw [HPQ.out.size]; exact Hoc.out))))).mono ?_
                rintro e wo3 ⟨rfl, hbq⟩
                have HR4 := Lib.hid (HR3.out.ext hbq)
                have HB4 := Lib.hid (bthen HB3.out hbq (Nat.le_refl _))
                have HT4 := Lib.hid (HT3.out.ext hbq)
                clear hbq
                go_wp2_with fail
                go_loopw [21, 22, 23] (fun i _ _ wr => ∃ (k : Nat) (wb : World), wb = wr ∧ k ≤ nv ∧ i = .int .i64 (k : Int) ∧ Below wo3.heap.size wo3 wb) (fun i _ _ _ => nv - (intOf i).toNat)
                case atStart => exact ⟨0, wo3, rfl, by omega, rfl, Below.refl _ _⟩
                case round =>
                  obtain ⟨k, wb, hwb, hk0, rfl, hbb⟩ := hrel
                  subst hwb
                  have HRb := Lib.hid (HR4.out.ext hbb)
                  have HBb := Lib.hid (bthen HB4.out hbb (Nat.le_refl _))
                  have HTb := Lib.hid (HT4.out.ext hbb)
                  have Hbb := Lib.hid hbb
                  clear hbb
                  by_cases hkk : k < nv
                  · obtain ⟨MK, hMK⟩ : ∃ M, M = TQ k := ⟨_, rfl⟩
                    have HTP : Hid (SQ.tape k = MK) := Lib.hid (by rw [hMK]; exact HPQ.out.tape k hkk)
                    have HMK := Lib.hid hMK
                    clear hMK
                    go_wp2_with fail
                    refine (rob_medium k MK wb HRb.out (by rw [HPQ.out.vols]; exact hkk) HTP.out).mono ?_
                    rintro e wz ⟨aX, kX, cX, csX, rfl, hMX, hcX, hbX⟩
                    obtain ⟨hTX, hSX⟩ := TapeO.new MK.cap rfl hMX hcX
                    have hzX := heap_alloc_new wz (.cells #[.int .i64 0, .slice none 0 0] 24)
                    have hbyX := bthen hbX hSX (Nat.le_refl _)
                    by_cases hkv : k = v
                    · have ekv : ((k : Int) == (v : Int)) = true := by rw [hkv]; exact beq_self_eq_true _
                      have HEQ : Hid (MK = ⟨cap, pls cs⟩) := Lib.hid (by rw [HMK.out, HTQ.out, hkv]; exact if_pos rfl)
                      clear hkv
                      go_wp2_with (refine wpList_store_row rfl rfl 24 (.tmp 22) (.tmp 176) rfl wz.heap.size rfl 24 #[.int .i64 0, .slice none 0 0] #[.int .i64 MK.cap, .slice aX kX cX] rfl hzX rfl (by kernel_rfl) (by simp [Value.oneCell']) ?_
                                   clear hzX hMX hbX hSX
                                   generalize (wz.alloc (.cells #[.int .i64 0, .slice none 0 0] 24)).setRow wz.heap.size #[.int .i64 MK.cap, .slice aX kX cX] = wx2 at *
                                   generalize wz.heap.size = GX at *
                                   have HTX := Lib.hid hTX
                                   have Hb2 := Lib.hid (bthen Hbb.out hbyX (Nat.le_refl _))
                                   have HT5 := Lib.hid (HTb.out.ext hbyX)
                                   clear hTX hbyX
                                   obtain ⟨x0, x1⟩ := HTX.out.box.cells
                                   obtain ⟨t0, t1⟩ := HT5.out.box.cells
                                   dsimp only at t0 t1)
                      clear x0 x1 t0 t1 ekv
                      refine (keepmed_any MK.cap cap aX a cX kX c n csX cs true wx2 HTX.out.r.mat HT5.out.mat HTX.out.r.len.symm Hn.out HTX.out.r.len63 hn2 (by rw [HTX.out.r.pls, HEQ.out]; simp)).mono ?_
                      rintro e wc ⟨rfl, hbc⟩
                      have Hb4 := Lib.hid (bthen Hb2.out hbc (Nat.le_refl _))
                      clear hbc
                      go_wp2_with fail
                      go_roundw
                      case rel => exact ⟨k + 1, _, rfl, by omega, by go_num, Hb4.out⟩
                      case measure => simp [intOf]; omega
                    · have ekv : ((k : Int) == (v : Int)) = false := by simp; omega
                      have HONE : Hid (MK = one1 cap k) := Lib.hid (by rw [HMK.out, HTQ.out]; exact if_neg hkv)
                      clear hkv
                      go_wp2_with (refine wpList_store_row rfl rfl 24 (.tmp 22) (.tmp 176) rfl wz.heap.size rfl 24 #[.int .i64 0, .slice none 0 0] #[.int .i64 MK.cap, .slice aX kX cX] rfl hzX rfl (by kernel_rfl) (by simp [Value.oneCell']) ?_
                                   clear hzX hMX hbX hSX
                                   generalize (wz.alloc (.cells #[.int .i64 0, .slice none 0 0] 24)).setRow wz.heap.size #[.int .i64 MK.cap, .slice aX kX cX] = wx2 at *
                                   generalize wz.heap.size = GX at *
                                   have HTX := Lib.hid hTX
                                   have Hb2 := Lib.hid (bthen Hbb.out hbyX (Nat.le_refl _))
                                   have HT5 := Lib.hid (HTb.out.ext hbyX)
                                   clear hTX hbyX
                                   obtain ⟨x0, x1⟩ := HTX.out.box.cells
                                   obtain ⟨t0, t1⟩ := HT5.out.box.cells
                                   dsimp only at t0 t1
                                   have hkX : kX = 1 := by
                                     have h1 := HTX.out.r.len
                                     have h2 : csX.length = 1 := by rw [← pls_length, HTX.out.r.pls, HONE.out]; rfl
                                     omega
                                   subst hkX
                                   have hc0 : 0 < csX.length := by rw [HTX.out.r.len]; decide
                                   obtain ⟨xb, xo, rfl, hlb, hat⟩ := HTX.out.r.mat.src.elem CellV.len (by decide) hc0
                                   have hpl : csX[0].pl = ⟨1, [BitVec.ofNat 8 k], false⟩ := by
                                     have h1 : (pls csX)[0]? = some csX[0].pl := pls_get0 hc0
                                     rw [HTX.out.r.pls, HONE.out] at h1
                                     exact (Option.some.inj h1).symm
                                   have hbd := HTX.out.r.mat.row csX[0] (List.getElem_mem hc0)
                                   have q1 := hat 0 hc0 1 _ rfl
                                   generalize csX[0] = xx at *
                                   obtain ⟨kd, ⟨xa, xc, xl⟩, bd⟩ := xx
                                   have hxl : xl = [BitVec.ofNat 8 k] := congrArg CellP.data hpl
                                   subst hxl
                                   have q1o := q1
                                   have q1 : wx2.cell? ⟨xb, xo + 1, none⟩ = some (.slice xa 1 xc) := by
                                     have := q1
                                     rw [Nat.zero_mul, Nat.add_zero] at this
                                     exact this
                                   have HSX := Lib.hid hbd.1
                                   clear hat hpl hbd
                                   have hbv1 : bvs [BitVec.ofNat 8 k] = [.int .u8 (k : Int)] := by simp [bvs, u8v, BitVec.toNat_ofNat, Nat.mod_eq_of_lt (show k < 256 by omega)]
                                   have hbT := ext_alloc wx2 (.cells #[.int .u8 (k : Int)] 5)
                                   have hsT : Src (wx2.alloc (.cells #[.int .u8 (k : Int)] 5)) (some ⟨wx2.heap.size, 0, none⟩) [.int .u8 (k : Int)] := src_new wx2 _ _
                                   have HST := Lib.hid hsT
                                   have Hbv1 := Lib.hid hbv1
                                   have Hb3 := Lib.hid (bthen Hb2.out hbT (Nat.le_refl _))
                                   have HSX2 := Lib.hid (HSX.out.ext hbT)
                                   clear hsT hbT hbv1)
                      refine (bytes_at xa xc [BitVec.ofNat 8 k] (some ⟨wx2.heap.size, 0, none⟩) 1 [BitVec.ofNat 8 k] _ 1 1 true HSX2.out (by rw [Hbv1.out]; exact HST.out) rfl rfl (by decide) (by decide) (by simp)).mono ?_
                      rintro e wc ⟨rfl, nd2, rfl⟩
                      have Hb4 := Lib.hid (bthen Hb3.out (ext_drewN _ nd2 _) (Nat.le_refl _))
                      clear q1 q1o x0 x1 t0 t1
                      go_wp2_with fail
                      go_roundw
                      case rel => exact ⟨k + 1, _, rfl, by omega, by go_num, Hb4.out⟩
                      case measure => simp [intOf]; omega
                  · obtain rfl : nv = k := by omega
                    have HBF0 := Lib.hid (HB1.out.trans (HBb.out.mono (Nat.le_of_lt hlow)))
                    obtain ⟨⟨S9, i9⟩, hr9⟩ : ∃ y, y = SQ.mount v := ⟨_, rfl⟩
                    have HR9 := Lib.hid hr9.symm
                    clear hr9
                    go_wp2_with fail
                    refine (rob_mountP HR9.out wb HRb.out (Up.all HBb.out.size) rfl (by rw [HPQ.out.vols]; exact hvn) (by rw [HPQ.out.asked]; omega)).mono ?_
                    rintro e w9 ⟨d9, D9, rfl, hdi9, hR9, hm9⟩
                    have HDI9 := Lib.hid hdi9
                    have HRR9 := Lib.hid hR9
                    have HB9 := Lib.hid (HBF0.out.trans ((hm9.below (fun b T h => h.1) HBb.out.size).mono (Nat.le_of_lt hlow)))
                    clear hdi9 hR9 hm9
                    go_wp2_with fail
                    obtain ⟨b9, hb9, hbv9, hat9⟩ := HAT.out S9 i9 HR9.out
                    refine (rob_place HRR9.out hb9 (by rw [hbv9]; omega) HDI9.out hat9).mono ?_
                    rintro e wA ⟨rfl, rfl⟩
                    clear hb9 hbv9 hat9
                    go_wp2_with fail
                    refine (wakes13_any w9).mono ?_
                    rintro e wA ⟨rfl, hbA⟩
                    have HBA := Lib.hid (bthen HB9.out hbA (Nat.le_refl _))
                    clear hbA
                    go_wp2
                    go_ret
                    exact ⟨rfl, HBA.out⟩
              · have e4 : decide (cap < 400) = false := by simpa using h400
                have HR4 := HR3
                have HB4 := HB3
                have HT4 := HT3
                obtain ⟨wo3, hwo3⟩ : ∃ w, w = wo2 := ⟨_, rfl⟩
                clear h400
                go_wp2_with fail
                clear t0 t1 o0 o1 e4
                rw [← hwo3] at HR4 HB4 HT4 ⊢
                clear hwo3
                go_loopw [21, 22, 23] (fun i _ _ wr => ∃ (k : Nat) (wb : World), wb = wr ∧ k ≤ nv ∧ i = .int .i64 (k : Int) ∧ Below wo3.heap.size wo3 wb) (fun i _ _ _ => nv - (intOf i).toNat)
                case atStart => exact ⟨0, wo3, rfl, by omega, rfl, Below.refl _ _⟩
                case round =>
                  obtain ⟨k, wb, hwb, hk0, rfl, hbb⟩ := hrel
                  subst hwb
                  have HRb := Lib.hid (HR4.out.ext hbb)
                  have HBb := Lib.hid (bthen HB4.out hbb (Nat.le_refl _))
                  have HTb := Lib.hid (HT4.out.ext hbb)
                  have Hbb := Lib.hid hbb
                  clear hbb
                  by_cases hkk : k < nv
                  · obtain ⟨MK, hMK⟩ : ∃ M, M = TQ k := ⟨_, rfl⟩
                    have HTP : Hid (SQ.tape k = MK) := Lib.hid (by rw [hMK]; exact HPQ.out.tape k hkk)
                    have HMK := Lib.hid hMK
                    clear hMK
                    go_wp2_with fail
                    refine (rob_medium k MK wb HRb.out (by rw [HPQ.out.vols]; exact hkk) HTP.out).mono ?_
                    rintro e wz ⟨aX, kX, cX, csX, rfl, hMX, hcX, hbX⟩
                    obtain ⟨hTX, hSX⟩ := TapeO.new MK.cap rfl hMX hcX
                    have hzX := heap_alloc_new wz (.cells #[.int .i64 0, .slice none 0 0] 24)
                    have hbyX := bthen hbX hSX (Nat.le_refl _)
                    by_cases hkv : k = v
                    · have ekv : ((k : Int) == (v : Int)) = true := by rw [hkv]; exact beq_self_eq_true _
                      have HEQ : Hid (MK = ⟨cap, pls cs⟩) := Lib.hid (by rw [HMK.out, HTQ.out, hkv]; exact if_pos rfl)
                      clear hkv
                      go_wp2_with (refine wpList_store_row rfl rfl 24 (.tmp 22) (.tmp 176) rfl wz.heap.size rfl 24 #[.int .i64 0, .slice none 0 0] #[.int .i64 MK.cap, .slice aX kX cX] rfl hzX rfl (by kernel_rfl) (by simp [Value.oneCell']) ?_
                                   clear hzX hMX hbX hSX
                                   generalize (wz.alloc (.cells #[.int .i64 0, .slice none 0 0] 24)).setRow wz.heap.size #[.int .i64 MK.cap, .slice aX kX cX] = wx2 at *
                                   generalize wz.heap.size = GX at *
                                   have HTX := Lib.hid hTX
                                   have Hb2 := Lib.hid (bthen Hbb.out hbyX (Nat.le_refl _))
                                   have HT5 := Lib.hid (HTb.out.ext hbyX)
                                   clear hTX hbyX
                                   obtain ⟨x0, x1⟩ := HTX.out.box.cells
                                   obtain ⟨t0, t1⟩ := HT5.out.box.cells
                                   dsimp only at t0 t1)
                      clear x0 x1 t0 t1 ekv
                      refine (keepmed_any MK.cap cap aX a cX kX c n csX cs true wx2 HTX.out.r.mat HT5.out.mat HTX.out.r.len.symm Hn.out HTX.out.r.len63 hn2 (by rw [HTX.out.r.pls, HEQ.out]; simp)).mono ?_
                      rintro e wc ⟨rfl, hbc⟩
                      have Hb4 := Lib.hid (bthen Hb2.out hbc (Nat.le_refl _))
                      clear hbc
                      go_wp2_with fail
                      go_roundw
                      case rel => exact ⟨k + 1, _, rfl, by omega, by go_num, Hb4.out⟩
                      case measure => simp [intOf]; omega
                    · have ekv : ((k : Int) == (v : Int)) = false := by simp; omega
                      have HONE : Hid (MK = one1 cap k) := Lib.hid (by rw [HMK.out, HTQ.out]; exact if_neg hkv)
                      clear hkv
                      go_wp2_with (refine wpList_store_row rfl rfl 24 (.tmp 22) (.tmp 176) rfl wz.heap.size rfl 24 #[.int .i64 0, .slice none 0 0] #[.int .i64 MK.cap, .slice aX kX cX] rfl hzX rfl (by kernel_rfl) (by simp [Value.oneCell']) ?_
                                   clear hzX hMX hbX hSX
                                   generalize (wz.alloc (.cells #[.int .i64 0, .slice none 0 0] 24)).setRow wz.heap.size #[.int .i64 MK.cap, .slice aX kX cX] = wx2 at *
                                   generalize wz.heap.size = GX at *
                                   have HTX := Lib.hid hTX
                                   have Hb2 := Lib.hid (bthen Hbb.out hbyX (Nat.le_refl _))
                                   have HT5 := Lib.hid (HTb.out.ext hbyX)
                                   clear hTX hbyX
                                   obtain ⟨x0, x1⟩ := HTX.out.box.cells
                                   obtain ⟨t0, t1⟩ := HT5.out.box.cells
                                   dsimp only at t0 t1
                                   have hkX : kX = 1 := by
                                     have h1 := HTX.out.r.len
                                     have h2 : csX.length = 1 := by rw [← pls_length, HTX.out.r.pls, HONE.out]; rfl
                                     omega
                                   subst hkX
                                   have hc0 : 0 < csX.length := by rw [HTX.out.r.len]; decide
                                   obtain ⟨xb, xo, rfl, hlb, hat⟩ := HTX.out.r.mat.src.elem CellV.len (by decide) hc0
                                   have hpl : csX[0].pl = ⟨1, [BitVec.ofNat 8 k], false⟩ := by
                                     have h1 : (pls csX)[0]? = some csX[0].pl := pls_get0 hc0
                                     rw [HTX.out.r.pls, HONE.out] at h1
                                     exact (Option.some.inj h1).symm
                                   have hbd := HTX.out.r.mat.row csX[0] (List.getElem_mem hc0)
                                   have q1 := hat 0 hc0 1 _ rfl
                                   generalize csX[0] = xx at *
                                   obtain ⟨kd, ⟨xa, xc, xl⟩, bd⟩ := xx
                                   have hxl : xl = [BitVec.ofNat 8 k] := congrArg CellP.data hpl
                                   subst hxl
                                   have q1o := q1
                                   have q1 : wx2.cell? ⟨xb, xo + 1, none⟩ = some (.slice xa 1 xc) := by
                                     have := q1
                                     rw [Nat.zero_mul, Nat.add_zero] at this
                                     exact this
                                   have HSX := Lib.hid hbd.1
                                   clear hat hpl hbd
                                   have hbv1 : bvs [BitVec.ofNat 8 k] = [.int .u8 (k : Int)] := by simp [bvs, u8v, BitVec.toNat_ofNat, Nat.mod_eq_of_lt (show k < 256 by omega)]
                                   have hbT := ext_alloc wx2 (.cells #[.int .u8 (k : Int)] 5)
                                   have hsT : Src (wx2.alloc (.cells #[.int .u8 (k : Int)] 5)) (some ⟨wx2.heap.size, 0, none⟩) [.int .u8 (k : Int)] := src_new wx2 _ _
                                   have HST := Lib.hid hsT
                                   have Hbv1 := Lib.hid hbv1
                                   have Hb3 := Lib.hid (bthen Hb2.out hbT (Nat.le_refl _))
                                   have HSX2 := Lib.hid (HSX.out.ext hbT)
                                   clear hsT hbT hbv1)
                      refine (bytes_at xa xc [BitVec.ofNat 8 k] (some ⟨wx2.heap.size, 0, none⟩) 1 [BitVec.ofNat 8 k] _ 1 1 true HSX2.out (by rw [Hbv1.out]; exact HST.out) rfl rfl (by decide) (by decide) (by simp)).mono ?_
                      rintro e wc ⟨rfl, nd2, rfl⟩
                      have Hb4 := Lib.hid (bthen Hb3.out (ext_drewN _ nd2 _) (Nat.le_refl _))
                      clear q1 q1o x0 x1 t0 t1
                      go_wp2_with fail
                      go_roundw
                      case rel => exact ⟨k + 1, _, rfl, by omega, by go_num, Hb4.out⟩
                      case measure => simp [intOf]; omega
                  · obtain rfl : nv = k := by omega
                    have HBF0 := Lib.hid (HB1.out.trans (HBb.out.mono (Nat.le_of_lt hlow)))
                    obtain ⟨⟨S9, i9⟩, hr9⟩ : ∃ y, y = SQ.mount v := ⟨_, rfl⟩
                    have HR9 := Lib.hid hr9.symm
                    clear hr9
                    go_wp2_with fail
                    refine (rob_mountP HR9.out wb HRb.out (Up.all HBb.out.size) rfl (by rw [HPQ.out.vols]; exact hvn) (by rw [HPQ.out.asked]; omega)).mono ?_
                    rintro e w9 ⟨d9, D9, rfl, hdi9, hR9, hm9⟩
                    have HDI9 := Lib.hid hdi9
                    have HRR9 := Lib.hid hR9
                    have HB9 := Lib.hid (HBF0.out.trans ((hm9.below (fun b T h => h.1) HBb.out.size).mono (Nat.le_of_lt hlow)))
                    clear hdi9 hR9 hm9
                    go_wp2_with fail
                    obtain ⟨b9, hb9, hbv9, hat9⟩ := HAT.out S9 i9 HR9.out
                    refine (rob_place HRR9.out hb9 (by rw [hbv9]; omega) HDI9.out hat9).mono ?_
                    rintro e wA ⟨rfl, rfl⟩
                    clear hb9 hbv9 hat9
                    go_wp2_with fail
                    refine (wakes13_any w9).mono ?_
                    rintro e wA ⟨rfl, hbA⟩
                    have HBA := Lib.hid (bthen HB9.out hbA (Nat.le_refl _))
                    clear hbA
                    go_wp2
                    go_ret
                    exact ⟨rfl, HBA.out⟩
            | false =>
              have HOKB := Lib.hid hok
              refine (rob_put_bad (v : Int) cap a c n cs w5 HR5.out HT5.out.mat Hn.out (by omega) Hx.out (.inr (.inr (.inl hok)))).mono ?_
              rintro e wp ⟨rfl, hbq⟩
              obtain ⟨SQ, hSQ⟩ : ∃ S9, S9 = S1 := ⟨_, rfl⟩
              obtain ⟨TQ, hTQ⟩ : ∃ T : Nat → Med, T = one1 cap := ⟨_, rfl⟩
              have HTQ := Lib.hid hTQ
              have HPQ : Hid (PutsP SQ cap nv _ TQ) := Lib.hid (by rw [hSQ, hTQ]; exact HPM.out)
              have HRQ : Hid (RobP wx.heap.size AllK wp r g SQ _ PS.new) := Lib.hid (by rw [hSQ]; exact HR5.out.ext hbq)
              have HBp := Lib.hid (bthen HB5.out hbq (Nat.le_refl _))
              have HTp := Lib.hid (HT.out.ext HBp.out)
              clear hbq hok hSQ hTQ
              -- behind Put: world wp; HPQ : PutsP SQ cap nv tq T2; HRQ : RobP SQ D; HBp: Below wx wp; HTp: box of m
              obtain ⟨t0, t1⟩ := HTp.out.box.cells
              dsimp only at t0 t1
              go_wp2_with fail
              clear t0 t1
              refine (refmed_any cap a c n cs false wp HTp.out.mat Hn.out hn2 HOKB.out).mono ?_
              rintro e wr0 ⟨rfl, hbr⟩
              have HR0 := Lib.hid (HRQ.out.ext hbr)
              have HB0 := Lib.hid (bthen HBp.out hbr (Nat.le_refl _))
              have HT0 := Lib.hid (HTp.out.ext hbr)
              clear hbr
              obtain ⟨t0, t1⟩ := HT0.out.box.cells
              dsimp only at t0 t1
              have hbO := bsetRow (ext_alloc wr0 (.cells #[.int .i64 0, .slice none 0 0] 24)) (Nat.le_refl _) #[.int .i64 cap, .slice a n c]
              have hgO := setRow_heap (wr0.alloc (.cells #[.int .i64 0, .slice none 0 0] 24)) wr0.heap.size _ #[.int .i64 cap, .slice a n c] _ _ (heap_alloc_new wr0 _)
              have hbO2 := hbO.setCell (p := ⟨wr0.heap.size, 0, none⟩) (Nat.le_refl _) (.int .i64 (cap % 400 + 1))
              have hgO2 := heap_setCell_same _ wr0.heap.size 0 _ _ (.int .i64 (cap % 400 + 1)) hgO
              have o0 := cell_of_row _ wr0.heap.size 0 _ _ _ hgO
              have fo := frozen_of_row _ wr0.heap.size 0 _ _ hgO
              have t0' := (World.cell?_of_block (w := wr0) (hbO.block _ (heap_lt HT0.out.box))).trans t0
              have HO := Lib.hid (show _ = some (Obj.cells #[.int .i64 (cap % 400 + 1), .slice a n c] 24 (0, 0)) from hgO2)
              have HR1 := Lib.hid (HR0.out.ext hbO2)
              have HB1' := Lib.hid (bthen HB0.out hbO2 (Nat.le_refl _))
              have HT1 := Lib.hid (HT0.out.ext hbO2)
              obtain ⟨t0'', t1''⟩ := HT1.out.box.cells
              dsimp only at t0'' t1''
              clear hbO hbO2 hgO2 hgO
              go_wp2_with (refine wpList_store_row rfl rfl 24 (.tmp 20) (.tmp 124) rfl wr0.heap.size rfl 24 #[.int .i64 0, .slice none 0 0] #[.int .i64 cap, .slice a n c] rfl (heap_alloc_new wr0 _) rfl (by kernel_rfl) (by simp [Value.oneCell']) ?_)
              clear t0 t1 o0 fo t0' t0'' t1''
              generalize ((wr0.alloc (.cells #[.int .i64 0, .slice none 0 0] 24)).setRow wr0.heap.size #[.int .i64 cap, .slice a n c]).setCell ⟨wr0.heap.size, 0, none⟩ (.int .i64 (cap % 400 + 1)) = wo at *
              generalize wr0.heap.size = GO at *
              refine (rob_put_bad (nv : Int) cap a c n cs wo HR1.out HT1.out.mat Hn.out (by omega) Hx.out (.inr (.inl (by rw [HPQ.out.vols]; exact Int.le_refl _)))).mono ?_
              rintro e wo1 ⟨rfl, hbq⟩
              have HR2 := Lib.hid (HR1.out.ext hbq)
              have HB2' := Lib.hid (bthen HB1'.out hbq (Nat.le_refl _))
              have HT2' := Lib.hid (HT1.out.ext hbq)
              have HO2 := Lib.hid ((hbq.block _ (heap_lt HO.out)).trans HO.out)
              clear hbq
              obtain ⟨t0, t1⟩ := HT2'.out.box.cells
              dsimp only at t0 t1
              go_wp2_with fail
              clear t0 t1
              refine (rob_put_bad (-1) cap a c n cs wo1 HR2.out HT2'.out.mat Hn.out (by omega) Hx.out (.inl (by decide))).mono ?_
              rintro e wo2 ⟨rfl, hbq⟩
              have HR3 := Lib.hid (HR2.out.ext hbq)
              have HB3 := Lib.hid (bthen HB2'.out hbq (Nat.le_refl _))
              have HT3 := Lib.hid (HT2'.out.ext hbq)
              have HO3 := Lib.hid ((hbq.block _ (heap_lt HO2.out)).trans HO2.out)
              clear hbq
              obtain ⟨t0, t1⟩ := HT3.out.box.cells
              dsimp only at t0 t1
              have o0 := cell_of_row _ GO 0 _ _ _ HO3.out
              have o1 := cell_of_row _ GO 1 _ _ _ HO3.out
              by_cases h400 : cap < 400
              · have e4 : decide (cap < 400) = true := by simpa using h400
                have hoc : cap % 400 + 1 ≠ cap := by omega
                have Hoc := Lib.hid hoc
                clear h400 hoc
                go_wp2_with fail
                clear t0 t1 o0 o1 e4
                refine (rob_put_bad (v : Int) (cap % 400 + 1) a c n cs wo2 HR3.out HT3.out.mat Hn.out (by omega) Hx.out (.inr (.inr (.inr (by rw [HPQ.out.size]; exact Hoc.out))))).mono ?_
                rintro e wo3 ⟨rfl, hbq⟩
                have HR4 := Lib.hid (HR3.out.ext hbq)
                have HB4 := Lib.hid (bthen HB3.out hbq (Nat.le_refl _))
                have HT4 := Lib.hid (HT3.out.ext hbq)
                clear hbq
                go_wp2_with fail
                go_loopw [21, 22, 23] (fun i _ _ wr => ∃ (k : Nat) (wb : World), wb = wr ∧ k ≤ nv ∧ i = .int .i64 (k : Int) ∧ Below wo3.heap.size wo3 wb) (fun i _ _ _ => nv - (intOf i).toNat)
                case atStart => exact ⟨0, wo3, rfl, by omega, rfl, Below.refl _ _⟩
                case round =>
                  obtain ⟨k, wb, hwb, hk0, rfl, hbb⟩ := hrel
                  subst hwb
                  have HRb := Lib.hid (HR4.out.ext hbb)
                  have HBb := Lib.hid (bthen HB4.out hbb (Nat.le_refl _))
                  have HTb := Lib.hid (HT4.out.ext hbb)
                  have Hbb := Lib.hid hbb
                  clear hbb
                  by_cases hkk : k < nv
                  · obtain ⟨MK, hMK⟩ : ∃ M, M = TQ k := ⟨_, rfl⟩
                    have HTP : Hid (SQ.tape k = MK) := Lib.hid (by rw [hMK]; exact HPQ.out.tape k hkk)
                    have HMK := Lib.hid hMK
                    clear hMK
                    go_wp2_with fail
                    refine (rob_medium k MK wb HRb.out (by rw [HPQ.out.vols]; exact hkk) HTP.out).mono ?_
                    rintro e wz ⟨aX, kX, cX, csX, rfl, hMX, hcX, hbX⟩
                    obtain ⟨hTX, hSX⟩ := TapeO.new MK.cap rfl hMX hcX
                    have hzX := heap_alloc_new wz (.cells #[.int .i64 0, .slice none 0 0] 24)
                    have hbyX := bthen hbX hSX (Nat.le_refl _)
                    have HONE : Hid (MK = one1 cap k) := Lib.hid (by rw [HMK.out, HTQ.out])
                    by_cases hkv : k = v
                    · have ekv : ((k : Int) == (v : Int)) = true := by rw [hkv]; exact beq_self_eq_true _
                      clear hkv
                      go_wp2_with (refine wpList_store_row rfl rfl 24 (.tmp 22) (.tmp 176) rfl wz.heap.size rfl 24 #[.int .i64 0, .slice none 0 0] #[.int .i64 MK.cap, .slice aX kX cX] rfl hzX rfl (by kernel_rfl) (by simp [Value.oneCell']) ?_
                                   clear hzX hMX hbX hSX
                                   generalize (wz.alloc (.cells #[.int .i64 0, .slice none 0 0] 24)).setRow wz.heap.size #[.int .i64 MK.cap, .slice aX kX cX] = wx2 at *
                                   generalize wz.heap.size = GX at *
                                   have HTX := Lib.hid hTX
                                   have Hb2 := Lib.hid (bthen Hbb.out hbyX (Nat.le_refl _))
                                   have HT5 := Lib.hid (HTb.out.ext hbyX)
                                   clear hTX hbyX
                                   obtain ⟨x0, x1⟩ := HTX.out.box.cells
                                   obtain ⟨t0, t1⟩ := HT5.out.box.cells
                                   dsimp only at t0 t1
                                   have hkX : kX = 1 := by
                                     have h1 := HTX.out.r.len
                                     have h2 : csX.length = 1 := by rw [← pls_length, HTX.out.r.pls, HONE.out]; rfl
                                     omega
                                   subst hkX
                                   have hc0 : 0 < csX.length := by rw [HTX.out.r.len]; decide
                                   obtain ⟨xb, xo, rfl, hlb, hat⟩ := HTX.out.r.mat.src.elem CellV.len (by decide) hc0
                                   have hpl : csX[0].pl = ⟨1, [BitVec.ofNat 8 k], false⟩ := by
                                     have h1 : (pls csX)[0]? = some csX[0].pl := pls_get0 hc0
                                     rw [HTX.out.r.pls, HONE.out] at h1
                                     exact (Option.some.inj h1).symm
                                   have hbd := HTX.out.r.mat.row csX[0] (List.getElem_mem hc0)
                                   have q1 := hat 0 hc0 1 _ rfl
                                   generalize csX[0] = xx at *
                                   obtain ⟨kd, ⟨xa, xc, xl⟩, bd⟩ := xx
                                   have hxl : xl = [BitVec.ofNat 8 k] := congrArg CellP.data hpl
                                   subst hxl
                                   have q1o := q1
                                   have q1 : wx2.cell? ⟨xb, xo + 1, none⟩ = some (.slice xa 1 xc) := by
                                     have := q1
                                     rw [Nat.zero_mul, Nat.add_zero] at this
                                     exact this
                                   have HSX := Lib.hid hbd.1
                                   clear hat hpl hbd
                                   have hbv1 : bvs [BitVec.ofNat 8 k] = [.int .u8 (k : Int)] := by simp [bvs, u8v, BitVec.toNat_ofNat, Nat.mod_eq_of_lt (show k < 256 by omega)]
                                   have hbT := ext_alloc wx2 (.cells #[.int .u8 (k : Int)] 5)
                                   have hsT : Src (wx2.alloc (.cells #[.int .u8 (k : Int)] 5)) (some ⟨wx2.heap.size, 0, none⟩) [.int .u8 (k : Int)] := src_new wx2 _ _
                                   have HST := Lib.hid hsT
                                   have Hbv1 := Lib.hid hbv1
                                   have Hb3 := Lib.hid (bthen Hb2.out hbT (Nat.le_refl _))
                                   have HSX2 := Lib.hid (HSX.out.ext hbT)
                                   clear hsT hbT hbv1)
                      refine (bytes_at xa xc [BitVec.ofNat 8 k] (some ⟨wx2.heap.size, 0, none⟩) 1 [BitVec.ofNat 8 k] _ 1 1 true HSX2.out (by rw [Hbv1.out]; exact HST.out) rfl rfl (by decide) (by decide) (by simp)).mono ?_
                      rintro e wc ⟨rfl, nd2, rfl⟩
                      have Hb4 := Lib.hid (bthen Hb3.out (ext_drewN _ nd2 _) (Nat.le_refl _))
                      clear q1 q1o x0 x1 t0 t1
                      go_wp2_with fail
                      go_roundw
                      case rel => exact ⟨k + 1, _, rfl, by omega, by go_num, Hb4.out⟩
                      case measure => simp [intOf]; omega
                    · have ekv : ((k : Int) == (v : Int)) = false := by simp; omega
                      clear hkv
                      go_wp2_with (refine wpList_store_row rfl rfl 24 (.tmp 22) (.tmp 176) rfl wz.heap.size rfl 24 #[.int .i64 0, .slice none 0 0] #[.int .i64 MK.cap, .slice aX kX cX] rfl hzX rfl (by kernel_rfl) (by simp [Value.oneCell']) ?_
                                   clear hzX hMX hbX hSX
                                   generalize (wz.alloc (.cells #[.int .i64 0, .slice none 0 0] 24)).setRow wz.heap.size #[.int .i64 MK.cap, .slice aX kX cX] = wx2 at *
                                   generalize wz.heap.size = GX at *
                                   have HTX := Lib.hid hTX
                                   have Hb2 := Lib.hid (bthen Hbb.out hbyX (Nat.le_refl _))
                                   have HT5 := Lib.hid (HTb.out.ext hbyX)
                                   clear hTX hbyX
                                   obtain ⟨x0, x1⟩ := HTX.out.box.cells
                                   obtain ⟨t0, t1⟩ := HT5.out.box.cells
                                   dsimp only at t0 t1
                                   have hkX : kX = 1 := by
                                     have h1 := HTX.out.r.len
                                     have h2 : csX.length = 1 := by rw [← pls_length, HTX.out.r.pls, HONE.out]; rfl
                                     omega
                                   subst hkX
                                   have hc0 : 0 < csX.length := by rw [HTX.out.r.len]; decide
                                   obtain ⟨xb, xo, rfl, hlb, hat⟩ := HTX.out.r.mat.src.elem CellV.len (by decide) hc0
                                   have hpl : csX[0].pl = ⟨1, [BitVec.ofNat 8 k], false⟩ := by
                                     have h1 : (pls csX)[0]? = some csX[0].pl := pls_get0 hc0
                                     rw [HTX.out.r.pls, HONE.out] at h1
                                     exact (Option.some.inj h1).symm
                                   have hbd := HTX.out.r.mat.row csX[0] (List.getElem_mem hc0)
                                   have q1 := hat 0 hc0 1 _ rfl
                                   generalize csX[0] = xx at *
                                   obtain ⟨kd, ⟨xa, xc, xl⟩, bd⟩ := xx
                                   have hxl : xl = [BitVec.ofNat 8 k] := congrArg CellP.data hpl
                                   subst hxl
                                   have q1o := q1
                                   have q1 : wx2.cell? ⟨xb, xo + 1, none⟩ = some (.slice xa 1 xc) := by
                                     have := q1
                                     rw [Nat.zero_mul, Nat.add_zero] at this
                                     exact this
                                   have HSX := Lib.hid hbd.1
                                   clear hat hpl hbd
                                   have hbv1 : bvs [BitVec.ofNat 8 k] = [.int .u8 (k : Int)] := by simp [bvs, u8v, BitVec.toNat_ofNat, Nat.mod_eq_of_lt (show k < 256 by omega)]
                                   have hbT := ext_alloc wx2 (.cells #[.int .u8 (k : Int)] 5)
                                   have hsT : Src (wx2.alloc (.cells #[.int .u8 (k : Int)] 5)) (some ⟨wx2.heap.size, 0, none⟩) [.int .u8 (k : Int)] := src_new wx2 _ _
                                   have HST := Lib.hid hsT
                                   have Hbv1 := Lib.hid hbv1
                                   have Hb3 := Lib.hid (bthen Hb2.out hbT (Nat.le_refl _))
                                   have HSX2 := Lib.hid (HSX.out.ext hbT)
                                   clear hsT hbT hbv1)
                      refine (bytes_at xa xc [BitVec.ofNat 8 k] (some ⟨wx2.heap.size, 0, none⟩) 1 [BitVec.ofNat 8 k] _ 1 1 true HSX2.out (by rw [Hbv1.out]; exact HST.out) rfl rfl (by decide) (by decide) (by simp)).mono ?_
                      rintro e wc ⟨rfl, nd2, rfl⟩
                      have Hb4 := Lib.hid (bthen Hb3.out (ext_drewN _ nd2 _) (Nat.le_refl _))
                      clear q1 q1o x0 x1 t0 t1
                      go_wp2_with fail
                      go_roundw
                      case rel => exact ⟨k + 1, _, rfl, by omega, by go_num, Hb4.out⟩
                      case measure => simp [intOf]; omega
                  · obtain rfl : nv = k := by omega
                    have HBF0 := Lib.hid (HB1.out.trans (HBb.out.mono (Nat.le_of_lt hlow)))
                    obtain ⟨⟨S9, i9⟩, hr9⟩ : ∃ y, y = SQ.mount v := ⟨_, rfl⟩
                    have HR9 := Lib.hid hr9.symm
                    clear hr9
                    go_wp2_with fail
                    refine (rob_mountP HR9.out wb HRb.out (Up.all HBb.out.size) rfl (by rw [HPQ.out.vols]; exact hvn) (by rw [HPQ.out.asked]; omega)).mono ?_
                    rintro e w9 ⟨d9, D9, rfl, hdi9, hR9, hm9⟩
                    have HDI9 := Lib.hid hdi9
                    have HRR9 := Lib.hid hR9
                    have HB9 := Lib.hid (HBF0.out.trans ((hm9.below (fun b T h => h.1) HBb.out.size).mono (Nat.le_of_lt hlow)))
                    clear hdi9 hR9 hm9
                    go_wp2_with fail
                    refine (wakes13_any w9).mono ?_
                    rintro e wA ⟨rfl, hbA⟩
                    have HBA := Lib.hid (bthen HB9.out hbA (Nat.le_refl _))
                    clear hbA
                    go_wp2
                    go_ret
                    exact ⟨rfl, HBA.out⟩
              · have e4 : decide (cap < 400) = false := by simpa using h400
                have HR4 := HR3
                have HB4 := HB3
                have HT4 := HT3
                obtain ⟨wo3, hwo3⟩ : ∃ w, w = wo2 := ⟨_, rfl⟩
                clear h400
                go_wp2_with fail
                clear t0 t1 o0 o1 e4
                rw [← hwo3] at HR4 HB4 HT4 ⊢
                clear hwo3
                go_loopw [21, 22, 23] (fun i _ _ wr => ∃ (k : Nat) (wb : World), wb = wr ∧ k ≤ nv ∧ i = .int .i64 (k : Int) ∧ Below wo3.heap.size wo3 wb) (fun i _ _ _ => nv - (intOf i).toNat)
                case atStart => exact ⟨0, wo3, rfl, by omega, rfl, Below.refl _ _⟩
                case round =>
                  obtain ⟨k, wb, hwb, hk0, rfl, hbb⟩ := hrel
                  subst hwb
                  have HRb := Lib.hid (HR4.out.ext hbb)
                  have HBb := Lib.hid (bthen HB4.out hbb (Nat.le_refl _))
                  have HTb := Lib.hid (HT4.out.ext hbb)
                  have Hbb := Lib.hid hbb
                  clear hbb
                  by_cases hkk : k < nv
                  · obtain ⟨MK, hMK⟩ : ∃ M, M = TQ k := ⟨_, rfl⟩
                    have HTP : Hid (SQ.tape k = MK) := Lib.hid (by rw [hMK]; exact HPQ.out.tape k hkk)
                    have HMK := Lib.hid hMK
                    clear hMK
                    go_wp2_with fail
                    refine (rob_medium k MK wb HRb.out (by rw [HPQ.out.vols]; exact hkk) HTP.out).mono ?_
                    rintro e wz ⟨aX, kX, cX, csX, rfl, hMX, hcX, hbX⟩
                    obtain ⟨hTX, hSX⟩ := TapeO.new MK.cap rfl hMX hcX
                    have hzX := heap_alloc_new wz (.cells #[.int .i64 0, .slice none 0 0] 24)
                    have hbyX := bthen hbX hSX (Nat.le_refl _)
                    have HONE : Hid (MK = one1 cap k) := Lib.hid (by rw [HMK.out, HTQ.out])
                    by_cases hkv : k = v
                    · have ekv : ((k : Int) == (v : Int)) = true := by rw [hkv]; exact beq_self_eq_true _
                      clear hkv
                      go_wp2_with (refine wpList_store_row rfl rfl 24 (.tmp 22) (.tmp 176) rfl wz.heap.size rfl 24 #[.int .i64 0, .slice none 0 0] #[.int .i64 MK.cap, .slice aX kX cX] rfl hzX rfl (by kernel_rfl) (by simp [Value.oneCell']) ?_
                                   clear hzX hMX hbX hSX
                                   generalize (wz.alloc (.cells #[.int .i64 0, .slice none 0 0] 24)).setRow wz.heap.size #[.int .i64 MK.cap, .slice aX kX cX] = wx2 at *
                                   generalize wz.heap.size = GX at *
                                   have HTX := Lib.hid hTX
                                   have Hb2 := Lib.hid (bthen Hbb.out hbyX (Nat.le_refl _))
                                   have HT5 := Lib.hid (HTb.out.ext hbyX)
                                   clear hTX hbyX
                                   obtain ⟨x0, x1⟩ := HTX.out.box.cells
                                   obtain ⟨t0, t1⟩ := HT5.out.box.cells
                                   dsimp only at t0 t1
                                   have hkX : kX = 1 := by
                                     have h1 := HTX.out.r.len
                                     have h2 : csX.length = 1 := by rw [← pls_length, HTX.out.r.pls, HONE.out]; rfl
                                     omega
                                   subst hkX
                                   have hc0 : 0 < csX.length := by rw [HTX.out.r.len]; decide
                                   obtain ⟨xb, xo, rfl, hlb, hat⟩ := HTX.out.r.mat.src.elem CellV.len (by decide) hc0
                                   have hpl : csX[0].pl = ⟨1, [BitVec.ofNat 8 k], false⟩ := by
                                     have h1 : (pls csX)[0]? = some csX[0].pl := pls_get0 hc0
                                     rw [HTX.out.r.pls, HONE.out] at h1
                                     exact (Option.some.inj h1).symm
                                   have hbd := HTX.out.r.mat.row csX[0] (List.getElem_mem hc0)
                                   have q1 := hat 0 hc0 1 _ rfl
                                   generalize csX[0] = xx at *
                                   obtain ⟨kd, ⟨xa, xc, xl⟩, bd⟩ := xx
                                   have hxl : xl = [BitVec.ofNat 8 k] := congrArg CellP.data hpl
                                   subst hxl
                                   have q1o := q1
                                   have q1 : wx2.cell? ⟨xb, xo + 1, none⟩ = some (.slice xa 1 xc) := by
                                     have := q1
                                     rw [Nat.zero_mul, Nat.add_zero] at this
                                     exact this
                                   have HSX := Lib.hid hbd.1
                                   clear hat hpl hbd
                                   have hbv1 : bvs [BitVec.ofNat 8 k] = [.int .u8 (k : Int)] := by simp [bvs, u8v, BitVec.toNat_ofNat, Nat.mod_eq_of_lt (show k < 256 by omega)]
                                   have hbT := ext_alloc wx2 (.cells #[.int .u8 (k : Int)] 5)
                                   have hsT : Src (wx2.alloc (.cells #[.int .u8 (k : Int)] 5)) (some ⟨wx2.heap.size, 0, none⟩) [.int .u8 (k : Int)] := src_new wx2 _ _
                                   have HST := Lib.hid hsT
                                   have Hbv1 := Lib.hid hbv1
                                   have Hb3 := Lib.hid (bthen Hb2.out hbT (Nat.le_refl _))
                                   have HSX2 := Lib.hid (HSX.out.ext hbT)
                                   clear hsT hbT hbv1)
                      refine (bytes_at xa xc [BitVec.ofNat 8 k] (some ⟨wx2.heap.size, 0, none⟩) 1 [BitVec.ofNat 8 k] _ 1 1 true HSX2.out (by rw [Hbv1.out]; exact HST.out) rfl rfl (by decide) (by decide) (by simp)).mono ?_
                      rintro e wc ⟨rfl, nd2, rfl⟩
                      have Hb4 := Lib.hid (bthen Hb3.out (ext_drewN _ nd2 _) (Nat.le_refl _))
                      clear q1 q1o x0 x1 t0 t1
                      go_wp2_with fail
                      go_roundw
                      case rel => exact ⟨k + 1, _, rfl, by omega, by go_num, Hb4.out⟩
                      case measure => simp [intOf]; omega
                    · have ekv : ((k : Int) == (v : Int)) = false := by simp; omega
                      clear hkv
                      go_wp2_with (refine wpList_store_row rfl rfl 24 (.tmp 22) (.tmp 176) rfl wz.heap.size rfl 24 #[.int .i64 0, .slice none 0 0] #[.int .i64 MK.cap, .slice aX kX cX] rfl hzX rfl (by kernel_rfl) (by simp [Value.oneCell']) ?_
                                   clear hzX hMX hbX hSX
                                   generalize (wz.alloc (.cells #[.int .i64 0, .slice none 0 0] 24)).setRow wz.heap.size #[.int .i64 MK.cap, .slice aX kX cX] = wx2 at *
                                   generalize wz.heap.size = GX at *
                                   have HTX := Lib.hid hTX
                                   have Hb2 := Lib.hid (bthen Hbb.out hbyX (Nat.le_refl _))
                                   have HT5 := Lib.hid (HTb.out.ext hbyX)
                                   clear hTX hbyX
                                   obtain ⟨x0, x1⟩ := HTX.out.box.cells
                                   obtain ⟨t0, t1⟩ := HT5.out.box.cells
                                   dsimp only at t0 t1
                                   have hkX : kX = 1 := by
                                     have h1 := HTX.out.r.len
                                     have h2 : csX.length = 1 := by rw [← pls_length, HTX.out.r.pls, HONE.out]; rfl
                                     omega
                                   subst hkX
                                   have hc0 : 0 < csX.length := by rw [HTX.out.r.len]; decide
                                   obtain ⟨xb, xo, rfl, hlb, hat⟩ := HTX.out.r.mat.src.elem CellV.len (by decide) hc0
                                   have hpl : csX[0].pl = ⟨1, [BitVec.ofNat 8 k], false⟩ := by
                                     have h1 : (pls csX)[0]? = some csX[0].pl := pls_get0 hc0
                                     rw [HTX.out.r.pls, HONE.out] at h1
                                     exact (Option.some.inj h1).symm
                                   have hbd := HTX.out.r.mat.row csX[0] (List.getElem_mem hc0)
                                   have q1 := hat 0 hc0 1 _ rfl
                                   generalize csX[0] = xx at *
                                   obtain ⟨kd, ⟨xa, xc, xl⟩, bd⟩ := xx
                                   have hxl : xl = [BitVec.ofNat 8 k] := congrArg CellP.data hpl
                                   subst hxl
                                   have q1o := q1
                                   have q1 : wx2.cell? ⟨xb, xo + 1, none⟩ = some (.slice xa 1 xc) := by
                                     have := q1
                                     rw [Nat.zero_mul, Nat.add_zero] at this
                                     exact this
                                   have HSX := Lib.hid hbd.1
                                   clear hat hpl hbd
                                   have hbv1 : bvs [BitVec.ofNat 8 k] = [.int .u8 (k : Int)] := by simp [bvs, u8v, BitVec.toNat_ofNat, Nat.mod_eq_of_lt (show k < 256 by omega)]
                                   have hbT := ext_alloc wx2 (.cells #[.int .u8 (k : Int)] 5)
                                   have hsT : Src (wx2.alloc (.cells #[.int .u8 (k : Int)] 5)) (some ⟨wx2.heap.size, 0, none⟩) [.int .u8 (k : Int)] := src_new wx2 _ _
                                   have HST := Lib.hid hsT
                                   have Hbv1 := Lib.hid hbv1
                                   have Hb3 := Lib.hid (bthen Hb2.out hbT (Nat.le_refl _))
                                   have HSX2 := Lib.hid (HSX.out.ext hbT)
                                   clear hsT hbT hbv1)
                      refine (bytes_at xa xc [BitVec.ofNat 8 k] (some ⟨wx2.heap.size, 0, none⟩) 1 [BitVec.ofNat 8 k] _ 1 1 true HSX2.out (by rw [Hbv1.out]; exact HST.out) rfl rfl (by decide) (by decide) (by simp)).mono ?_
                      rintro e wc ⟨rfl, nd2, rfl⟩
                      have Hb4 := Lib.hid (bthen Hb3.out (ext_drewN _ nd2 _) (Nat.le_refl _))
                      clear q1 q1o x0 x1 t0 t1
                      go_wp2_with fail
                      go_roundw
                      case rel => exact ⟨k + 1, _, rfl, by omega, by go_num, Hb4.out⟩
                      case measure => simp [intOf]; omega
                  · obtain rfl : nv = k := by omega
                    have HBF0 := Lib.hid (HB1.out.trans (HBb.out.mono (Nat.le_of_lt hlow)))
                    obtain ⟨⟨S9, i9⟩, hr9⟩ : ∃ y, y = SQ.mount v := ⟨_, rfl⟩
                    have HR9 := Lib.hid hr9.symm
                    clear hr9
                    go_wp2_with fail
                    refine (rob_mountP HR9.out wb HRb.out (Up.all HBb.out.size) rfl (by rw [HPQ.out.vols]; exact hvn) (by rw [HPQ.out.asked]; omega)).mono ?_
                    rintro e w9 ⟨d9, D9, rfl, hdi9, hR9, hm9⟩
                    have HDI9 := Lib.hid hdi9
                    have HRR9 := Lib.hid hR9
                    have HB9 := Lib.hid (HBF0.out.trans ((hm9.below (fun b T h => h.1) HBb.out.size).mono (Nat.le_of_lt hlow)))
                    clear hdi9 hR9 hm9
                    go_wp2_with fail
                    refine (wakes13_any w9).mono ?_
                    rintro e wA ⟨rfl, hbA⟩
                    have HBA := Lib.hid (bthen HB9.out hbA (Nat.le_refl _))
                    clear hbA
                    go_wp2
                    go_ret
                    exact ⟨rfl, HBA.out⟩
          | false =>
            clear HPM HR1 HTy
            obtain ⟨w5, hw5⟩ : ∃ x, x = wy := ⟨_, rfl⟩
            subst hw5
            have HR5 := HR
            have HB5 := HB
            have HPM := HPN2
            -- ahead of Put: world w5, HR5 : RobP S5 D5; HPM : PutsP S5 cap nv t5 (one1 cap); HB5 : Below wx w5
            have HT5 := Lib.hid (HT.out.ext HB5.out)
            obtain ⟨t0, t1⟩ := HT5.out.box.cells
            dsimp only at t0 t1
            go_wp2_with fail
            try rw [ev]
            try clear ev
            clear t0 t1
            cases hok : (medOf cap cs).ok with
            | true =>
              have HOKB := Lib.hid hok
              refine (rob_put v cap a c n cs w5 HR5.out (Up.all HB5.out.size) HT5.out.mat Hn.out (by omega) Hx.out (by rw [HPM.out.vols]; exact hvn) hok HPM.out.size.symm).mono ?_
              rintro e wp ⟨rfl, hRQ, hmQ⟩
              have hPQ := HPM.out.put hvn (m := ⟨cap, pls cs⟩) ⟨hok, rfl⟩
              have HAT : Hid (∀ (SZ : RS) (i : Nat), (S.put v ⟨cap, pls cs⟩).mount v = (SZ, i) → ∃ b : Bay, SZ.bays[i]? = some b ∧ b.vol = v ∧ b.at_ = 0) := Lib.hid fun SZ i hr => put_mount_at HPM.out.ok (by rw [HPM.out.vols]; exact hvn) ⟨hok, HPM.out.size.symm⟩ (by rw [HPM.out.asked]; omega) hr
              obtain ⟨SQ, hSQ⟩ : ∃ S9, S9 = S.put v ⟨cap, pls cs⟩ := ⟨_, rfl⟩
              obtain ⟨TQ, hTQ⟩ : ∃ T : Nat → Med, T = fun u => if u = v then ⟨cap, pls cs⟩ else one1 cap u := ⟨_, rfl⟩
              rw [← hSQ, ← hTQ] at hPQ
              rw [← hSQ] at hRQ HAT
              have HTQ := Lib.hid hTQ
              have HPQ := Lib.hid hPQ
              have HRQ := Lib.hid hRQ
              have HBp := Lib.hid (HB5.out.trans (hmQ.below (fun b T h => h.1) HB5.out.size))
              have HTp := Lib.hid (HT.out.ext HBp.out)
              clear hRQ hmQ hok hPQ hSQ hTQ
              -- behind Put: world wp; HPQ : PutsP SQ cap nv tq T2; HRQ : RobP SQ D; HBp: Below wx wp; HTp: box of m
              obtain ⟨t0, t1⟩ := HTp.out.box.cells
              dsimp only at t0 t1
              go_wp2_with fail
              clear t0 t1
              refine (refmed_any cap a c n cs true wp HTp.out.mat Hn.out hn2 HOKB.out).mono ?_
              rintro e wr0 ⟨rfl, hbr⟩
              have HR0 := Lib.hid (HRQ.out.ext hbr)
              have HB0 := Lib.hid (bthen HBp.out hbr (Nat.le_refl _))
              have HT0 := Lib.hid (HTp.out.ext hbr)
              clear hbr
              obtain ⟨t0, t1⟩ := HT0.out.box.cells
              dsimp only at t0 t1
              have hbO := bsetRow (ext_alloc wr0 (.cells #[.int .i64 0, .slice none 0 0] 24)) (Nat.le_refl _) #[.int .i64 cap, .slice a n c]
              have hgO := setRow_heap (wr0.alloc (.cells #[.int .i64 0, .slice none 0 0] 24)) wr0.heap.size _ #[.int .i64 cap, .slice a n c] _ _ (heap_alloc_new wr0 _)
              have hbO2 := hbO.setCell (p := ⟨wr0.heap.size, 0, none⟩) (Nat.le_refl _) (.int .i64 (cap % 400 + 1))
              have hgO2 := heap_setCell_same _ wr0.heap.size 0 _ _ (.int .i64 (cap % 400 + 1)) hgO
              have o0 := cell_of_row _ wr0.heap.size 0 _ _ _ hgO
              have fo := frozen_of_row _ wr0.heap.size 0 _ _ hgO
              have t0' := (World.cell?_of_block (w := wr0) (hbO.block _ (heap_lt HT0.out.box))).trans t0
              have HO := Lib.hid (show _ = some (Obj.cells #[.int .i64 (cap % 400 + 1), .slice a n c] 24 (0, 0)) from hgO2)
              have HR1 := Lib.hid (HR0.out.ext hbO2)
              have HB1' := Lib.hid (bthen HB0.out hbO2 (Nat.le_refl _))
              have HT1 := Lib.hid (HT0.out.ext hbO2)
              obtain ⟨t0'', t1''⟩ := HT1.out.box.cells
              dsimp only at t0'' t1''
              clear hbO hbO2 hgO2 hgO
              go_wp2_with (refine wpList_store_row rfl rfl 24 (.tmp 20) (.tmp 124) rfl wr0.heap.size rfl 24 #[.int .i64 0, .slice none 0 0] #[.int .i64 cap, .slice a n c] rfl (heap_alloc_new wr0 _) rfl (by kernel_rfl) (by simp [Value.oneCell']) ?_)
              clear t0 t1 o0 fo t0' t0'' t1''
              generalize ((wr0.alloc (.cells #[.int .i64 0, .slice none 0 0] 24)).setRow wr0.heap.size #[.int .i64 cap, .slice a n c]).setCell ⟨wr0.heap.size, 0, none⟩ (.int .i64 (cap % 400 + 1)) = wo at *
              generalize wr0.heap.size = GO at *
              refine (rob_put_bad (nv : Int) cap a c n cs wo HR1.out HT1.out.mat Hn.out (by omega) Hx.out (.inr (.inl (by rw [HPQ.out.vols]; exact Int.le_refl _)))).mono ?_
              rintro e wo1 ⟨rfl, hbq⟩
              have HR2 := Lib.hid (HR1.out.ext hbq)
              have HB2' := Lib.hid (bthen HB1'.out hbq (Nat.le_refl _))
              have HT2' := Lib.hid (HT1.out.ext hbq)
              have HO2 := Lib.hid ((hbq.block _ (heap_lt HO.out)).trans HO.out)
              clear hbq
              obtain ⟨t0, t1⟩ := HT2'.out.box.cells
              dsimp only at t0 t1
              go_wp2_with fail
              clear t0 t1
              refine (rob_put_bad (-1) cap a c n cs wo1 HR2.out HT2'.out.mat Hn.out (by omega) Hx.out (.inl (by decide))).mono ?_
              rintro e wo2 ⟨rfl, hbq⟩
              have HR3 := Lib.hid (HR2.out.ext hbq)
              have HB3 := Lib.hid (bthen HB2'.out hbq (Nat.le_refl _))
              have HT3 := Lib.hid (HT2'.out.ext hbq)
              have HO3 := Lib.hid ((hbq.block _ (heap_lt HO2.out)).trans HO2.out)
              clear hbq
              obtain ⟨t0, t1⟩ := HT3.out.box.cells
              dsimp only at t0 t1
              have o0 := cell_of_row _ GO 0 _ _ _ HO3.out
              have o1 := cell_of_row _ GO 1 _ _ _ HO3.out
              by_cases h400 : cap < 400
              · have e4 : decide (cap < 400) = true := by simpa using h400
                have hoc : cap % 400 + 1 ≠ cap := by omega
                have Hoc := Lib.hid hoc
                clear h400 hoc
                go_wp2_with fail
                clear t0 t1 o0 o1 e4
                refine (rob_put_bad (v : Int) (cap % 400 + 1) a c n cs wo2 HR3.out HT3.out.mat Hn.out (by omega) Hx.out (.inr (.inr (.inr (by rw [HPQ.out.size]; exact Hoc.out))))).mono ?_
                rintro e wo3 ⟨rfl, hbq⟩
                have HR4 := Lib.hid (HR3.out.ext hbq)
                have HB4 := Lib.hid (bthen HB3.out hbq (Nat.le_refl _))
                have HT4 := Lib.hid (HT3.out.ext hbq)
                clear hbq
                go_wp2_with fail
                go_loopw [21, 22, 23] (fun i _ _ wr => ∃ (k : Nat) (wb : World), wb = wr ∧ k ≤ nv ∧ i = .int .i64 (k : Int) ∧ Below wo3.heap.size wo3 wb) (fun i _ _ _ => nv - (intOf i).toNat)
                case atStart => exact ⟨0, wo3, rfl, by omega, rfl, Below.refl _ _⟩
                case round =>
                  obtain ⟨k, wb, hwb, hk0, rfl, hbb⟩ := hrel
                  subst hwb
                  have HRb := Lib.hid (HR4.out.ext hbb)
                  have HBb := Lib.hid (bthen HB4.out hbb (Nat.le_refl _))
                  have HTb := Lib.hid (HT4.out.ext hbb)
                  have Hbb := Lib.hid hbb
                  clear hbb
                  by_cases hkk : k < nv
                  · obtain ⟨MK, hMK⟩ : ∃ M, M = TQ k := ⟨_, rfl⟩
                    have HTP : Hid (SQ.tape k = MK) := Lib.hid (by rw [hMK]; exact HPQ.out.tape k hkk)
                    have HMK := Lib.hid hMK
                    clear hMK
                    go_wp2_with fail
                    refine (rob_medium k MK wb HRb.out (by rw [HPQ.out.vols]; exact hkk) HTP.out).mono ?_
                    rintro e wz ⟨aX, kX, cX, csX, rfl, hMX, hcX, hbX⟩
                    obtain ⟨hTX, hSX⟩ := TapeO.new MK.cap rfl hMX hcX
                    have hzX := heap_alloc_new wz (.cells #[.int .i64 0, .slice none 0 0] 24)
                    have hbyX := bthen hbX hSX (Nat.le_refl _)
                    by_cases hkv : k = v
                    · have ekv : ((k : Int) == (v : Int)) = true := by rw [hkv]; exact beq_self_eq_true _
                      have HEQ : Hid (MK = ⟨cap, pls cs⟩) := Lib.hid (by rw [HMK.out, HTQ.out, hkv]; exact if_pos rfl)
                      clear hkv
                      go_wp2_with (refine wpList_store_row rfl rfl 24 (.tmp 22) (.tmp 176) rfl wz.heap.size rfl 24 #[.int .i64 0, .slice none 0 0] #[.int .i64 MK.cap, .slice aX kX cX] rfl hzX rfl (by kernel_rfl) (by simp [Value.oneCell']) ?_
                                   clear hzX hMX hbX hSX
                                   generalize (wz.alloc (.cells #[.int .i64 0, .slice none 0 0] 24)).setRow wz.heap.size #[.int .i64 MK.cap, .slice aX kX cX] = wx2 at *
                                   generalize wz.heap.size = GX at *
                                   have HTX := Lib.hid hTX
                                   have Hb2 := Lib.hid (bthen Hbb.out hbyX (Nat.le_refl _))
                                   have HT5 := Lib.hid (HTb.out.ext hbyX)
                                   clear hTX hbyX
                                   obtain ⟨x0, x1⟩ := HTX.out.box.cells
                                   obtain ⟨t0, t1⟩ := HT5.out.box.cells
                                   dsimp only at t0 t1)
                      clear x0 x1 t0 t1 ekv
                      refine (keepmed_any MK.cap cap aX a cX kX c n csX cs true wx2 HTX.out.r.mat HT5.out.mat HTX.out.r.len.symm Hn.out HTX.out.r.len63 hn2 (by rw [HTX.out.r.pls, HEQ.out]; simp)).mono ?_
                      rintro e wc ⟨rfl, hbc⟩
                      have Hb4 := Lib.hid (bthen Hb2.out hbc (Nat.le_refl _))
                      clear hbc
                      go_wp2_with fail
                      go_roundw
                      case rel => exact ⟨k + 1, _, rfl, by omega, by go_num, Hb4.out⟩
                      case measure => simp [intOf]; omega
                    · have ekv : ((k : Int) == (v : Int)) = false := by simp; omega
                      have HONE : Hid (MK = one1 cap k) := Lib.hid (by rw [HMK.out, HTQ.out]; exact if_neg hkv)
                      clear hkv
                      go_wp2_with (refine wpList_store_row rfl rfl 24 (.tmp 22) (.tmp 176) rfl wz.heap.size rfl 24 #[.int .i64 0, .slice none 0 0] #[.int .i64 MK.cap, .slice aX kX cX] rfl hzX rfl (by kernel_rfl) (by simp [Value.oneCell']) ?_
                                   clear hzX hMX hbX hSX
                                   generalize (wz.alloc (.cells #[.int .i64 0, .slice none 0 0] 24)).setRow wz.heap.size #[.int .i64 MK.cap, .slice aX kX cX] = wx2 at *
                                   generalize wz.heap.size = GX at *
                                   have HTX := Lib.hid hTX
                                   have Hb2 := Lib.hid (bthen Hbb.out hbyX (Nat.le_refl _))
                                   have HT5 := Lib.hid (HTb.out.ext hbyX)
                                   clear hTX hbyX
                                   obtain ⟨x0, x1⟩ := HTX.out.box.cells
                                   obtain ⟨t0, t1⟩ := HT5.out.box.cells
                                   dsimp only at t0 t1
                                   have hkX : kX = 1 := by
                                     have h1 := HTX.out.r.len
                                     have h2 : csX.length = 1 := by rw [← pls_length, HTX.out.r.pls, HONE.out]; rfl
                                     omega
                                   subst hkX
                                   have hc0 : 0 < csX.length := by rw [HTX.out.r.len]; decide
                                   obtain ⟨xb, xo, rfl, hlb, hat⟩ := HTX.out.r.mat.src.elem CellV.len (by decide) hc0
                                   have hpl : csX[0].pl = ⟨1, [BitVec.ofNat 8 k], false⟩ := by
                                     have h1 : (pls csX)[0]? = some csX[0].pl := pls_get0 hc0
                                     rw [HTX.out.r.pls, HONE.out] at h1
                                     exact (Option.some.inj h1).symm
                                   have hbd := HTX.out.r.mat.row csX[0] (List.getElem_mem hc0)
                                   have q1 := hat 0 hc0 1 _ rfl
                                   generalize csX[0] = xx at *
                                   obtain ⟨kd, ⟨xa, xc, xl⟩, bd⟩ := xx
                                   have hxl : xl = [BitVec.ofNat 8 k] := congrArg CellP.data hpl
                                   subst hxl
                                   have q1o := q1
                                   have q1 : wx2.cell? ⟨xb, xo + 1, none⟩ = some (.slice xa 1 xc) := by
                                     have := q1
                                     rw [Nat.zero_mul, Nat.add_zero] at this
                                     exact this
                                   have HSX := Lib.hid hbd.1
                                   clear hat hpl hbd
                                   have hbv1 : bvs [BitVec.ofNat 8 k] = [.int .u8 (k : Int)] := by simp [bvs, u8v, BitVec.toNat_ofNat, Nat.mod_eq_of_lt (show k < 256 by omega)]
                                   have hbT := ext_alloc wx2 (.cells #[.int .u8 (k : Int)] 5)
                                   have hsT : Src (wx2.alloc (.cells #[.int .u8 (k : Int)] 5)) (some ⟨wx2.heap.size, 0, none⟩) [.int .u8 (k : Int)] := src_new wx2 _ _
                                   have HST := Lib.hid hsT
                                   have Hbv1 := Lib.hid hbv1
                                   have Hb3 := Lib.hid (bthen Hb2.out hbT (Nat.le_refl _))
                                   have HSX2 := Lib.hid (HSX.out.ext hbT)
                                   clear hsT hbT hbv1)
                      refine (bytes_at xa xc [BitVec.ofNat 8 k] (some ⟨wx2.heap.size, 0, none⟩) 1 [BitVec.ofNat 8 k] _ 1 1 true HSX2.out (by rw [Hbv1.out]; exact HST.out) rfl rfl (by decide) (by decide) (by simp)).mono ?_
                      rintro e wc ⟨rfl, nd2, rfl⟩
                      have Hb4 := Lib.hid (bthen Hb3.out (ext_drewN _ nd2 _) (Nat.le_refl _))
                      clear q1 q1o x0 x1 t0 t1
                      go_wp2_with fail
                      go_roundw
                      case rel => exact ⟨k + 1, _, rfl, by omega, by go_num, Hb4.out⟩
                      case measure => simp [intOf]; omega
                  · obtain rfl : nv = k := by omega
                    have HBF0 := Lib.hid (HB1.out.trans (HBb.out.mono (Nat.le_of_lt hlow)))
                    obtain ⟨⟨S9, i9⟩, hr9⟩ : ∃ y, y = SQ.mount v := ⟨_, rfl⟩
                    have HR9 := Lib.hid hr9.symm
                    clear hr9
                    go_wp2_with fail
                    refine (rob_mountP HR9.out wb HRb.out (Up.all HBb.out.size) rfl (by rw [HPQ.out.vols]; exact hvn) (by rw [HPQ.out.asked]; omega)).mono ?_
                    rintro e w9 ⟨d9, D9, rfl, hdi9, hR9, hm9⟩
                    have HDI9 := Lib.hid hdi9
                    have HRR9 := Lib.hid hR9
                    have HB9 := Lib.hid (HBF0.out.trans ((hm9.below (fun b T h => h.1) HBb.out.size).mono (Nat.le_of_lt hlow)))
                    clear hdi9 hR9 hm9
                    go_wp2_with fail
                    obtain ⟨b9, hb9, hbv9, hat9⟩ := HAT.out S9 i9 HR9.out
                    refine (rob_place HRR9.out hb9 (by rw [hbv9]; omega) HDI9.out hat9).mono ?_
                    rintro e wA ⟨rfl, rfl⟩
                    clear hb9 hbv9 hat9
                    go_wp2_with fail
                    refine (wakes13_any w9).mono ?_
                    rintro e wA ⟨rfl, hbA⟩
                    have HBA := Lib.hid (bthen HB9.out hbA (Nat.le_refl _))
                    clear hbA
                    go_wp2
                    go_ret
                    exact ⟨rfl, HBA.out⟩
              · have e4 : decide (cap < 400) = false := by simpa using h400
                have HR4 := HR3
                have HB4 := HB3
                have HT4 := HT3
                obtain ⟨wo3, hwo3⟩ : ∃ w, w = wo2 := ⟨_, rfl⟩
                clear h400
                go_wp2_with fail
                clear t0 t1 o0 o1 e4
                rw [← hwo3] at HR4 HB4 HT4 ⊢
                clear hwo3
                go_loopw [21, 22, 23] (fun i _ _ wr => ∃ (k : Nat) (wb : World), wb = wr ∧ k ≤ nv ∧ i = .int .i64 (k : Int) ∧ Below wo3.heap.size wo3 wb) (fun i _ _ _ => nv - (intOf i).toNat)
                case atStart => exact ⟨0, wo3, rfl, by omega, rfl, Below.refl _ _⟩
                case round =>
                  obtain ⟨k, wb, hwb, hk0, rfl, hbb⟩ := hrel
                  subst hwb
                  have HRb := Lib.hid (HR4.out.ext hbb)
                  have HBb := Lib.hid (bthen HB4.out hbb (Nat.le_refl _))
                  have HTb := Lib.hid (HT4.out.ext hbb)
                  have Hbb := Lib.hid hbb
                  clear hbb
                  by_cases hkk : k < nv
                  · obtain ⟨MK, hMK⟩ : ∃ M, M = TQ k := ⟨_, rfl⟩
                    have HTP : Hid (SQ.tape k = MK) := Lib.hid (by rw [hMK]; exact HPQ.out.tape k hkk)
                    have HMK := Lib.hid hMK
                    clear hMK
                    go_wp2_with fail
                    refine (rob_medium k MK wb HRb.out (by rw [HPQ.out.vols]; exact hkk) HTP.out).mono ?_
                    rintro e wz ⟨aX, kX, cX, csX, rfl, hMX, hcX, hbX⟩
                    obtain ⟨hTX, hSX⟩ := TapeO.new MK.cap rfl hMX hcX
                    have hzX := heap_alloc_new wz (.cells #[.int .i64 0, .slice none 0 0] 24)
                    have hbyX := bthen hbX hSX (Nat.le_refl _)
                    by_cases hkv : k = v
                    · have ekv : ((k : Int) == (v : Int)) = true := by rw [hkv]; exact beq_self_eq_true _
                      have HEQ : Hid (MK = ⟨cap, pls cs⟩) := Lib.hid (by rw [HMK.out, HTQ.out, hkv]; exact if_pos rfl)
                      clear hkv
                      go_wp2_with (refine wpList_store_row rfl rfl 24 (.tmp 22) (.tmp 176) rfl wz.heap.size rfl 24 #[.int .i64 0, .slice none 0 0] #[.int .i64 MK.cap, .slice aX kX cX] rfl hzX rfl (by kernel_rfl) (by simp [Value.oneCell']) ?_
                                   clear hzX hMX hbX hSX
                                   generalize (wz.alloc (.cells #[.int .i64 0, .slice none 0 0] 24)).setRow wz.heap.size #[.int .i64 MK.cap, .slice aX kX cX] = wx2 at *
                                   generalize wz.heap.size = GX at *
                                   have HTX := Lib.hid hTX
                                   have Hb2 := Lib.hid (bthen Hbb.out hbyX (Nat.le_refl _))
                                   have HT5 := Lib.hid (HTb.out.ext hbyX)
                                   clear hTX hbyX
                                   obtain ⟨x0, x1⟩ := HTX.out.box.cells
                                   obtain ⟨t0, t1⟩ := HT5.out.box.cells
                                   dsimp only at t0 t1)
                      clear x0 x1 t0 t1 ekv
                      refine (keepmed_any MK.cap cap aX a cX kX c n csX cs true wx2 HTX.out.r.mat HT5.out.mat HTX.out.r.len.symm Hn.out HTX.out.r.len63 hn2 (by rw [HTX.out.r.pls, HEQ.out]; simp)).mono ?_
                      rintro e wc ⟨rfl, hbc⟩
                      have Hb4 := Lib.hid (bthen Hb2.out hbc (Nat.le_refl _))
                      clear hbc
                      go_wp2_with fail
                      go_roundw
                      case rel => exact ⟨k + 1, _, rfl, by omega, by go_num, Hb4.out⟩
                      case measure => simp [intOf]; omega
                    · have ekv : ((k : Int) == (v : Int)) = false := by simp; omega
                      have HONE : Hid (MK = one1 cap k) := Lib.hid (by rw [HMK.out, HTQ.out]; exact if_neg hkv)
                      clear hkv
                      go_wp2_with (refine wpList_store_row rfl rfl 24 (.tmp 22) (.tmp 176) rfl wz.heap.size rfl 24 #[.int .i64 0, .slice none 0 0] #[.int .i64 MK.cap, .slice aX kX cX] rfl hzX rfl (by kernel_rfl) (by simp [Value.oneCell']) ?_
                                   clear hzX hMX hbX hSX
                                   generalize (wz.alloc (.cells #[.int .i64 0, .slice none 0 0] 24)).setRow wz.heap.size #[.int .i64 MK.cap, .slice aX kX cX] = wx2 at *
                                   generalize wz.heap.size = GX at *
                                   have HTX := Lib.hid hTX
                                   have Hb2 := Lib.hid (bthen Hbb.out hbyX (Nat.le_refl _))
                                   have HT5 := Lib.hid (HTb.out.ext hbyX)
                                   clear hTX hbyX
                                   obtain ⟨x0, x1⟩ := HTX.out.box.cells
                                   obtain ⟨t0, t1⟩ := HT5.out.box.cells
                                   dsimp only at t0 t1
                                   have hkX : kX = 1 := by
                                     have h1 := HTX.out.r.len
                                     have h2 : csX.length = 1 := by rw [← pls_length, HTX.out.r.pls, HONE.out]; rfl
                                     omega
                                   subst hkX
                                   have hc0 : 0 < csX.length := by rw [HTX.out.r.len]; decide
                                   obtain ⟨xb, xo, rfl, hlb, hat⟩ := HTX.out.r.mat.src.elem CellV.len (by decide) hc0
                                   have hpl : csX[0].pl = ⟨1, [BitVec.ofNat 8 k], false⟩ := by
                                     have h1 : (pls csX)[0]? = some csX[0].pl := pls_get0 hc0
                                     rw [HTX.out.r.pls, HONE.out] at h1
                                     exact (Option.some.inj h1).symm
                                   have hbd := HTX.out.r.mat.row csX[0] (List.getElem_mem hc0)
                                   have q1 := hat 0 hc0 1 _ rfl
                                   generalize csX[0] = xx at *
                                   obtain ⟨kd, ⟨xa, xc, xl⟩, bd⟩ := xx
                                   have hxl : xl = [BitVec.ofNat 8 k] := congrArg CellP.data hpl
                                   subst hxl
                                   have q1o := q1
                                   have q1 : wx2.cell? ⟨xb, xo + 1, none⟩ = some (.slice xa 1 xc) := by
                                     have := q1
                                     rw [Nat.zero_mul, Nat.add_zero] at this
                                     exact this
                                   have HSX := Lib.hid hbd.1
                                   clear hat hpl hbd
                                   have hbv1 : bvs [BitVec.ofNat 8 k] = [.int .u8 (k : Int)] := by simp [bvs, u8v, BitVec.toNat_ofNat, Nat.mod_eq_of_lt (show k < 256 by omega)]
                                   have hbT := ext_alloc wx2 (.cells #[.int .u8 (k : Int)] 5)
                                   have hsT : Src (wx2.alloc (.cells #[.int .u8 (k : Int)] 5)) (some ⟨wx2.heap.size, 0, none⟩) [.int .u8 (k : Int)] := src_new wx2 _ _
                                   have HST := Lib.hid hsT
                                   have Hbv1 := Lib.hid hbv1
                                   have Hb3 := Lib.hid (bthen Hb2.out hbT (Nat.le_refl _))
                                   have HSX2 := Lib.hid (HSX.out.ext hbT)
                                   clear hsT hbT hbv1)
                      refine (bytes_at xa xc [BitVec.ofNat 8 k] (some ⟨wx2.heap.size, 0, none⟩) 1 [BitVec.ofNat 8 k] _ 1 1 true HSX2.out (by rw [Hbv1.out]; exact HST.out) rfl rfl (by decide) (by decide) (by simp)).mono ?_
                      rintro e wc ⟨rfl, nd2, rfl⟩
                      have Hb4 := Lib.hid (bthen Hb3.out (ext_drewN _ nd2 _) (Nat.le_refl _))
                      clear q1 q1o x0 x1 t0 t1
                      go_wp2_with fail
                      go_roundw
                      case rel => exact ⟨k + 1, _, rfl, by omega, by go_num, Hb4.out⟩
                      case measure => simp [intOf]; omega
                  · obtain rfl : nv = k := by omega
                    have HBF0 := Lib.hid (HB1.out.trans (HBb.out.mono (Nat.le_of_lt hlow)))
                    obtain ⟨⟨S9, i9⟩, hr9⟩ : ∃ y, y = SQ.mount v := ⟨_, rfl⟩
                    have HR9 := Lib.hid hr9.symm
                    clear hr9
                    go_wp2_with fail
                    refine (rob_mountP HR9.out wb HRb.out (Up.all HBb.out.size) rfl (by rw [HPQ.out.vols]; exact hvn) (by rw [HPQ.out.asked]; omega)).mono ?_
                    rintro e w9 ⟨d9, D9, rfl, hdi9, hR9, hm9⟩
                    have HDI9 := Lib.hid hdi9
                    have HRR9 := Lib.hid hR9
                    have HB9 := Lib.hid (HBF0.out.trans ((hm9.below (fun b T h => h.1) HBb.out.size).mono (Nat.le_of_lt hlow)))
                    clear hdi9 hR9 hm9
                    go_wp2_with fail
                    obtain ⟨b9, hb9, hbv9, hat9⟩ := HAT.out S9 i9 HR9.out
                    refine (rob_place HRR9.out hb9 (by rw [hbv9]; omega) HDI9.out hat9).mono ?_
                    rintro e wA ⟨rfl, rfl⟩
                    clear hb9 hbv9 hat9
                    go_wp2_with fail
                    refine (wakes13_any w9).mono ?_
                    rintro e wA ⟨rfl, hbA⟩
                    have HBA := Lib.hid (bthen HB9.out hbA (Nat.le_refl _))
                    clear hbA
                    go_wp2
                    go_ret
                    exact ⟨rfl, HBA.out⟩
            | false =>
              have HOKB := Lib.hid hok
              refine (rob_put_bad (v : Int) cap a c n cs w5 HR5.out HT5.out.mat Hn.out (by omega) Hx.out (.inr (.inr (.inl hok)))).mono ?_
              rintro e wp ⟨rfl, hbq⟩
              obtain ⟨SQ, hSQ⟩ : ∃ S9, S9 = S := ⟨_, rfl⟩
              obtain ⟨TQ, hTQ⟩ : ∃ T : Nat → Med, T = one1 cap := ⟨_, rfl⟩
              have HTQ := Lib.hid hTQ
              have HPQ : Hid (PutsP SQ cap nv _ TQ) := Lib.hid (by rw [hSQ, hTQ]; exact HPM.out)
              have HRQ : Hid (RobP wx.heap.size AllK wp r g SQ _ PS.new) := Lib.hid (by rw [hSQ]; exact HR5.out.ext hbq)
              have HBp := Lib.hid (bthen HB5.out hbq (Nat.le_refl _))
              have HTp := Lib.hid (HT.out.ext HBp.out)
              clear hbq hok hSQ hTQ
              -- behind Put: world wp; HPQ : PutsP SQ cap nv tq T2; HRQ : RobP SQ D; HBp: Below wx wp; HTp: box of m
              obtain ⟨t0, t1⟩ := HTp.out.box.cells
              dsimp only at t0 t1
              go_wp2_with fail
              clear t0 t1
              refine (refmed_any cap a c n cs false wp HTp.out.mat Hn.out hn2 HOKB.out).mono ?_
              rintro e wr0 ⟨rfl, hbr⟩
              have HR0 := Lib.hid (HRQ.out.ext hbr)
              have HB0 := Lib.hid (bthen HBp.out hbr (Nat.le_refl _))
              have HT0 := Lib.hid (HTp.out.ext hbr)
              clear hbr
              obtain ⟨t0, t1⟩ := HT0.out.box.cells
              dsimp only at t0 t1
              have hbO := bsetRow (ext_alloc wr0 (.cells #[.int .i64 0, .slice none 0 0] 24)) (Nat.le_refl _) #[.int .i64 cap, .slice a n c]
              have hgO := setRow_heap (wr0.alloc (.cells #[.int .i64 0, .slice none 0 0] 24)) wr0.heap.size _ #[.int .i64 cap, .slice a n c] _ _ (heap_alloc_new wr0 _)
              have hbO2 := hbO.setCell (p := ⟨wr0.heap.size, 0, none⟩) (Nat.le_refl _) (.int .i64 (cap % 400 + 1))
              have hgO2 := heap_setCell_same _ wr0.heap.size 0 _ _ (.int .i64 (cap % 400 + 1)) hgO
              have o0 := cell_of_row _ wr0.heap.size 0 _ _ _ hgO
              have fo := frozen_of_row _ wr0.heap.size 0 _ _ hgO
              have t0' := (World.cell?_of_block (w := wr0) (hbO.block _ (heap_lt HT0.out.box))).trans t0
              have HO := Lib.hid (show _ = some (Obj.cells #[.int .i64 (cap % 400 + 1), .slice a n c] 24 (0, 0)) from hgO2)
              have HR1 := Lib.hid (HR0.out.ext hbO2)
              have HB1' := Lib.hid (bthen HB0.out hbO2 (Nat.le_refl _))
              have HT1 := Lib.hid (HT0.out.ext hbO2)
              obtain ⟨t0'', t1''⟩ := HT1.out.box.cells
              dsimp only at t0'' t1''
              clear hbO hbO2 hgO2 hgO
              go_wp2_with (refine wpList_store_row rfl rfl 24 (.tmp 20) (.tmp 124) rfl wr0.heap.size rfl 24 #[.int .i64 0, .slice none 0 0] #[.int .i64 cap, .slice a n c] rfl (heap_alloc_new wr0 _) rfl (by kernel_rfl) (by simp [Value.oneCell']) ?_)
              clear t0 t1 o0 fo t0' t0'' t1''
              generalize ((wr0.alloc (.cells #[.int .i64 0, .slice none 0 0] 24)).setRow wr0.heap.size #[.int .i64 cap, .slice a n c]).setCell ⟨wr0.heap.size, 0, none⟩ (.int .i64 (cap % 400 + 1)) = wo at *
              generalize wr0.heap.size = GO at *
              refine (rob_put_bad (nv : Int) cap a c n cs wo HR1.out HT1.out.mat Hn.out (by omega) Hx.out (.inr (.inl (by rw [HPQ.out.vols]; exact Int.le_refl _)))).mono ?_
              rintro e wo1 ⟨rfl, hbq⟩
              have HR2 := Lib.hid (HR1.out.ext hbq)
              have HB2' := Lib.hid (bthen HB1'.out hbq (Nat.le_refl _))
              have HT2' := Lib.hid (HT1.out.ext hbq)
              have HO2 := Lib.hid ((hbq.block _ (heap_lt HO.out)).trans HO.out)
              clear hbq
              obtain ⟨t0, t1⟩ := HT2'.out.box.cells
              dsimp only at t0 t1
              go_wp2_with fail
              clear t0 t1
              refine (rob_put_bad (-1) cap a c n cs wo1 HR2.out HT2'.out.mat Hn.out (by omega) Hx.out (.inl (by decide))).mono ?_
              rintro e wo2 ⟨rfl, hbq⟩
              have HR3 := Lib.hid (HR2.out.ext hbq)
              have HB3 := Lib.hid (bthen HB2'.out hbq (Nat.le_refl _))
              have HT3 := Lib.hid (HT2'.out.ext hbq)
              have HO3 := Lib.hid ((hbq.block _ (heap_lt HO2.out)).trans HO2.out)
              clear hbq
              obtain ⟨t0, t1⟩ := HT3.out.box.cells
              dsimp only at t0 t1
              have o0 := cell_of_row _ GO 0 _ _ _ HO3.out
              have o1 := cell_of_row _ GO 1 _ _ _ HO3.out
              by_cases h400 : cap < 400
              · have e4 : decide (cap < 400) = true := by simpa using h400
                have hoc : cap % 400 + 1 ≠ cap := by omega
                have Hoc := Lib.hid hoc
                clear h400 hoc
                go_wp2_with fail
                clear t0 t1 o0 o1 e4
                refine (rob_put_bad (v : Int) (cap % 400 + 1) a c n cs wo2 HR3.out HT3.out.mat Hn.out (by omega) Hx.out (.inr (.inr (.inr (by rw [HPQ.out.size]; exact Hoc.out))))).mono ?_
                rintro e wo3 ⟨rfl, hbq⟩
                have HR4 := Lib.hid (HR3.out.ext hbq)
                have HB4 := Lib.hid (bthen HB3.out hbq (Nat.le_refl _))
                have HT4 := Lib.hid (HT3.out.ext hbq)
                clear hbq
                go_wp2_with fail
                go_loopw [21, 22, 23] (fun i _ _ wr => ∃ (k : Nat) (wb : World), wb = wr ∧ k ≤ nv ∧ i = .int .i64 (k : Int) ∧ Below wo3.heap.size wo3 wb) (fun i _ _ _ => nv - (intOf i).toNat)
                case atStart => exact ⟨0, wo3, rfl, by omega, rfl, Below.refl _ _⟩
                case round =>
                  obtain ⟨k, wb, hwb, hk0, rfl, hbb⟩ := hrel
                  subst hwb
                  have HRb := Lib.hid (HR4.out.ext hbb)
                  have HBb := Lib.hid (bthen HB4.out hbb (Nat.le_refl _))
                  have HTb := Lib.hid (HT4.out.ext hbb)
                  have Hbb := Lib.hid hbb
                  clear hbb
                  by_cases hkk : k < nv
                  · obtain ⟨MK, hMK⟩ : ∃ M, M = TQ k := ⟨_, rfl⟩
                    have HTP : Hid (SQ.tape k = MK) := Lib.hid (by rw [hMK]; exact HPQ.out.tape k hkk)
                    have HMK := Lib.hid hMK
                    clear hMK
                    go_wp2_with fail
                    refine (rob_medium k MK wb HRb.out (by rw [HPQ.out.vols]; exact hkk) HTP.out).mono ?_
                    rintro e wz ⟨aX, kX, cX, csX, rfl, hMX, hcX, hbX⟩
                    obtain ⟨hTX, hSX⟩ := TapeO.new MK.cap rfl hMX hcX
                    have hzX := heap_alloc_new wz (.cells #[.int .i64 0, .slice none 0 0] 24)
                    have hbyX := bthen hbX hSX (Nat.le_refl _)
                    have HONE : Hid (MK = one1 cap k) := Lib.hid (by rw [HMK.out, HTQ.out])
                    by_cases hkv : k = v
                    · have ekv : ((k : Int) == (v : Int)) = true := by rw [hkv]; exact beq_self_eq_true _
                      clear hkv
                      go_wp2_with (refine wpList_store_row rfl rfl 24 (.tmp 22) (.tmp 176) rfl wz.heap.size rfl 24 #[.int .i64 0, .slice none 0 0] #[.int .i64 MK.cap, .slice aX kX cX] rfl hzX rfl (by kernel_rfl) (by simp [Value.oneCell']) ?_
                                   clear hzX hMX hbX hSX
                                   generalize (wz.alloc (.cells #[.int .i64 0, .slice none 0 0] 24)).setRow wz.heap.size #[.int .i64 MK.cap, .slice aX kX cX] = wx2 at *
                                   generalize wz.heap.size = GX at *
                                   have HTX := Lib.hid hTX
                                   have Hb2 := Lib.hid (bthen Hbb.out hbyX (Nat.le_refl _))
                                   have HT5 := Lib.hid (HTb.out.ext hbyX)
                                   clear hTX hbyX
                                   obtain ⟨x0, x1⟩ := HTX.out.box.cells
                                   obtain ⟨t0, t1⟩ := HT5.out.box.cells
                                   dsimp only at t0 t1
                                   have hkX : kX = 1 := by
                                     have h1 := HTX.out.r.len
                                     have h2 : csX.length = 1 := by rw [← pls_length, HTX.out.r.pls, HONE.out]; rfl
                                     omega
                                   subst hkX
                                   have hc0 : 0 < csX.length := by rw [HTX.out.r.len]; decide
                                   obtain ⟨xb, xo, rfl, hlb, hat⟩ := HTX.out.r.mat.src.elem CellV.len (by decide) hc0
                                   have hpl : csX[0].pl = ⟨1, [BitVec.ofNat 8 k], false⟩ := by
                                     have h1 : (pls csX)[0]? = some csX[0].pl := pls_get0 hc0
                                     rw [HTX.out.r.pls, HONE.out] at h1
                                     exact (Option.some.inj h1).symm
                                   have hbd := HTX.out.r.mat.row csX[0] (List.getElem_mem hc0)
                                   have q1 := hat 0 hc0 1 _ rfl
                                   generalize csX[0] = xx at *
                                   obtain ⟨kd, ⟨xa, xc, xl⟩, bd⟩ := xx
                                   have hxl : xl = [BitVec.ofNat 8 k] := congrArg CellP.data hpl
                                   subst hxl
                                   have q1o := q1
                                   have q1 : wx2.cell? ⟨xb, xo + 1, none⟩ = some (.slice xa 1 xc) := by
                                     have := q1
                                     rw [Nat.zero_mul, Nat.add_zero] at this
                                     exact this
                                   have HSX := Lib.hid hbd.1
                                   clear hat hpl hbd
                                   have hbv1 : bvs [BitVec.ofNat 8 k] = [.int .u8 (k : Int)] := by simp [bvs, u8v, BitVec.toNat_ofNat, Nat.mod_eq_of_lt (show k < 256 by omega)]
                                   have hbT := ext_alloc wx2 (.cells #[.int .u8 (k : Int)] 5)
                                   have hsT : Src (wx2.alloc (.cells #[.int .u8 (k : Int)] 5)) (some ⟨wx2.heap.size, 0, none⟩) [.int .u8 (k : Int)] := src_new wx2 _ _
                                   have HST := Lib.hid hsT
                                   have Hbv1 := Lib.hid hbv1
                                   have Hb3 := Lib.hid (bthen Hb2.out hbT (Nat.le_refl _))
                                   have HSX2 := Lib.hid (HSX.out.ext hbT)
                                   clear hsT hbT hbv1)
                      refine (bytes_at xa xc [BitVec.ofNat 8 k] (some ⟨wx2.heap.size, 0, none⟩) 1 [BitVec.ofNat 8 k] _ 1 1 true HSX2.out (by rw [Hbv1.out]; exact HST.out) rfl rfl (by decide) (by decide) (by simp)).mono ?_
                      rintro e wc ⟨rfl, nd2, rfl⟩
                      have Hb4 := Lib.hid (bthen Hb3.out (ext_drewN _ nd2 _) (Nat.le_refl _))
                      clear q1 q1o x0 x1 t0 t1
                      go_wp2_with fail
                      go_roundw
                      case rel => exact ⟨k + 1, _, rfl, by omega, by go_num, Hb4.out⟩
                      case measure => simp [intOf]; omega
                    · have ekv : ((k : Int) == (v : Int)) = false := by simp; omega
                      clear hkv
                      go_wp2_with (refine wpList_store_row rfl rfl 24 (.tmp 22) (.tmp 176) rfl wz.heap.size rfl 24 #[.int .i64 0, .slice none 0 0] #[.int .i64 MK.cap, .slice aX kX cX] rfl hzX rfl (by kernel_rfl) (by simp [Value.oneCell']) ?_
                                   clear hzX hMX hbX hSX
                                   generalize (wz.alloc (.cells #[.int .i64 0, .slice none 0 0] 24)).setRow wz.heap.size #[.int .i64 MK.cap, .slice aX kX cX] = wx2 at *
                                   generalize wz.heap.size = GX at *
                                   have HTX := Lib.hid hTX
                                   have Hb2 := Lib.hid (bthen Hbb.out hbyX (Nat.le_refl _))
                                   have HT5 := Lib.hid (HTb.out.ext hbyX)
                                   clear hTX hbyX
                                   obtain ⟨x0, x1⟩ := HTX.out.box.cells
                                   obtain ⟨t0, t1⟩ := HT5.out.box.cells
                                   dsimp only at t0 t1
                                   have hkX : kX = 1 := by
                                     have h1 := HTX.out.r.len
                                     have h2 : csX.length = 1 := by rw [← pls_length, HTX.out.r.pls, HONE.out]; rfl
                                     omega
                                   subst hkX
                                   have hc0 : 0 < csX.length := by rw [HTX.out.r.len]; decide
                                   obtain ⟨xb, xo, rfl, hlb, hat⟩ := HTX.out.r.mat.src.elem CellV.len (by decide) hc0
                                   have hpl : csX[0].pl = ⟨1, [BitVec.ofNat 8 k], false⟩ := by
                                     have h1 : (pls csX)[0]? = some csX[0].pl := pls_get0 hc0
                                     rw [HTX.out.r.pls, HONE.out] at h1
                                     exact (Option.some.inj h1).symm
                                   have hbd := HTX.out.r.mat.row csX[0] (List.getElem_mem hc0)
                                   have q1 := hat 0 hc0 1 _ rfl
                                   generalize csX[0] = xx at *
                                   obtain ⟨kd, ⟨xa, xc, xl⟩, bd⟩ := xx
                                   have hxl : xl = [BitVec.ofNat 8 k] := congrArg CellP.data hpl
                                   subst hxl
                                   have q1o := q1
                                   have q1 : wx2.cell? ⟨xb, xo + 1, none⟩ = some (.slice xa 1 xc) := by
                                     have := q1
                                     rw [Nat.zero_mul, Nat.add_zero] at this
                                     exact this
                                   have HSX := Lib.hid hbd.1
                                   clear hat hpl hbd
                                   have hbv1 : bvs [BitVec.ofNat 8 k] = [.int .u8 (k : Int)] := by simp [bvs, u8v, BitVec.toNat_ofNat, Nat.mod_eq_of_lt (show k < 256 by omega)]
                                   have hbT := ext_alloc wx2 (.cells #[.int .u8 (k : Int)] 5)
                                   have hsT : Src (wx2.alloc (.cells #[.int .u8 (k : Int)] 5)) (some ⟨wx2.heap.size, 0, none⟩) [.int .u8 (k : Int)] := src_new wx2 _ _
                                   have HST := Lib.hid hsT
                                   have Hbv1 := Lib.hid hbv1
                                   have Hb3 := Lib.hid (bthen Hb2.out hbT (Nat.le_refl _))
                                   have HSX2 := Lib.hid (HSX.out.ext hbT)
                                   clear hsT hbT hbv1)
                      refine (bytes_at xa xc [BitVec.ofNat 8 k] (some ⟨wx2.heap.size, 0, none⟩) 1 [BitVec.ofNat 8 k] _ 1 1 true HSX2.out (by rw [Hbv1.out]; exact HST.out) rfl rfl (by decide) (by decide) (by simp)).mono ?_
                      rintro e wc ⟨rfl, nd2, rfl⟩
                      have Hb4 := Lib.hid (bthen Hb3.out (ext_drewN _ nd2 _) (Nat.le_refl _))
                      clear q1 q1o x0 x1 t0 t1
                      go_wp2_with fail
                      go_roundw
                      case rel => exact ⟨k + 1, _, rfl, by omega, by go_num, Hb4.out⟩
                      case measure => simp [intOf]; omega
                  · obtain rfl : nv = k := by omega
                    have HBF0 := Lib.hid (HB1.out.trans (HBb.out.mono (Nat.le_of_lt hlow)))
                    obtain ⟨⟨S9, i9⟩, hr9⟩ : ∃ y, y = SQ.mount v := ⟨_, rfl⟩
                    have HR9 := Lib.hid hr9.symm
                    clear hr9
                    go_wp2_with fail
                    refine (rob_mountP HR9.out wb HRb.out (Up.all HBb.out.size) rfl (by rw [HPQ.out.vols]; exact hvn) (by rw [HPQ.out.asked]; omega)).mono ?_
                    rintro e w9 ⟨d9, D9, rfl, hdi9, hR9, hm9⟩
                    have HDI9 := Lib.hid hdi9
                    have HRR9 := Lib.hid hR9
                    have HB9 := Lib.hid (HBF0.out.trans ((hm9.below (fun b T h => h.1) HBb.out.size).mono (Nat.le_of_lt hlow)))
                    clear hdi9 hR9 hm9
                    go_wp2_with fail
                    refine (wakes13_any w9).mono ?_
                    rintro e wA ⟨rfl, hbA⟩
                    have HBA := Lib.hid (bthen HB9.out hbA (Nat.le_refl _))
                    clear hbA
                    go_wp2
                    go_ret
                    exact ⟨rfl, HBA.out⟩
              · have e4 : decide (cap < 400) = false := by simpa using h400
                have HR4 := HR3
                have HB4 := HB3
                have HT4 := HT3
                obtain ⟨wo3, hwo3⟩ : ∃ w, w = wo2 := ⟨_, rfl⟩
                clear h400
                go_wp2_with fail
                clear t0 t1 o0 o1 e4
                rw [← hwo3] at HR4 HB4 HT4 ⊢
                clear hwo3
                go_loopw [21, 22, 23] (fun i _ _ wr => ∃ (k : Nat) (wb : World), wb = wr ∧ k ≤ nv ∧ i = .int .i64 (k : Int) ∧ Below wo3.heap.size wo3 wb) (fun i _ _ _ => nv - (intOf i).toNat)
                case atStart => exact ⟨0, wo3, rfl, by omega, rfl, Below.refl _ _⟩
                case round =>
                  obtain ⟨k, wb, hwb, hk0, rfl, hbb⟩ := hrel
                  subst hwb
                  have HRb := Lib.hid (HR4.out.ext hbb)
                  have HBb := Lib.hid (bthen HB4.out hbb (Nat.le_refl _))
                  have HTb := Lib.hid (HT4.out.ext hbb)
                  have Hbb := Lib.hid hbb
                  clear hbb
                  by_cases hkk : k < nv
                  · obtain ⟨MK, hMK⟩ : ∃ M, M = TQ k := ⟨_, rfl⟩
                    have HTP : Hid (SQ.tape k = MK) := Lib.hid (by rw [hMK]; exact HPQ.out.tape k hkk)
                    have HMK := Lib.hid hMK
                    clear hMK
                    go_wp2_with fail
                    refine (rob_medium k MK wb HRb.out (by rw [HPQ.out.vols]; exact hkk) HTP.out).mono ?_
                    rintro e wz ⟨aX, kX, cX, csX, rfl, hMX, hcX, hbX⟩
                    obtain ⟨hTX, hSX⟩ := TapeO.new MK.cap rfl hMX hcX
                    have hzX := heap_alloc_new wz (.cells #[.int .i64 0, .slice none 0 0] 24)
                    have hbyX := bthen hbX hSX (Nat.le_refl _)
                    have HONE : Hid (MK = one1 cap k) := Lib.hid (by rw [HMK.out, HTQ.out])
                    by_cases hkv : k = v
                    · have ekv : ((k : Int) == (v : Int)) = true := by rw [hkv]; exact beq_self_eq_true _
                      clear hkv
                      go_wp2_with (refine wpList_store_row rfl rfl 24 (.tmp 22) (.tmp 176) rfl wz.heap.size rfl 24 #[.int .i64 0, .slice none 0 0] #[.int .i64 MK.cap, .slice aX kX cX] rfl hzX rfl (by kernel_rfl) (by simp [Value.oneCell']) ?_
                                   clear hzX hMX hbX hSX
                                   generalize (wz.alloc (.cells #[.int .i64 0, .slice none 0 0] 24)).setRow wz.heap.size #[.int .i64 MK.cap, .slice aX kX cX] = wx2 at *
                                   generalize wz.heap.size = GX at *
                                   have HTX := Lib.hid hTX
                                   have Hb2 := Lib.hid (bthen Hbb.out hbyX (Nat.le_refl _))
                                   have HT5 := Lib.hid (HTb.out.ext hbyX)
                                   clear hTX hbyX
                                   obtain ⟨x0, x1⟩ := HTX.out.box.cells
                                   obtain ⟨t0, t1⟩ := HT5.out.box.cells
                                   dsimp only at t0 t1
                                   have hkX : kX = 1 := by
                                     have h1 := HTX.out.r.len
                                     have h2 : csX.length = 1 := by rw [← pls_length, HTX.out.r.pls, HONE.out]; rfl
                                     omega
                                   subst hkX
                                   have hc0 : 0 < csX.length := by rw [HTX.out.r.len]; decide
                                   obtain ⟨xb, xo, rfl, hlb, hat⟩ := HTX.out.r.mat.src.elem CellV.len (by decide) hc0
                                   have hpl : csX[0].pl = ⟨1, [BitVec.ofNat 8 k], false⟩ := by
                                     have h1 : (pls csX)[0]? = some csX[0].pl := pls_get0 hc0
                                     rw [HTX.out.r.pls, HONE.out] at h1
                                     exact (Option.some.inj h1).symm
                                   have hbd := HTX.out.r.mat.row csX[0] (List.getElem_mem hc0)
                                   have q1 := hat 0 hc0 1 _ rfl
                                   generalize csX[0] = xx at *
                                   obtain ⟨kd, ⟨xa, xc, xl⟩, bd⟩ := xx
                                   have hxl : xl = [BitVec.ofNat 8 k] := congrArg CellP.data hpl
                                   subst hxl
                                   have q1o := q1
                                   have q1 : wx2.cell? ⟨xb, xo + 1, none⟩ = some (.slice xa 1 xc) := by
                                     have := q1
                                     rw [Nat.zero_mul, Nat.add_zero] at this
                                     exact this
                                   have HSX := Lib.hid hbd.1
                                   clear hat hpl hbd
                                   have hbv1 : bvs [BitVec.ofNat 8 k] = [.int .u8 (k : Int)] := by simp [bvs, u8v, BitVec.toNat_ofNat, Nat.mod_eq_of_lt (show k < 256 by omega)]
                                   have hbT := ext_alloc wx2 (.cells #[.int .u8 (k : Int)] 5)
                                   have hsT : Src (wx2.alloc (.cells #[.int .u8 (k : Int)] 5)) (some ⟨wx2.heap.size, 0, none⟩) [.int .u8 (k : Int)] := src_new wx2 _ _
                                   have HST := Lib.hid hsT
                                   have Hbv1 := Lib.hid hbv1
                                   have Hb3 := Lib.hid (bthen Hb2.out hbT (Nat.le_refl _))
                                   have HSX2 := Lib.hid (HSX.out.ext hbT)
                                   clear hsT hbT hbv1)
                      refine (bytes_at xa xc [BitVec.ofNat 8 k] (some ⟨wx2.heap.size, 0, none⟩) 1 [BitVec.ofNat 8 k] _ 1 1 true HSX2.out (by rw [Hbv1.out]; exact HST.out) rfl rfl (by decide) (by decide) (by simp)).mono ?_
                      rintro e wc ⟨rfl, nd2, rfl⟩
                      have Hb4 := Lib.hid (bthen Hb3.out (ext_drewN _ nd2 _) (Nat.le_refl _))
                      clear q1 q1o x0 x1 t0 t1
                      go_wp2_with fail
                      go_roundw
                      case rel => exact ⟨k + 1, _, rfl, by omega, by go_num, Hb4.out⟩
                      case measure => simp [intOf]; omega
                    · have ekv : ((k : Int) == (v : Int)) = false := by simp; omega
                      clear hkv
                      go_wp2_with (refine wpList_store_row rfl rfl 24 (.tmp 22) (.tmp 176) rfl wz.heap.size rfl 24 #[.int .i64 0, .slice none 0 0] #[.int .i64 MK.cap, .slice aX kX cX] rfl hzX rfl (by kernel_rfl) (by simp [Value.oneCell']) ?_
                                   clear hzX hMX hbX hSX
                                   generalize (wz.alloc (.cells #[.int .i64 0, .slice none 0 0] 24)).setRow wz.heap.size #[.int .i64 MK.cap, .slice aX kX cX] = wx2 at *
                                   generalize wz.heap.size = GX at *
                                   have HTX := Lib.hid hTX
                                   have Hb2 := Lib.hid (bthen Hbb.out hbyX (Nat.le_refl _))
                                   have HT5 := Lib.hid (HTb.out.ext hbyX)
                                   clear hTX hbyX
                                   obtain ⟨x0, x1⟩ := HTX.out.box.cells
                                   obtain ⟨t0, t1⟩ := HT5.out.box.cells
                                   dsimp only at t0 t1
                                   have hkX : kX = 1 := by
                                     have h1 := HTX.out.r.len
                                     have h2 : csX.length = 1 := by rw [← pls_length, HTX.out.r.pls, HONE.out]; rfl
                                     omega
                                   subst hkX
                                   have hc0 : 0 < csX.length := by rw [HTX.out.r.len]; decide
                                   obtain ⟨xb, xo, rfl, hlb, hat⟩ := HTX.out.r.mat.src.elem CellV.len (by decide) hc0
                                   have hpl : csX[0].pl = ⟨1, [BitVec.ofNat 8 k], false⟩ := by
                                     have h1 : (pls csX)[0]? = some csX[0].pl := pls_get0 hc0
                                     rw [HTX.out.r.pls, HONE.out] at h1
                                     exact (Option.some.inj h1).symm
                                   have hbd := HTX.out.r.mat.row csX[0] (List.getElem_mem hc0)
                                   have q1 := hat 0 hc0 1 _ rfl
                                   generalize csX[0] = xx at *
                                   obtain ⟨kd, ⟨xa, xc, xl⟩, bd⟩ := xx
                                   have hxl : xl = [BitVec.ofNat 8 k] := congrArg CellP.data hpl
                                   subst hxl
                                   have q1o := q1
                                   have q1 : wx2.cell? ⟨xb, xo + 1, none⟩ = some (.slice xa 1 xc) := by
                                     have := q1
                                     rw [Nat.zero_mul, Nat.add_zero] at this
                                     exact this
                                   have HSX := Lib.hid hbd.1
                                   clear hat hpl hbd
                                   have hbv1 : bvs [BitVec.ofNat 8 k] = [.int .u8 (k : Int)] := by simp [bvs, u8v, BitVec.toNat_ofNat, Nat.mod_eq_of_lt (show k < 256 by omega)]
                                   have hbT := ext_alloc wx2 (.cells #[.int .u8 (k : Int)] 5)
                                   have hsT : Src (wx2.alloc (.cells #[.int .u8 (k : Int)] 5)) (some ⟨wx2.heap.size, 0, none⟩) [.int .u8 (k : Int)] := src_new wx2 _ _
                                   have HST := Lib.hid hsT
                                   have Hbv1 := Lib.hid hbv1
                                   have Hb3 := Lib.hid (bthen Hb2.out hbT (Nat.le_refl _))
                                   have HSX2 := Lib.hid (HSX.out.ext hbT)
                                   clear hsT hbT hbv1)
                      refine (bytes_at xa xc [BitVec.ofNat 8 k] (some ⟨wx2.heap.size, 0, none⟩) 1 [BitVec.ofNat 8 k] _ 1 1 true HSX2.out (by rw [Hbv1.out]; exact HST.out) rfl rfl (by decide) (by decide) (by simp)).mono ?_
                      rintro e wc ⟨rfl, nd2, rfl⟩
                      have Hb4 := Lib.hid (bthen Hb3.out (ext_drewN _ nd2 _) (Nat.le_refl _))
                      clear q1 q1o x0 x1 t0 t1
                      go_wp2_with fail
                      go_roundw
                      case rel => exact ⟨k + 1, _, rfl, by omega, by go_num, Hb4.out⟩
                      case measure => simp [intOf]; omega
                  · obtain rfl : nv = k := by omega
                    have HBF0 := Lib.hid (HB1.out.trans (HBb.out.mono (Nat.le_of_lt hlow)))
                    obtain ⟨⟨S9, i9⟩, hr9⟩ : ∃ y, y = SQ.mount v := ⟨_, rfl⟩
                    have HR9 := Lib.hid hr9.symm
                    clear hr9
                    go_wp2_with fail
                    refine (rob_mountP HR9.out wb HRb.out (Up.all HBb.out.size) rfl (by rw [HPQ.out.vols]; exact hvn) (by rw [HPQ.out.asked]; omega)).mono ?_
                    rintro e w9 ⟨d9, D9, rfl, hdi9, hR9, hm9⟩
                    have HDI9 := Lib.hid hdi9
                    have HRR9 := Lib.hid hR9
                    have HB9 := Lib.hid (HBF0.out.trans ((hm9.below (fun b T h => h.1) HBb.out.size).mono (Nat.le_of_lt hlow)))
                    clear hdi9 hR9 hm9
                    go_wp2_with fail
                    refine (wakes13_any w9).mono ?_
                    rintro e wA ⟨rfl, hbA⟩
                    have HBA := Lib.hid (bthen HB9.out hbA (Nat.le_refl _))
                    clear hbA
                    go_wp2
                    go_ret
                    exact ⟨rfl, HBA.out⟩
end Go.Proofs.Ytnbpcdnpdcfiiaa
