/- The walk of MediumExact. -/
import Derived.Test.YtilmldkaagbofaaOwnMods
import Derived.Test.YtilmldkaagbofaaFileNeg
import Derived.Test.YtilmldkaagbofaaRefTear
import Derived.Test.YtilmldkaagbofaaRefFlip
import Derived.Test.YtilmldkaagbofaaMedEnd
import Derived.Test.YtilmldkaagbofaaMedTear
namespace Go.Proofs.Ytilmldkaagbofaa
open Go.RowKit

set_option maxRecDepth 100000 in
set_option maxHeartbeats 32000000 in
theorem mediumExact_walk (w : World) (cap : Int) (a : Option Addr) (c : Nat) (cs : List CellV) (hs : CMat w a cs) (hl : cs.length ≤ 9223372036854775807) (hlc : cs.length ≤ c) (pI : Int) (wp : (Lit.int .i64 pI).wf = true) (ab : Option Addr) (cb : Nat) (lb : List Byte) (hsb : Src w ab (bvs lb)) (hlb : lb.length ≤ 9223372036854775807) (klb : lb.length ≤ cb) (keep : Int) (wk : (Lit.int .i64 keep).wf = true) (nI : Int) (wn : (Lit.int .i64 nI).wf = true) (bI : Int) (wb : (Lit.int .i64 bI).wf = true) :
    Calls Try.prog 8 #[.agg #[.int .i64 cap, .slice a cs.length c], .int .i64 pI, .slice ab lb.length cb, .int .i64 keep, .int .i64 nI, .int .i64 bI] w fun e w' => e = .returned (.bool true) ∧ Below w.heap.size w w' := by
  have Hs := Lib.hid hs
  obtain ⟨n, hn⟩ : ∃ n, n = cs.length := ⟨_, rfl⟩
  obtain ⟨bn, hbn⟩ : ∃ n, n = lb.length := ⟨_, rfl⟩
  rw [← hn, ← hbn]
  have Hn := Lib.hid hn
  have Hbn := Lib.hid hbn
  have Hcb : Hid (bn ≤ cb) := Lib.hid (by omega)
  have hn2 : n ≤ 9223372036854775807 := by omega
  have hbn2 : bn ≤ 9223372036854775807 := by omega
  have hN : -9223372036854775808 ≤ nI ∧ nI ≤ 9223372036854775807 := by
    simpa [Lit.wf, IntKind.min, IntKind.max, IntKind.signed, IntKind.bits] using wn
  have hN0 := hN.1
  have hN1 := hN.2
  have hb1 := ext_alloc w (.cells #[.int .i64 cap, .slice a n c] 32)
  have hT : TapeAt (w.alloc (.cells #[.int .i64 cap, .slice a n c] 32)) w.heap.size ⟨cap, pls cs⟩ a n c cs := ⟨heap_alloc_new w _, hs.ext hb1, hn, rfl, by omega⟩
  have Hb0 := Lib.hid hsb
  clear hs hl hn hlc wp hsb hlb klb hbn wk wn wb hN
  go_enter Try.func8, Try.ntmps8
  go_wp2_with fail
  refine (heavy07 cap a c n cs _ hT.mat Hn.out hn2).mono ?_
  rintro e w2 (⟨rfl, hb2⟩ | ⟨rfl, hb2, hlight⟩)
  · go_wp2
    go_ret
    exact ⟨rfl, bthen hb1 hb2 (Nat.le_refl _)⟩
  have HB := Lib.hid (bthen hb1 hb2 (Nat.le_refl _))
  have T6 := Lib.hid (hT.ext hb2)
  have Hli := Lib.hid hlight
  clear hT hb1 hb2 hlight
  by_cases h300 : 300 < bn
  · go_wp2
    go_ret
    exact ⟨rfl, HB.out⟩
  have hnn : n ≤ 80 := by rw [Hn.out]; exact Hli.out.1
  have Hx : Hid (∀ x ∈ cs, x.d.l.length ≤ 140737488355328) := Lib.hid fun x hx => by have := Hli.out.2 x hx; omega
  obtain ⟨d0, d1⟩ := T6.out.box.cells
  dsimp only at d0 d1
  go_wp2_with fail
  clear d0 d1
  refine (twinmed_any cap a c n cs w2 T6.out.mat Hn.out (by omega) Hx.out).mono ?_
  rintro e w3 ⟨aI, cI, csI, rfl, hlI, hoI, hpI, hb⟩
  have hMI : MedR w3 w2.heap.size ⟨cap, pls cs⟩ aI n cI csI := ⟨hoI, hlI, hpI⟩
  have HMI := Lib.hid hMI
  have HcI : Hid (n ≤ cI) := Lib.hid (by have := hoI.row.len.1; rw [hlI] at this; exact this)
  clear hlI hoI hpI hMI
  have HB' := Lib.hid (bthen HB.out hb (Nat.le_refl _))
  have T6' := Lib.hid (T6.out.ext hb)
  clear hb HB T6
  have HB := HB'
  have T6 := T6'
  clear HB' T6'
  have HS := Lib.hid (Hb0.out.ext HB.out)
  go_wp2_with fail
  refine (twin_at ab cb bn lb w3 HS.out Hbn.out (by omega)).mono ?_
  rintro e w4 ⟨aX, cX, rfl, hoX, hb⟩
  have HXo := Lib.hid hoX
  have HMI' := Lib.hid (HMI.out.ext hb)
  clear hoX HMI
  have HB' := Lib.hid (bthen HB.out hb (Nat.le_refl _))
  have T6' := Lib.hid (T6.out.ext hb)
  have HS' := Lib.hid (HS.out.ext hb)
  clear hb HB T6 HS
  have HB := HB'
  have T6 := T6'
  have HS := HS'
  clear HB' T6' HS'
  obtain ⟨hT, hS⟩ := TapeO.new cap rfl HMI'.out HcI.out
  have TI := Lib.hid hT
  have HXc : Hid (bn ≤ cX) := Lib.hid HXo.out.len.1
  have HX := Lib.hid (HXo.out.src.ext hS)
  clear HMI' hT HXo
  have HB' := Lib.hid (bthen HB.out hS (Nat.le_refl _))
  have T6' := Lib.hid (T6.out.ext hS)
  have HS' := Lib.hid (HS.out.ext hS)
  clear hS HB T6 HS
  have HB := HB'
  have T6 := T6'
  have HS := HS'
  clear HB' T6' HS'
  have HmI : Hid (medOf cap csI = medOf cap cs) := Lib.hid TI.out.r.of
  have HshI : Hid (∀ x ∈ csI, x.d.l.length ≤ 140737488355328) := Lib.hid (TI.out.at.short (K := 140737488355328) (fun c hc => by
    obtain ⟨y, hy, rfl⟩ := List.mem_map.1 hc
    exact Hx.out y hy))
  obtain ⟨d0, d1⟩ := T6.out.box.cells
  dsimp only at d0 d1
  go_wp2_with (refine wpList_store_row rfl rfl 32 (.tmp 13) (.tmp 56) rfl w4.heap.size rfl 32 #[.int .i64 0, .slice none 0 0] #[.int .i64 cap, .slice aI n cI] rfl (heap_alloc_new w4 _) rfl (by kernel_rfl) (by simp [Value.oneCell']) ?_)
  clear d0 d1
  generalize hwx : World.setRow _ _ _ = w5 at *
  generalize w4.heap.size = GI at *
  clear hwx
  obtain ⟨ok, hok⟩ : ∃ b, b = (medOf cap cs).ok := ⟨_, rfl⟩
  have HokE := Lib.hid hok
  refine (refmed_any cap a c n cs ok w5 T6.out.mat Hn.out hn2 hok.symm).mono ?_
  rintro e w6 ⟨rfl, hb⟩
  clear hok
  have HB' := Lib.hid (bthen HB.out hb (Nat.le_refl _))
  have T6' := Lib.hid (T6.out.ext hb)
  have TI' := Lib.hid (TI.out.ext hb)
  have HX' := Lib.hid (HX.out.ext hb)
  have HS' := Lib.hid (HS.out.ext hb)
  clear hb HB T6 TI HX HS
  have HB := HB'
  have T6 := T6'
  have TI := TI'
  have HX := HX'
  have HS := HS'
  clear HB' T6' TI' HX' HS'
  have TI0 := TI
  have T60 := T6
  have HB6 := HB
  have HB5 := Lib.hid (Below.refl w6.heap.size w6)
  obtain ⟨⟨MW, EW⟩, hq⟩ : ∃ x : Med × Int, x = (medOf cap cs).write pI lb := ⟨_, rfl⟩
  have HW := Lib.hid hq.symm
  clear hq
  obtain ⟨⟨MQ, EQ⟩, hq⟩ : ∃ x : Med × Int, x = (medOf cap cs).tear pI lb keep := ⟨_, rfl⟩
  have HQ := Lib.hid hq.symm
  clear hq
  obtain ⟨⟨MK, EK⟩, hq⟩ : ∃ x : Med × Int, x = (medOf cap cs).mark pI := ⟨_, rfl⟩
  have HK := Lib.hid hq.symm
  clear hq
  obtain ⟨⟨MD, ED⟩, hq⟩ : ∃ x : Med × Int, x = (medOf cap cs).end_ pI := ⟨_, rfl⟩
  have HD := Lib.hid hq.symm
  clear hq
  obtain ⟨⟨R1, ER⟩, hq⟩ : ∃ x : List Byte × Int, x = (medOf cap cs).read pI := ⟨_, rfl⟩
  have HR := Lib.hid hq.symm
  clear hq
  obtain ⟨⟨F1, EF⟩, hq⟩ : ∃ x : Int × Int, x = (medOf cap cs).file nI := ⟨_, rfl⟩
  have HF := Lib.hid hq.symm
  clear hq
  obtain ⟨⟨MS, ES⟩, hq⟩ : ∃ x : Med × Int, x = (medOf cap cs).spoil pI := ⟨_, rfl⟩
  have HSp := Lib.hid hq.symm
  clear hq
  obtain ⟨⟨ML, EL⟩, hq⟩ : ∃ x : Med × Int, x = (medOf cap cs).flip pI bI := ⟨_, rfl⟩
  have HL := Lib.hid hq.symm
  clear hq
  obtain ⟨d0, d1⟩ := TI.out.box.cells
  dsimp only at d0 d1
  go_wp2_with fail
  clear d0 d1
  refine (write_any cap aI cI n csI pI aX bn cX lb MW EW _ TI.out.r.mat TI.out.r.len.symm (by omega) HshI.out TI.out.cap HX.out Hbn.out (by omega) (by rw [HmI.out]; exact HW.out)).mono ?_
  rintro e wq ⟨aW, cW, kW, csW, rfl, hM, hc, hb⟩
  have HMW := Lib.hid hM
  have HNW := Lib.hid (hM.own.bnd hM.len)
  obtain ⟨hT, hS⟩ := TapeO.new _ rfl hM hc
  have hbb := bthen hb hS (Nat.le_refl _)
  have TW := Lib.hid hT
  have HB' := Lib.hid (bthen HB.out hbb (Nat.le_refl _))
  have HB5' := Lib.hid (bthen HB5.out hbb (Nat.le_refl _))
  have T6' := Lib.hid (T6.out.ext hbb)
  have TI' := Lib.hid (TI.out.ext hbb)
  have HX' := Lib.hid (HX.out.ext hbb)
  have HS' := Lib.hid (HS.out.ext hbb)
  clear hbb hb HB HB5 T6 TI HX HS hM hc hT hS
  have HB := HB'
  have HB5 := HB5'
  have T6 := T6'
  have TI := TI'
  have HX := HX'
  have HS := HS'
  clear HB' HB5' T6' TI' HX' HS'
  obtain ⟨d0, d1⟩ := TI.out.box.cells
  dsimp only at d0 d1
  go_wp2_with (refine wpList_store_row rfl rfl 32 (.tmp 16) (.tmp 66) rfl wq.heap.size rfl 32 #[.int .i64 0, .slice none 0 0] #[.int .i64 MW.cap, .slice aW kW cW] rfl (heap_alloc_new wq _) rfl (by kernel_rfl) (by simp [Value.oneCell']) ?_)
  clear d0 d1
  generalize hwx : World.setRow _ _ _ = wn at *
  generalize wq.heap.size = GW at *
  clear hwx
  refine (tear_any cap aI cI n csI pI aX bn cX lb keep MQ EQ _ TI.out.r.mat TI.out.r.len.symm (by omega) HshI.out TI.out.cap HX.out Hbn.out (by omega) HXc.out (by rw [HmI.out]; exact HQ.out)).mono ?_
  rintro e wq ⟨aQ, cQ, kQ, csQ, rfl, hM, hc, hb⟩
  obtain ⟨hT, hS⟩ := TapeO.new _ rfl hM hc
  have hbb := bthen hb hS (Nat.le_refl _)
  have TQ := Lib.hid hT
  have HB' := Lib.hid (bthen HB.out hbb (Nat.le_refl _))
  have HB5' := Lib.hid (bthen HB5.out hbb (Nat.le_refl _))
  have T6' := Lib.hid (T6.out.ext hbb)
  have TI' := Lib.hid (TI.out.ext hbb)
  have HX' := Lib.hid (HX.out.ext hbb)
  have HS' := Lib.hid (HS.out.ext hbb)
  have TW' := Lib.hid (TW.out.ext hbb)
  clear hbb hb HB HB5 T6 TI HX HS TW hM hc hT hS
  have HB := HB'
  have HB5 := HB5'
  have T6 := T6'
  have TI := TI'
  have HX := HX'
  have HS := HS'
  have TW := TW'
  clear HB' HB5' T6' TI' HX' HS' TW'
  obtain ⟨d0, d1⟩ := TI.out.box.cells
  dsimp only at d0 d1
  go_wp2_with (refine wpList_store_row rfl rfl 32 (.tmp 18) (.tmp 74) rfl wq.heap.size rfl 32 #[.int .i64 0, .slice none 0 0] #[.int .i64 MQ.cap, .slice aQ kQ cQ] rfl (heap_alloc_new wq _) rfl (by kernel_rfl) (by simp [Value.oneCell']) ?_)
  clear d0 d1
  generalize hwx : World.setRow _ _ _ = wn at *
  generalize wq.heap.size = GQ at *
  clear hwx
  refine (mark_any cap aI cI n csI pI MK EK _ TI.out.r.mat TI.out.r.len.symm (by omega) HshI.out TI.out.cap (by rw [HmI.out]; exact HK.out)).mono ?_
  rintro e wq ⟨aK, cK, kK, csK, rfl, hM, hc, hb⟩
  obtain ⟨hT, hS⟩ := TapeO.new _ rfl hM hc
  have hbb := bthen hb hS (Nat.le_refl _)
  have TK := Lib.hid hT
  have HB' := Lib.hid (bthen HB.out hbb (Nat.le_refl _))
  have HB5' := Lib.hid (bthen HB5.out hbb (Nat.le_refl _))
  have T6' := Lib.hid (T6.out.ext hbb)
  have TI' := Lib.hid (TI.out.ext hbb)
  have HX' := Lib.hid (HX.out.ext hbb)
  have HS' := Lib.hid (HS.out.ext hbb)
  have TW' := Lib.hid (TW.out.ext hbb)
  have TQ' := Lib.hid (TQ.out.ext hbb)
  clear hbb hb HB HB5 T6 TI HX HS TW TQ hM hc hT hS
  have HB := HB'
  have HB5 := HB5'
  have T6 := T6'
  have TI := TI'
  have HX := HX'
  have HS := HS'
  have TW := TW'
  have TQ := TQ'
  clear HB' HB5' T6' TI' HX' HS' TW' TQ'
  obtain ⟨d0, d1⟩ := TI.out.box.cells
  dsimp only at d0 d1
  go_wp2_with (refine wpList_store_row rfl rfl 32 (.tmp 20) (.tmp 80) rfl wq.heap.size rfl 32 #[.int .i64 0, .slice none 0 0] #[.int .i64 MK.cap, .slice aK kK cK] rfl (heap_alloc_new wq _) rfl (by kernel_rfl) (by simp [Value.oneCell']) ?_)
  clear d0 d1
  generalize hwx : World.setRow _ _ _ = wn at *
  generalize wq.heap.size = GK at *
  clear hwx
  refine (end_any cap aI cI n csI pI MD ED _ TI.out.r.mat TI.out.r.len.symm (by omega) HshI.out TI.out.cap (by rw [HmI.out]; exact HD.out)).mono ?_
  rintro e wq ⟨aD, cD, kD, csD, rfl, hM, hc, hb⟩
  obtain ⟨hT, hS⟩ := TapeO.new _ rfl hM hc
  have hbb := bthen hb hS (Nat.le_refl _)
  have TD := Lib.hid hT
  have HB' := Lib.hid (bthen HB.out hbb (Nat.le_refl _))
  have HB5' := Lib.hid (bthen HB5.out hbb (Nat.le_refl _))
  have T6' := Lib.hid (T6.out.ext hbb)
  have TI' := Lib.hid (TI.out.ext hbb)
  have HX' := Lib.hid (HX.out.ext hbb)
  have HS' := Lib.hid (HS.out.ext hbb)
  have TW' := Lib.hid (TW.out.ext hbb)
  have TQ' := Lib.hid (TQ.out.ext hbb)
  have TK' := Lib.hid (TK.out.ext hbb)
  clear hbb hb HB HB5 T6 TI HX HS TW TQ TK hM hc hT hS
  have HB := HB'
  have HB5 := HB5'
  have T6 := T6'
  have TI := TI'
  have HX := HX'
  have HS := HS'
  have TW := TW'
  have TQ := TQ'
  have TK := TK'
  clear HB' HB5' T6' TI' HX' HS' TW' TQ' TK'
  obtain ⟨d0, d1⟩ := TI.out.box.cells
  dsimp only at d0 d1
  go_wp2_with (refine wpList_store_row rfl rfl 32 (.tmp 22) (.tmp 86) rfl wq.heap.size rfl 32 #[.int .i64 0, .slice none 0 0] #[.int .i64 MD.cap, .slice aD kD cD] rfl (heap_alloc_new wq _) rfl (by kernel_rfl) (by simp [Value.oneCell']) ?_)
  clear d0 d1
  generalize hwx : World.setRow _ _ _ = wn at *
  generalize wq.heap.size = GD at *
  clear hwx
  have HGWR := Lib.hid (heap_lt TW.out.box)
  have HB6R := Lib.hid HB5.out.size
  refine (read_any cap aI cI n csI pI R1 ER _ TI.out.r.mat TI.out.r.len.symm (by omega) HshI.out (by rw [HmI.out]; exact HR.out)).mono ?_
  rintro e wq ⟨aR, cR, kR, rfl, hk5, ho5, hb⟩
  have HRk := Lib.hid hk5
  have HRo := Lib.hid ho5
  have hbb := hb
  clear hk5 ho5
  have HRb := Lib.hid HRo.out.bnd
  have HBR0 := Lib.hid (Below.refl wq.heap.size wq)
  have HB' := Lib.hid (bthen HB.out hbb (Nat.le_refl _))
  have HB5' := Lib.hid (bthen HB5.out hbb (Nat.le_refl _))
  have T6' := Lib.hid (T6.out.ext hbb)
  have TI' := Lib.hid (TI.out.ext hbb)
  have HX' := Lib.hid (HX.out.ext hbb)
  have HS' := Lib.hid (HS.out.ext hbb)
  have TW' := Lib.hid (TW.out.ext hbb)
  have TQ' := Lib.hid (TQ.out.ext hbb)
  have TK' := Lib.hid (TK.out.ext hbb)
  have TD' := Lib.hid (TD.out.ext hbb)
  clear hbb hb HB HB5 T6 TI HX HS TW TQ TK TD 
  have HB := HB'
  have HB5 := HB5'
  have T6 := T6'
  have TI := TI'
  have HX := HX'
  have HS := HS'
  have TW := TW'
  have TQ := TQ'
  have TK := TK'
  have TD := TD'
  clear HB' HB5' T6' TI' HX' HS' TW' TQ' TK' TD'
  obtain ⟨d0, d1⟩ := TI.out.box.cells
  dsimp only at d0 d1
  go_wp2_with fail
  clear d0 d1
  have HBR := HBR0
  refine (filez_any cap aI cI n csI nI F1 EF _ TI.out.r.mat TI.out.r.len.symm (by omega) hN0 hN1 (by rw [HmI.out]; exact HF.out)).mono ?_
  rintro e wq ⟨rfl, hb⟩
  have hbb := hb
  have HB' := Lib.hid (bthen HB.out hbb (Nat.le_refl _))
  have HB5' := Lib.hid (bthen HB5.out hbb (Nat.le_refl _))
  have HBR' := Lib.hid (bthen HBR.out hbb (Nat.le_refl _))
  have T6' := Lib.hid (T6.out.ext hbb)
  have TI' := Lib.hid (TI.out.ext hbb)
  have HX' := Lib.hid (HX.out.ext hbb)
  have HS' := Lib.hid (HS.out.ext hbb)
  have TW' := Lib.hid (TW.out.ext hbb)
  have TQ' := Lib.hid (TQ.out.ext hbb)
  have TK' := Lib.hid (TK.out.ext hbb)
  have TD' := Lib.hid (TD.out.ext hbb)
  have HRo' := Lib.hid (HRo.out.ext hbb)
  clear hbb hb HB HB5 HBR T6 TI HX HS TW TQ TK TD HRo 
  have HB := HB'
  have HB5 := HB5'
  have HBR := HBR'
  have T6 := T6'
  have TI := TI'
  have HX := HX'
  have HS := HS'
  have TW := TW'
  have TQ := TQ'
  have TK := TK'
  have TD := TD'
  have HRo := HRo'
  clear HB' HB5' HBR' T6' TI' HX' HS' TW' TQ' TK' TD' HRo'
  obtain ⟨d0, d1⟩ := TI.out.box.cells
  dsimp only at d0 d1
  go_wp2_with fail
  clear d0 d1
  have HGWS := Lib.hid (heap_lt TW.out.box)
  have HB6S := Lib.hid HB5.out.size
  have HNRS := Lib.hid HBR.out.size
  refine (spoilm_any cap aI cI n csI pI MS ES _ TI.out.r.mat TI.out.r.len.symm (by omega) HshI.out (by rw [HmI.out]; exact HSp.out)).mono ?_
  rintro e wq ⟨aS, cS, kS, csS, rfl, hM, hc, hb⟩
  have HMS := Lib.hid hM
  have HNS := Lib.hid (hM.own.bnd hM.len)
  have HNSl := Lib.hid hb.size
  have HGWS2 := Lib.hid (Nat.lt_of_lt_of_le HGWS.out hb.size)
  obtain ⟨hT, hS⟩ := TapeO.new _ rfl hM hc
  have hbb := bthen hb hS (Nat.le_refl _)
  have TS := Lib.hid hT
  have HB' := Lib.hid (bthen HB.out hbb (Nat.le_refl _))
  have HB5' := Lib.hid (bthen HB5.out hbb (Nat.le_refl _))
  have HBR' := Lib.hid (bthen HBR.out hbb (Nat.le_refl _))
  have T6' := Lib.hid (T6.out.ext hbb)
  have TI' := Lib.hid (TI.out.ext hbb)
  have HX' := Lib.hid (HX.out.ext hbb)
  have HS' := Lib.hid (HS.out.ext hbb)
  have TW' := Lib.hid (TW.out.ext hbb)
  have TQ' := Lib.hid (TQ.out.ext hbb)
  have TK' := Lib.hid (TK.out.ext hbb)
  have TD' := Lib.hid (TD.out.ext hbb)
  have HRo' := Lib.hid (HRo.out.ext hbb)
  clear hbb hb HB HB5 HBR T6 TI HX HS TW TQ TK TD HRo hM hc hT hS
  have HB := HB'
  have HB5 := HB5'
  have HBR := HBR'
  have T6 := T6'
  have TI := TI'
  have HX := HX'
  have HS := HS'
  have TW := TW'
  have TQ := TQ'
  have TK := TK'
  have TD := TD'
  have HRo := HRo'
  clear HB' HB5' HBR' T6' TI' HX' HS' TW' TQ' TK' TD' HRo'
  obtain ⟨d0, d1⟩ := TI.out.box.cells
  dsimp only at d0 d1
  go_wp2_with (refine wpList_store_row rfl rfl 32 (.tmp 28) (.tmp 104) rfl wq.heap.size rfl 32 #[.int .i64 0, .slice none 0 0] #[.int .i64 MS.cap, .slice aS kS cS] rfl (heap_alloc_new wq _) rfl (by kernel_rfl) (by simp [Value.oneCell']) ?_)
  clear d0 d1
  generalize hwx : World.setRow _ _ _ = wn at *
  generalize wq.heap.size = GS at *
  clear hwx
  refine (flipm_any cap aI cI n csI pI bI ML EL _ TI.out.r.mat TI.out.r.len.symm (by omega) HshI.out (by rw [HmI.out]; exact HL.out)).mono ?_
  rintro e wq ⟨aL, cL, kL, csL, rfl, hM, hc, hb⟩
  obtain ⟨hT, hS⟩ := TapeO.new _ rfl hM hc
  have hbb := bthen hb hS (Nat.le_refl _)
  have TL := Lib.hid hT
  have HB' := Lib.hid (bthen HB.out hbb (Nat.le_refl _))
  have HB5' := Lib.hid (bthen HB5.out hbb (Nat.le_refl _))
  have HBR' := Lib.hid (bthen HBR.out hbb (Nat.le_refl _))
  have T6' := Lib.hid (T6.out.ext hbb)
  have TI' := Lib.hid (TI.out.ext hbb)
  have HX' := Lib.hid (HX.out.ext hbb)
  have HS' := Lib.hid (HS.out.ext hbb)
  have TW' := Lib.hid (TW.out.ext hbb)
  have TQ' := Lib.hid (TQ.out.ext hbb)
  have TK' := Lib.hid (TK.out.ext hbb)
  have TD' := Lib.hid (TD.out.ext hbb)
  have HRo' := Lib.hid (HRo.out.ext hbb)
  have TS' := Lib.hid (TS.out.ext hbb)
  clear hbb hb HB HB5 HBR T6 TI HX HS TW TQ TK TD HRo TS hM hc hT hS
  have HB := HB'
  have HB5 := HB5'
  have HBR := HBR'
  have T6 := T6'
  have TI := TI'
  have HX := HX'
  have HS := HS'
  have TW := TW'
  have TQ := TQ'
  have TK := TK'
  have TD := TD'
  have HRo := HRo'
  have TS := TS'
  clear HB' HB5' HBR' T6' TI' HX' HS' TW' TQ' TK' TD' HRo' TS'
  obtain ⟨d0, d1⟩ := TI.out.box.cells
  dsimp only at d0 d1
  go_wp2_with (refine wpList_store_row rfl rfl 32 (.tmp 30) (.tmp 111) rfl wq.heap.size rfl 32 #[.int .i64 0, .slice none 0 0] #[.int .i64 ML.cap, .slice aL kL cL] rfl (heap_alloc_new wq _) rfl (by kernel_rfl) (by simp [Value.oneCell']) ?_)
  clear d0 d1
  generalize hwx : World.setRow _ _ _ = wn at *
  generalize wq.heap.size = GL at *
  clear hwx
  cases hok : ok with
  | false =>
    have hno : (medOf cap cs).ok = false := by rw [← HokE.out]; exact hok
    obtain ⟨rfl, rfl⟩ : Med.none = MW ∧ 1 = EW := by have := HW.out; rw [Med.write_no hno] at this; simpa using this
    obtain ⟨rfl, rfl⟩ : Med.none = MQ ∧ 1 = EQ := by have := HQ.out; rw [Med.tear_no hno] at this; simpa using this
    obtain ⟨rfl, rfl⟩ : Med.none = MK ∧ 1 = EK := by have := HK.out; rw [Med.mark_no hno] at this; simpa using this
    obtain ⟨rfl, rfl⟩ : Med.none = MD ∧ 1 = ED := by have := HD.out; rw [Med.end_no hno] at this; simpa using this
    obtain ⟨rfl, rfl⟩ : [] = R1 ∧ 1 = ER := by have := HR.out; rw [Med.read_no hno] at this; simpa using this
    obtain ⟨rfl, rfl⟩ : 0 = F1 ∧ 1 = EF := by have := HF.out; rw [Med.file_no hno] at this; simpa using this
    obtain ⟨rfl, rfl⟩ : Med.none = MS ∧ 1 = ES := by have := HSp.out; rw [Med.spoil_no hno] at this; simpa using this
    obtain ⟨rfl, rfl⟩ : Med.none = ML ∧ 1 = EL := by have := HL.out; rw [Med.flip_no hno] at this; simpa using this
    have hk := TW.out.r.size
    obtain rfl : 0 = kW := hk
    have hk := TQ.out.r.size
    obtain rfl : 0 = kQ := hk
    have hk := TK.out.r.size
    obtain rfl : 0 = kK := hk
    have hk := TD.out.r.size
    obtain rfl : 0 = kD := hk
    have hk := TS.out.r.size
    obtain rfl : 0 = kS := hk
    have hk := TL.out.r.size
    obtain rfl : 0 = kL := hk
    have hk := HRk.out
    obtain rfl : kR = 0 := hk
    clear HW HQ HK HD HR HF HSp HL HRo HRb HBR HB5 HMW HNW HMS HNS HGWR HGWS HGWS2 HNRS HRk
    have Hno := Lib.hid hno
    clear hok hno
    refine (check_any cap aI cI n csI false _ TI.out.r.mat TI.out.r.len.symm hn2 (by rw [HmI.out]; exact Hno.out)).mono ?_
    rintro e wq ⟨rfl, hb⟩
    have HB' := Lib.hid (bthen HB.out hb (Nat.le_refl _))
    have T6' := Lib.hid (T6.out.ext hb)
    have TI' := Lib.hid (TI.out.ext hb)
    have HX' := Lib.hid (HX.out.ext hb)
    have HS' := Lib.hid (HS.out.ext hb)
    have TW' := Lib.hid (TW.out.ext hb)
    have TQ' := Lib.hid (TQ.out.ext hb)
    have TK' := Lib.hid (TK.out.ext hb)
    have TD' := Lib.hid (TD.out.ext hb)
    have TS' := Lib.hid (TS.out.ext hb)
    have TL' := Lib.hid (TL.out.ext hb)
    clear hb HB T6 TI HX HS TW TQ TK TD TS TL
    have HB := HB'
    have T6 := T6'
    have TI := TI'
    have HX := HX'
    have HS := HS'
    have TW := TW'
    have TQ := TQ'
    have TK := TK'
    have TD := TD'
    have TS := TS'
    have TL := TL'
    clear HB' T6' TI' HX' HS' TW' TQ' TK' TD' TS' TL'
    obtain ⟨d0, d1⟩ := TI.out.box.cells
    dsimp only at d0 d1
    obtain ⟨e0, e1⟩ := T6.out.box.cells
    dsimp only at e0 e1
    go_wp2_with fail
    clear d0 d1 e0 e1
    refine (keepmed_any cap cap aI a cI n c n csI cs true _ TI.out.r.mat T6.out.mat TI.out.r.len.symm Hn.out hn2 hn2 ⟨fun _ => ⟨rfl, TI.out.r.pls⟩, fun _ => rfl⟩).mono ?_
    rintro e wq ⟨rfl, hb⟩
    have HB' := Lib.hid (bthen HB.out hb (Nat.le_refl _))
    have T6' := Lib.hid (T6.out.ext hb)
    have TI' := Lib.hid (TI.out.ext hb)
    have HX' := Lib.hid (HX.out.ext hb)
    have HS' := Lib.hid (HS.out.ext hb)
    have TW' := Lib.hid (TW.out.ext hb)
    have TQ' := Lib.hid (TQ.out.ext hb)
    have TK' := Lib.hid (TK.out.ext hb)
    have TD' := Lib.hid (TD.out.ext hb)
    have TS' := Lib.hid (TS.out.ext hb)
    have TL' := Lib.hid (TL.out.ext hb)
    clear hb HB T6 TI HX HS TW TQ TK TD TS TL
    have HB := HB'
    have T6 := T6'
    have TI := TI'
    have HX := HX'
    have HS := HS'
    have TW := TW'
    have TQ := TQ'
    have TK := TK'
    have TD := TD'
    have TS := TS'
    have TL := TL'
    clear HB' T6' TI' HX' HS' TW' TQ' TK' TD' TS' TL'
    go_wp2_with fail
    refine (bytes_at aX cX lb ab cb lb _ bn bn true HX.out HS.out Hbn.out Hbn.out hbn2 hbn2 (by simp)).mono ?_
    rintro e wz ⟨rfl, n9, rfl⟩
    have hb := ext_drewN wq n9 wq.heap.size
    have HB' := Lib.hid (bthen HB.out hb (Nat.le_refl _))
    have T6' := Lib.hid (T6.out.ext hb)
    have TI' := Lib.hid (TI.out.ext hb)
    have HX' := Lib.hid (HX.out.ext hb)
    have HS' := Lib.hid (HS.out.ext hb)
    have TW' := Lib.hid (TW.out.ext hb)
    have TQ' := Lib.hid (TQ.out.ext hb)
    have TK' := Lib.hid (TK.out.ext hb)
    have TD' := Lib.hid (TD.out.ext hb)
    have TS' := Lib.hid (TS.out.ext hb)
    have TL' := Lib.hid (TL.out.ext hb)
    clear hb HB T6 TI HX HS TW TQ TK TD TS TL
    have HB := HB'
    have T6 := T6'
    have TI := TI'
    have HX := HX'
    have HS := HS'
    have TW := TW'
    have TQ := TQ'
    have TK := TK'
    have TD := TD'
    have TS := TS'
    have TL := TL'
    clear HB' T6' TI' HX' HS' TW' TQ' TK' TD' TS' TL'
    obtain ⟨d0, d1⟩ := TI.out.box.cells
    dsimp only at d0 d1
    go_wp2_with fail
    clear d0 d1
    refine (check_any cap aI cI n csI false _ TI.out.r.mat TI.out.r.len.symm hn2 (by rw [HmI.out]; exact Hno.out)).mono ?_
    rintro e wq ⟨rfl, hb⟩
    have HB' := Lib.hid (bthen HB.out hb (Nat.le_refl _))
    have T6' := Lib.hid (T6.out.ext hb)
    have TI' := Lib.hid (TI.out.ext hb)
    have HX' := Lib.hid (HX.out.ext hb)
    have HS' := Lib.hid (HS.out.ext hb)
    have TW' := Lib.hid (TW.out.ext hb)
    have TQ' := Lib.hid (TQ.out.ext hb)
    have TK' := Lib.hid (TK.out.ext hb)
    have TD' := Lib.hid (TD.out.ext hb)
    have TS' := Lib.hid (TS.out.ext hb)
    have TL' := Lib.hid (TL.out.ext hb)
    clear hb HB T6 TI HX HS TW TQ TK TD TS TL
    have HB := HB'
    have T6 := T6'
    have TI := TI'
    have HX := HX'
    have HS := HS'
    have TW := TW'
    have TQ := TQ'
    have TK := TK'
    have TD := TD'
    have TS := TS'
    have TL := TL'
    clear HB' T6' TI' HX' HS' TW' TQ' TK' TD' TS' TL'
    obtain ⟨d0, d1⟩ := TI.out.box.cells
    dsimp only at d0 d1
    go_wp2_with fail
    clear d0 d1
    refine (files_any cap aI cI n csI 0 _ TI.out.r.mat TI.out.r.len.symm hn2 (by rw [HmI.out]; exact Med.files_no Hno.out)).mono ?_
    rintro e wq ⟨rfl, hb⟩
    have HB' := Lib.hid (bthen HB.out hb (Nat.le_refl _))
    have T6' := Lib.hid (T6.out.ext hb)
    have TI' := Lib.hid (TI.out.ext hb)
    have HX' := Lib.hid (HX.out.ext hb)
    have HS' := Lib.hid (HS.out.ext hb)
    have TW' := Lib.hid (TW.out.ext hb)
    have TQ' := Lib.hid (TQ.out.ext hb)
    have TK' := Lib.hid (TK.out.ext hb)
    have TD' := Lib.hid (TD.out.ext hb)
    have TS' := Lib.hid (TS.out.ext hb)
    have TL' := Lib.hid (TL.out.ext hb)
    clear hb HB T6 TI HX HS TW TQ TK TD TS TL
    have HB := HB'
    have T6 := T6'
    have TI := TI'
    have HX := HX'
    have HS := HS'
    have TW := TW'
    have TQ := TQ'
    have TK := TK'
    have TD := TD'
    have TS := TS'
    have TL := TL'
    clear HB' T6' TI' HX' HS' TW' TQ' TK' TD' TS' TL'
    obtain ⟨d0, d1⟩ := TW.out.box.cells
    dsimp only [Med.none] at d0 d1
    go_wp2_with fail
    clear d0 d1
    refine (none07_any 0 aW cW 0 csW true _ TW.out.r.mat TW.out.r.len.symm (by decide) ⟨fun _ => ⟨rfl, TW.out.r.pls⟩, fun _ => rfl⟩).mono ?_
    rintro e wq ⟨rfl, hb⟩
    have HB' := Lib.hid (bthen HB.out hb (Nat.le_refl _))
    have T6' := Lib.hid (T6.out.ext hb)
    have TI' := Lib.hid (TI.out.ext hb)
    have HX' := Lib.hid (HX.out.ext hb)
    have HS' := Lib.hid (HS.out.ext hb)
    have TW' := Lib.hid (TW.out.ext hb)
    have TQ' := Lib.hid (TQ.out.ext hb)
    have TK' := Lib.hid (TK.out.ext hb)
    have TD' := Lib.hid (TD.out.ext hb)
    have TS' := Lib.hid (TS.out.ext hb)
    have TL' := Lib.hid (TL.out.ext hb)
    clear hb HB T6 TI HX HS TW TQ TK TD TS TL
    have HB := HB'
    have T6 := T6'
    have TI := TI'
    have HX := HX'
    have HS := HS'
    have TW := TW'
    have TQ := TQ'
    have TK := TK'
    have TD := TD'
    have TS := TS'
    have TL := TL'
    clear HB' T6' TI' HX' HS' TW' TQ' TK' TD' TS' TL'
    obtain ⟨d0, d1⟩ := TQ.out.box.cells
    dsimp only [Med.none] at d0 d1
    go_wp2_with fail
    clear d0 d1
    refine (none07_any 0 aQ cQ 0 csQ true _ TQ.out.r.mat TQ.out.r.len.symm (by decide) ⟨fun _ => ⟨rfl, TQ.out.r.pls⟩, fun _ => rfl⟩).mono ?_
    rintro e wq ⟨rfl, hb⟩
    have HB' := Lib.hid (bthen HB.out hb (Nat.le_refl _))
    have T6' := Lib.hid (T6.out.ext hb)
    have TI' := Lib.hid (TI.out.ext hb)
    have HX' := Lib.hid (HX.out.ext hb)
    have HS' := Lib.hid (HS.out.ext hb)
    have TW' := Lib.hid (TW.out.ext hb)
    have TQ' := Lib.hid (TQ.out.ext hb)
    have TK' := Lib.hid (TK.out.ext hb)
    have TD' := Lib.hid (TD.out.ext hb)
    have TS' := Lib.hid (TS.out.ext hb)
    have TL' := Lib.hid (TL.out.ext hb)
    clear hb HB T6 TI HX HS TW TQ TK TD TS TL
    have HB := HB'
    have T6 := T6'
    have TI := TI'
    have HX := HX'
    have HS := HS'
    have TW := TW'
    have TQ := TQ'
    have TK := TK'
    have TD := TD'
    have TS := TS'
    have TL := TL'
    clear HB' T6' TI' HX' HS' TW' TQ' TK' TD' TS' TL'
    obtain ⟨d0, d1⟩ := TK.out.box.cells
    dsimp only [Med.none] at d0 d1
    go_wp2_with fail
    clear d0 d1
    refine (none07_any 0 aK cK 0 csK true _ TK.out.r.mat TK.out.r.len.symm (by decide) ⟨fun _ => ⟨rfl, TK.out.r.pls⟩, fun _ => rfl⟩).mono ?_
    rintro e wq ⟨rfl, hb⟩
    have HB' := Lib.hid (bthen HB.out hb (Nat.le_refl _))
    have T6' := Lib.hid (T6.out.ext hb)
    have TI' := Lib.hid (TI.out.ext hb)
    have HX' := Lib.hid (HX.out.ext hb)
    have HS' := Lib.hid (HS.out.ext hb)
    have TW' := Lib.hid (TW.out.ext hb)
    have TQ' := Lib.hid (TQ.out.ext hb)
    have TK' := Lib.hid (TK.out.ext hb)
    have TD' := Lib.hid (TD.out.ext hb)
    have TS' := Lib.hid (TS.out.ext hb)
    have TL' := Lib.hid (TL.out.ext hb)
    clear hb HB T6 TI HX HS TW TQ TK TD TS TL
    have HB := HB'
    have T6 := T6'
    have TI := TI'
    have HX := HX'
    have HS := HS'
    have TW := TW'
    have TQ := TQ'
    have TK := TK'
    have TD := TD'
    have TS := TS'
    have TL := TL'
    clear HB' T6' TI' HX' HS' TW' TQ' TK' TD' TS' TL'
    obtain ⟨d0, d1⟩ := TD.out.box.cells
    dsimp only [Med.none] at d0 d1
    go_wp2_with fail
    clear d0 d1
    refine (none07_any 0 aD cD 0 csD true _ TD.out.r.mat TD.out.r.len.symm (by decide) ⟨fun _ => ⟨rfl, TD.out.r.pls⟩, fun _ => rfl⟩).mono ?_
    rintro e wq ⟨rfl, hb⟩
    have HB' := Lib.hid (bthen HB.out hb (Nat.le_refl _))
    have T6' := Lib.hid (T6.out.ext hb)
    have TI' := Lib.hid (TI.out.ext hb)
    have HX' := Lib.hid (HX.out.ext hb)
    have HS' := Lib.hid (HS.out.ext hb)
    have TW' := Lib.hid (TW.out.ext hb)
    have TQ' := Lib.hid (TQ.out.ext hb)
    have TK' := Lib.hid (TK.out.ext hb)
    have TD' := Lib.hid (TD.out.ext hb)
    have TS' := Lib.hid (TS.out.ext hb)
    have TL' := Lib.hid (TL.out.ext hb)
    clear hb HB T6 TI HX HS TW TQ TK TD TS TL
    have HB := HB'
    have T6 := T6'
    have TI := TI'
    have HX := HX'
    have HS := HS'
    have TW := TW'
    have TQ := TQ'
    have TK := TK'
    have TD := TD'
    have TS := TS'
    have TL := TL'
    clear HB' T6' TI' HX' HS' TW' TQ' TK' TD' TS' TL'
    obtain ⟨d0, d1⟩ := TS.out.box.cells
    dsimp only [Med.none] at d0 d1
    go_wp2_with fail
    clear d0 d1
    refine (none07_any 0 aS cS 0 csS true _ TS.out.r.mat TS.out.r.len.symm (by decide) ⟨fun _ => ⟨rfl, TS.out.r.pls⟩, fun _ => rfl⟩).mono ?_
    rintro e wq ⟨rfl, hb⟩
    have HB' := Lib.hid (bthen HB.out hb (Nat.le_refl _))
    have T6' := Lib.hid (T6.out.ext hb)
    have TI' := Lib.hid (TI.out.ext hb)
    have HX' := Lib.hid (HX.out.ext hb)
    have HS' := Lib.hid (HS.out.ext hb)
    have TW' := Lib.hid (TW.out.ext hb)
    have TQ' := Lib.hid (TQ.out.ext hb)
    have TK' := Lib.hid (TK.out.ext hb)
    have TD' := Lib.hid (TD.out.ext hb)
    have TS' := Lib.hid (TS.out.ext hb)
    have TL' := Lib.hid (TL.out.ext hb)
    clear hb HB T6 TI HX HS TW TQ TK TD TS TL
    have HB := HB'
    have T6 := T6'
    have TI := TI'
    have HX := HX'
    have HS := HS'
    have TW := TW'
    have TQ := TQ'
    have TK := TK'
    have TD := TD'
    have TS := TS'
    have TL := TL'
    clear HB' T6' TI' HX' HS' TW' TQ' TK' TD' TS' TL'
    obtain ⟨d0, d1⟩ := TL.out.box.cells
    dsimp only [Med.none] at d0 d1
    go_wp2_with fail
    clear d0 d1
    refine (none07_any 0 aL cL 0 csL true _ TL.out.r.mat TL.out.r.len.symm (by decide) ⟨fun _ => ⟨rfl, TL.out.r.pls⟩, fun _ => rfl⟩).mono ?_
    rintro e wq ⟨rfl, hb⟩
    have HB' := Lib.hid (bthen HB.out hb (Nat.le_refl _))
    have T6' := Lib.hid (T6.out.ext hb)
    have TI' := Lib.hid (TI.out.ext hb)
    have HX' := Lib.hid (HX.out.ext hb)
    have HS' := Lib.hid (HS.out.ext hb)
    have TW' := Lib.hid (TW.out.ext hb)
    have TQ' := Lib.hid (TQ.out.ext hb)
    have TK' := Lib.hid (TK.out.ext hb)
    have TD' := Lib.hid (TD.out.ext hb)
    have TS' := Lib.hid (TS.out.ext hb)
    have TL' := Lib.hid (TL.out.ext hb)
    clear hb HB T6 TI HX HS TW TQ TK TD TS TL
    have HB := HB'
    have T6 := T6'
    have TI := TI'
    have HX := HX'
    have HS := HS'
    have TW := TW'
    have TQ := TQ'
    have TK := TK'
    have TD := TD'
    have TS := TS'
    have TL := TL'
    clear HB' T6' TI' HX' HS' TW' TQ' TK' TD' TS' TL'
    go_wp2_with fail
    refine (wakes07_any _).mono ?_
    rintro e wq ⟨rfl, hb⟩
    go_wp2
    go_ret
    exact ⟨rfl, bthen HB.out hb (Nat.le_refl _)⟩
  | true =>
    have Hok := Lib.hid (show (medOf cap cs).ok = true by rw [← HokE.out]; exact hok)
    obtain ⟨Fs, hFs⟩ : ∃ F, F = (medOf cap cs).files := ⟨_, rfl⟩
    have HFs := Lib.hid hFs.symm
    have HkR : Hid (kR ≤ 140737488355328) := Lib.hid (by
      rw [HRk.out]
      have := Med.read_short (m := medOf cap cs) (K := 140737488355328) (fun c hc => by
        obtain ⟨y, hy, rfl⟩ := List.mem_map.1 hc
        exact Hx.out y hy) pI
      rw [HR.out] at this
      exact this)
    clear hok hFs
    refine (check_any cap aI cI n csI true _ TI.out.r.mat TI.out.r.len.symm hn2 (by rw [HmI.out]; exact Hok.out)).mono ?_
    rintro e wq ⟨rfl, hb⟩
    have HB' := Lib.hid (bthen HB.out hb (Nat.le_refl _))
    have HB5' := Lib.hid (bthen HB5.out hb (Nat.le_refl _))
    have HBR' := Lib.hid (bthen HBR.out hb (Nat.le_refl _))
    have T6' := Lib.hid (T6.out.ext hb)
    have TI' := Lib.hid (TI.out.ext hb)
    have HX' := Lib.hid (HX.out.ext hb)
    have HS' := Lib.hid (HS.out.ext hb)
    have TW' := Lib.hid (TW.out.ext hb)
    have TQ' := Lib.hid (TQ.out.ext hb)
    have TK' := Lib.hid (TK.out.ext hb)
    have TD' := Lib.hid (TD.out.ext hb)
    have TS' := Lib.hid (TS.out.ext hb)
    have TL' := Lib.hid (TL.out.ext hb)
    have HRo' := Lib.hid (HRo.out.ext hb)
    clear hb HB HB5 HBR T6 TI HX HS TW TQ TK TD TS TL HRo
    have HB := HB'
    have HB5 := HB5'
    have HBR := HBR'
    have T6 := T6'
    have TI := TI'
    have HX := HX'
    have HS := HS'
    have TW := TW'
    have TQ := TQ'
    have TK := TK'
    have TD := TD'
    have TS := TS'
    have TL := TL'
    have HRo := HRo'
    clear HB' HB5' HBR' T6' TI' HX' HS' TW' TQ' TK' TD' TS' TL' HRo'
    obtain ⟨d0, d1⟩ := TI.out.box.cells
    dsimp only at d0 d1
    obtain ⟨e0, e1⟩ := T6.out.box.cells
    dsimp only at e0 e1
    go_wp2_with fail
    clear d0 d1 e0 e1
    refine (keepmed_any cap cap aI a cI n c n csI cs true _ TI.out.r.mat T6.out.mat TI.out.r.len.symm Hn.out hn2 hn2 ⟨fun _ => ⟨rfl, TI.out.r.pls⟩, fun _ => rfl⟩).mono ?_
    rintro e wq ⟨rfl, hb⟩
    have HB' := Lib.hid (bthen HB.out hb (Nat.le_refl _))
    have HB5' := Lib.hid (bthen HB5.out hb (Nat.le_refl _))
    have HBR' := Lib.hid (bthen HBR.out hb (Nat.le_refl _))
    have T6' := Lib.hid (T6.out.ext hb)
    have TI' := Lib.hid (TI.out.ext hb)
    have HX' := Lib.hid (HX.out.ext hb)
    have HS' := Lib.hid (HS.out.ext hb)
    have TW' := Lib.hid (TW.out.ext hb)
    have TQ' := Lib.hid (TQ.out.ext hb)
    have TK' := Lib.hid (TK.out.ext hb)
    have TD' := Lib.hid (TD.out.ext hb)
    have TS' := Lib.hid (TS.out.ext hb)
    have TL' := Lib.hid (TL.out.ext hb)
    have HRo' := Lib.hid (HRo.out.ext hb)
    clear hb HB HB5 HBR T6 TI HX HS TW TQ TK TD TS TL HRo
    have HB := HB'
    have HB5 := HB5'
    have HBR := HBR'
    have T6 := T6'
    have TI := TI'
    have HX := HX'
    have HS := HS'
    have TW := TW'
    have TQ := TQ'
    have TK := TK'
    have TD := TD'
    have TS := TS'
    have TL := TL'
    have HRo := HRo'
    clear HB' HB5' HBR' T6' TI' HX' HS' TW' TQ' TK' TD' TS' TL' HRo'
    go_wp2_with fail
    refine (bytes_at aX cX lb ab cb lb _ bn bn true HX.out HS.out Hbn.out Hbn.out hbn2 hbn2 (by simp)).mono ?_
    rintro e wz ⟨rfl, n9, rfl⟩
    have hb := ext_drewN wq n9 wq.heap.size
    have HB' := Lib.hid (bthen HB.out hb (Nat.le_refl _))
    have HB5' := Lib.hid (bthen HB5.out hb (Nat.le_refl _))
    have HBR' := Lib.hid (bthen HBR.out hb (Nat.le_refl _))
    have T6' := Lib.hid (T6.out.ext hb)
    have TI' := Lib.hid (TI.out.ext hb)
    have HX' := Lib.hid (HX.out.ext hb)
    have HS' := Lib.hid (HS.out.ext hb)
    have TW' := Lib.hid (TW.out.ext hb)
    have TQ' := Lib.hid (TQ.out.ext hb)
    have TK' := Lib.hid (TK.out.ext hb)
    have TD' := Lib.hid (TD.out.ext hb)
    have TS' := Lib.hid (TS.out.ext hb)
    have TL' := Lib.hid (TL.out.ext hb)
    have HRo' := Lib.hid (HRo.out.ext hb)
    clear hb HB HB5 HBR T6 TI HX HS TW TQ TK TD TS TL HRo
    have HB := HB'
    have HB5 := HB5'
    have HBR := HBR'
    have T6 := T6'
    have TI := TI'
    have HX := HX'
    have HS := HS'
    have TW := TW'
    have TQ := TQ'
    have TK := TK'
    have TD := TD'
    have TS := TS'
    have TL := TL'
    have HRo := HRo'
    clear HB' HB5' HBR' T6' TI' HX' HS' TW' TQ' TK' TD' TS' TL' HRo'
    obtain ⟨d0, d1⟩ := T6.out.box.cells
    dsimp only at d0 d1
    go_wp2_with fail
    clear d0 d1
    refine (refwrite_any cap a c n cs pI ab bn cb lb MW EW _ T6.out.mat T6.out.len (by omega) Hx.out HS.out Hbn.out (by omega) Hok.out HW.out).mono ?_
    rintro e wq ⟨aW2, cW2, kW2, csW2, rfl, hM, hc, hb⟩
    obtain ⟨hT, hS⟩ := TapeO.new _ rfl hM hc
    have hbb := bthen hb hS (Nat.le_refl _)
    have TW2 := Lib.hid hT
    have HB' := Lib.hid (bthen HB.out hbb (Nat.le_refl _))
    have HB5' := Lib.hid (bthen HB5.out hbb (Nat.le_refl _))
    have HBR' := Lib.hid (bthen HBR.out hbb (Nat.le_refl _))
    have T6' := Lib.hid (T6.out.ext hbb)
    have TI' := Lib.hid (TI.out.ext hbb)
    have HX' := Lib.hid (HX.out.ext hbb)
    have HS' := Lib.hid (HS.out.ext hbb)
    have TW' := Lib.hid (TW.out.ext hbb)
    have TQ' := Lib.hid (TQ.out.ext hbb)
    have TK' := Lib.hid (TK.out.ext hbb)
    have TD' := Lib.hid (TD.out.ext hbb)
    have TS' := Lib.hid (TS.out.ext hbb)
    have TL' := Lib.hid (TL.out.ext hbb)
    have HRo' := Lib.hid (HRo.out.ext hbb)
    clear hbb hb HB HB5 HBR T6 TI HX HS TW TQ TK TD TS TL HRo hM hc hT hS
    have HB := HB'
    have HB5 := HB5'
    have HBR := HBR'
    have T6 := T6'
    have TI := TI'
    have HX := HX'
    have HS := HS'
    have TW := TW'
    have TQ := TQ'
    have TK := TK'
    have TD := TD'
    have TS := TS'
    have TL := TL'
    have HRo := HRo'
    clear HB' HB5' HBR' T6' TI' HX' HS' TW' TQ' TK' TD' TS' TL' HRo'
    obtain ⟨d0, d1⟩ := T6.out.box.cells
    dsimp only at d0 d1
    go_wp2_with (refine wpList_store_row rfl rfl 32 (.tmp 32) (.tmp 211) rfl wq.heap.size rfl 32 #[.int .i64 0, .slice none 0 0] #[.int .i64 MW.cap, .slice aW2 kW2 cW2] rfl (heap_alloc_new wq _) rfl (by kernel_rfl) (by simp [Value.oneCell']) ?_)
    clear d0 d1
    generalize hwx : World.setRow _ _ _ = wn at *
    generalize wq.heap.size = GW2 at *
    clear hwx
    refine (reftear_any cap a c n cs pI ab bn cb lb keep MQ EQ _ T6.out.mat T6.out.len (by omega) Hx.out HS.out Hbn.out (by omega) Hcb.out Hok.out HQ.out).mono ?_
    rintro e wq ⟨aQ2, cQ2, kQ2, csQ2, rfl, hM, hc, hb⟩
    obtain ⟨hT, hS⟩ := TapeO.new _ rfl hM hc
    have hbb := bthen hb hS (Nat.le_refl _)
    have TQ2 := Lib.hid hT
    have HB' := Lib.hid (bthen HB.out hbb (Nat.le_refl _))
    have HB5' := Lib.hid (bthen HB5.out hbb (Nat.le_refl _))
    have HBR' := Lib.hid (bthen HBR.out hbb (Nat.le_refl _))
    have T6' := Lib.hid (T6.out.ext hbb)
    have TI' := Lib.hid (TI.out.ext hbb)
    have HX' := Lib.hid (HX.out.ext hbb)
    have HS' := Lib.hid (HS.out.ext hbb)
    have TW' := Lib.hid (TW.out.ext hbb)
    have TQ' := Lib.hid (TQ.out.ext hbb)
    have TK' := Lib.hid (TK.out.ext hbb)
    have TD' := Lib.hid (TD.out.ext hbb)
    have TS' := Lib.hid (TS.out.ext hbb)
    have TL' := Lib.hid (TL.out.ext hbb)
    have HRo' := Lib.hid (HRo.out.ext hbb)
    have TW2' := Lib.hid (TW2.out.ext hbb)
    clear hbb hb HB HB5 HBR T6 TI HX HS TW TQ TK TD TS TL HRo TW2 hM hc hT hS
    have HB := HB'
    have HB5 := HB5'
    have HBR := HBR'
    have T6 := T6'
    have TI := TI'
    have HX := HX'
    have HS := HS'
    have TW := TW'
    have TQ := TQ'
    have TK := TK'
    have TD := TD'
    have TS := TS'
    have TL := TL'
    have HRo := HRo'
    have TW2 := TW2'
    clear HB' HB5' HBR' T6' TI' HX' HS' TW' TQ' TK' TD' TS' TL' HRo' TW2'
    obtain ⟨d0, d1⟩ := T6.out.box.cells
    dsimp only at d0 d1
    go_wp2_with (refine wpList_store_row rfl rfl 32 (.tmp 34) (.tmp 219) rfl wq.heap.size rfl 32 #[.int .i64 0, .slice none 0 0] #[.int .i64 MQ.cap, .slice aQ2 kQ2 cQ2] rfl (heap_alloc_new wq _) rfl (by kernel_rfl) (by simp [Value.oneCell']) ?_)
    clear d0 d1
    generalize hwx : World.setRow _ _ _ = wn at *
    generalize wq.heap.size = GQ2 at *
    clear hwx
    refine (refmark_any cap a c n cs pI MK EK _ T6.out.mat T6.out.len (by omega) Hx.out Hok.out HK.out).mono ?_
    rintro e wq ⟨aK2, cK2, kK2, csK2, rfl, hM, hc, hb⟩
    obtain ⟨hT, hS⟩ := TapeO.new _ rfl hM hc
    have hbb := bthen hb hS (Nat.le_refl _)
    have TK2 := Lib.hid hT
    have HB' := Lib.hid (bthen HB.out hbb (Nat.le_refl _))
    have HB5' := Lib.hid (bthen HB5.out hbb (Nat.le_refl _))
    have HBR' := Lib.hid (bthen HBR.out hbb (Nat.le_refl _))
    have T6' := Lib.hid (T6.out.ext hbb)
    have TI' := Lib.hid (TI.out.ext hbb)
    have HX' := Lib.hid (HX.out.ext hbb)
    have HS' := Lib.hid (HS.out.ext hbb)
    have TW' := Lib.hid (TW.out.ext hbb)
    have TQ' := Lib.hid (TQ.out.ext hbb)
    have TK' := Lib.hid (TK.out.ext hbb)
    have TD' := Lib.hid (TD.out.ext hbb)
    have TS' := Lib.hid (TS.out.ext hbb)
    have TL' := Lib.hid (TL.out.ext hbb)
    have HRo' := Lib.hid (HRo.out.ext hbb)
    have TW2' := Lib.hid (TW2.out.ext hbb)
    have TQ2' := Lib.hid (TQ2.out.ext hbb)
    clear hbb hb HB HB5 HBR T6 TI HX HS TW TQ TK TD TS TL HRo TW2 TQ2 hM hc hT hS
    have HB := HB'
    have HB5 := HB5'
    have HBR := HBR'
    have T6 := T6'
    have TI := TI'
    have HX := HX'
    have HS := HS'
    have TW := TW'
    have TQ := TQ'
    have TK := TK'
    have TD := TD'
    have TS := TS'
    have TL := TL'
    have HRo := HRo'
    have TW2 := TW2'
    have TQ2 := TQ2'
    clear HB' HB5' HBR' T6' TI' HX' HS' TW' TQ' TK' TD' TS' TL' HRo' TW2' TQ2'
    obtain ⟨d0, d1⟩ := T6.out.box.cells
    dsimp only at d0 d1
    go_wp2_with (refine wpList_store_row rfl rfl 32 (.tmp 36) (.tmp 225) rfl wq.heap.size rfl 32 #[.int .i64 0, .slice none 0 0] #[.int .i64 MK.cap, .slice aK2 kK2 cK2] rfl (heap_alloc_new wq _) rfl (by kernel_rfl) (by simp [Value.oneCell']) ?_)
    clear d0 d1
    generalize hwx : World.setRow _ _ _ = wn at *
    generalize wq.heap.size = GK2 at *
    clear hwx
    refine (refend_any cap a c n cs pI MD ED _ T6.out.mat T6.out.len (by omega) Hx.out Hok.out HD.out).mono ?_
    rintro e wq ⟨aD2, cD2, kD2, csD2, rfl, hM, hc, hb⟩
    obtain ⟨hT, hS⟩ := TapeO.new _ rfl hM hc
    have hbb := bthen hb hS (Nat.le_refl _)
    have TD2 := Lib.hid hT
    have HB' := Lib.hid (bthen HB.out hbb (Nat.le_refl _))
    have HB5' := Lib.hid (bthen HB5.out hbb (Nat.le_refl _))
    have HBR' := Lib.hid (bthen HBR.out hbb (Nat.le_refl _))
    have T6' := Lib.hid (T6.out.ext hbb)
    have TI' := Lib.hid (TI.out.ext hbb)
    have HX' := Lib.hid (HX.out.ext hbb)
    have HS' := Lib.hid (HS.out.ext hbb)
    have TW' := Lib.hid (TW.out.ext hbb)
    have TQ' := Lib.hid (TQ.out.ext hbb)
    have TK' := Lib.hid (TK.out.ext hbb)
    have TD' := Lib.hid (TD.out.ext hbb)
    have TS' := Lib.hid (TS.out.ext hbb)
    have TL' := Lib.hid (TL.out.ext hbb)
    have HRo' := Lib.hid (HRo.out.ext hbb)
    have TW2' := Lib.hid (TW2.out.ext hbb)
    have TQ2' := Lib.hid (TQ2.out.ext hbb)
    have TK2' := Lib.hid (TK2.out.ext hbb)
    clear hbb hb HB HB5 HBR T6 TI HX HS TW TQ TK TD TS TL HRo TW2 TQ2 TK2 hM hc hT hS
    have HB := HB'
    have HB5 := HB5'
    have HBR := HBR'
    have T6 := T6'
    have TI := TI'
    have HX := HX'
    have HS := HS'
    have TW := TW'
    have TQ := TQ'
    have TK := TK'
    have TD := TD'
    have TS := TS'
    have TL := TL'
    have HRo := HRo'
    have TW2 := TW2'
    have TQ2 := TQ2'
    have TK2 := TK2'
    clear HB' HB5' HBR' T6' TI' HX' HS' TW' TQ' TK' TD' TS' TL' HRo' TW2' TQ2' TK2'
    obtain ⟨d0, d1⟩ := T6.out.box.cells
    dsimp only at d0 d1
    go_wp2_with (refine wpList_store_row rfl rfl 32 (.tmp 38) (.tmp 231) rfl wq.heap.size rfl 32 #[.int .i64 0, .slice none 0 0] #[.int .i64 MD.cap, .slice aD2 kD2 cD2] rfl (heap_alloc_new wq _) rfl (by kernel_rfl) (by simp [Value.oneCell']) ?_)
    clear d0 d1
    generalize hwx : World.setRow _ _ _ = wn at *
    generalize wq.heap.size = GD2 at *
    clear hwx
    refine (refread_any cap a c n cs pI R1 ER _ T6.out.mat T6.out.len (by omega) Hx.out (by rw [← Med.read_look Hok.out]; exact HR.out)).mono ?_
    rintro e wq ⟨aR2, cR2, kR2, rfl, hk5, ho5, hb⟩
    have HRk2 := Lib.hid hk5
    have HRo2 := Lib.hid ho5
    have hbb := hb
    clear hk5 ho5
    have HB' := Lib.hid (bthen HB.out hbb (Nat.le_refl _))
    have HB5' := Lib.hid (bthen HB5.out hbb (Nat.le_refl _))
    have HBR' := Lib.hid (bthen HBR.out hbb (Nat.le_refl _))
    have T6' := Lib.hid (T6.out.ext hbb)
    have TI' := Lib.hid (TI.out.ext hbb)
    have HX' := Lib.hid (HX.out.ext hbb)
    have HS' := Lib.hid (HS.out.ext hbb)
    have TW' := Lib.hid (TW.out.ext hbb)
    have TQ' := Lib.hid (TQ.out.ext hbb)
    have TK' := Lib.hid (TK.out.ext hbb)
    have TD' := Lib.hid (TD.out.ext hbb)
    have TS' := Lib.hid (TS.out.ext hbb)
    have TL' := Lib.hid (TL.out.ext hbb)
    have HRo' := Lib.hid (HRo.out.ext hbb)
    have TW2' := Lib.hid (TW2.out.ext hbb)
    have TQ2' := Lib.hid (TQ2.out.ext hbb)
    have TK2' := Lib.hid (TK2.out.ext hbb)
    have TD2' := Lib.hid (TD2.out.ext hbb)
    clear hbb hb HB HB5 HBR T6 TI HX HS TW TQ TK TD TS TL HRo TW2 TQ2 TK2 TD2 
    have HB := HB'
    have HB5 := HB5'
    have HBR := HBR'
    have T6 := T6'
    have TI := TI'
    have HX := HX'
    have HS := HS'
    have TW := TW'
    have TQ := TQ'
    have TK := TK'
    have TD := TD'
    have TS := TS'
    have TL := TL'
    have HRo := HRo'
    have TW2 := TW2'
    have TQ2 := TQ2'
    have TK2 := TK2'
    have TD2 := TD2'
    clear HB' HB5' HBR' T6' TI' HX' HS' TW' TQ' TK' TD' TS' TL' HRo' TW2' TQ2' TK2' TD2'
    obtain ⟨d0, d1⟩ := T6.out.box.cells
    dsimp only at d0 d1
    go_wp2_with fail
    clear d0 d1
    refine (reffilez_any cap a c n cs nI F1 EF _ T6.out.mat T6.out.len (by omega) hN1 (by rw [← Med.file_behind Hok.out]; exact HF.out)).mono ?_
    rintro e wq ⟨rfl, hb⟩
    have hbb := hb
    have HB' := Lib.hid (bthen HB.out hbb (Nat.le_refl _))
    have HB5' := Lib.hid (bthen HB5.out hbb (Nat.le_refl _))
    have HBR' := Lib.hid (bthen HBR.out hbb (Nat.le_refl _))
    have T6' := Lib.hid (T6.out.ext hbb)
    have TI' := Lib.hid (TI.out.ext hbb)
    have HX' := Lib.hid (HX.out.ext hbb)
    have HS' := Lib.hid (HS.out.ext hbb)
    have TW' := Lib.hid (TW.out.ext hbb)
    have TQ' := Lib.hid (TQ.out.ext hbb)
    have TK' := Lib.hid (TK.out.ext hbb)
    have TD' := Lib.hid (TD.out.ext hbb)
    have TS' := Lib.hid (TS.out.ext hbb)
    have TL' := Lib.hid (TL.out.ext hbb)
    have HRo' := Lib.hid (HRo.out.ext hbb)
    have TW2' := Lib.hid (TW2.out.ext hbb)
    have TQ2' := Lib.hid (TQ2.out.ext hbb)
    have TK2' := Lib.hid (TK2.out.ext hbb)
    have TD2' := Lib.hid (TD2.out.ext hbb)
    have HRo2' := Lib.hid (HRo2.out.ext hbb)
    clear hbb hb HB HB5 HBR T6 TI HX HS TW TQ TK TD TS TL HRo TW2 TQ2 TK2 TD2 HRo2 
    have HB := HB'
    have HB5 := HB5'
    have HBR := HBR'
    have T6 := T6'
    have TI := TI'
    have HX := HX'
    have HS := HS'
    have TW := TW'
    have TQ := TQ'
    have TK := TK'
    have TD := TD'
    have TS := TS'
    have TL := TL'
    have HRo := HRo'
    have TW2 := TW2'
    have TQ2 := TQ2'
    have TK2 := TK2'
    have TD2 := TD2'
    have HRo2 := HRo2'
    clear HB' HB5' HBR' T6' TI' HX' HS' TW' TQ' TK' TD' TS' TL' HRo' TW2' TQ2' TK2' TD2' HRo2'
    obtain ⟨d0, d1⟩ := T6.out.box.cells
    dsimp only at d0 d1
    go_wp2_with fail
    clear d0 d1
    refine (refspoil_any cap a c n cs pI MS ES _ T6.out.mat T6.out.len (by omega) Hx.out Hok.out HSp.out).mono ?_
    rintro e wq ⟨aS2, cS2, kS2, csS2, rfl, hM, hc, hb⟩
    obtain ⟨hT, hS⟩ := TapeO.new _ rfl hM hc
    have hbb := bthen hb hS (Nat.le_refl _)
    have TS2 := Lib.hid hT
    have HB' := Lib.hid (bthen HB.out hbb (Nat.le_refl _))
    have HB5' := Lib.hid (bthen HB5.out hbb (Nat.le_refl _))
    have HBR' := Lib.hid (bthen HBR.out hbb (Nat.le_refl _))
    have T6' := Lib.hid (T6.out.ext hbb)
    have TI' := Lib.hid (TI.out.ext hbb)
    have HX' := Lib.hid (HX.out.ext hbb)
    have HS' := Lib.hid (HS.out.ext hbb)
    have TW' := Lib.hid (TW.out.ext hbb)
    have TQ' := Lib.hid (TQ.out.ext hbb)
    have TK' := Lib.hid (TK.out.ext hbb)
    have TD' := Lib.hid (TD.out.ext hbb)
    have TS' := Lib.hid (TS.out.ext hbb)
    have TL' := Lib.hid (TL.out.ext hbb)
    have HRo' := Lib.hid (HRo.out.ext hbb)
    have TW2' := Lib.hid (TW2.out.ext hbb)
    have TQ2' := Lib.hid (TQ2.out.ext hbb)
    have TK2' := Lib.hid (TK2.out.ext hbb)
    have TD2' := Lib.hid (TD2.out.ext hbb)
    have HRo2' := Lib.hid (HRo2.out.ext hbb)
    clear hbb hb HB HB5 HBR T6 TI HX HS TW TQ TK TD TS TL HRo TW2 TQ2 TK2 TD2 HRo2 hM hc hT hS
    have HB := HB'
    have HB5 := HB5'
    have HBR := HBR'
    have T6 := T6'
    have TI := TI'
    have HX := HX'
    have HS := HS'
    have TW := TW'
    have TQ := TQ'
    have TK := TK'
    have TD := TD'
    have TS := TS'
    have TL := TL'
    have HRo := HRo'
    have TW2 := TW2'
    have TQ2 := TQ2'
    have TK2 := TK2'
    have TD2 := TD2'
    have HRo2 := HRo2'
    clear HB' HB5' HBR' T6' TI' HX' HS' TW' TQ' TK' TD' TS' TL' HRo' TW2' TQ2' TK2' TD2' HRo2'
    obtain ⟨d0, d1⟩ := T6.out.box.cells
    dsimp only at d0 d1
    go_wp2_with (refine wpList_store_row rfl rfl 32 (.tmp 44) (.tmp 249) rfl wq.heap.size rfl 32 #[.int .i64 0, .slice none 0 0] #[.int .i64 MS.cap, .slice aS2 kS2 cS2] rfl (heap_alloc_new wq _) rfl (by kernel_rfl) (by simp [Value.oneCell']) ?_)
    clear d0 d1
    generalize hwx : World.setRow _ _ _ = wn at *
    generalize wq.heap.size = GS2 at *
    clear hwx
    refine (refflip_any cap a c n cs pI bI ML EL _ T6.out.mat T6.out.len (by omega) Hx.out Hok.out HL.out).mono ?_
    rintro e wq ⟨aL2, cL2, kL2, csL2, rfl, hM, hc, hb⟩
    obtain ⟨hT, hS⟩ := TapeO.new _ rfl hM hc
    have hbb := bthen hb hS (Nat.le_refl _)
    have TL2 := Lib.hid hT
    have HB' := Lib.hid (bthen HB.out hbb (Nat.le_refl _))
    have HB5' := Lib.hid (bthen HB5.out hbb (Nat.le_refl _))
    have HBR' := Lib.hid (bthen HBR.out hbb (Nat.le_refl _))
    have T6' := Lib.hid (T6.out.ext hbb)
    have TI' := Lib.hid (TI.out.ext hbb)
    have HX' := Lib.hid (HX.out.ext hbb)
    have HS' := Lib.hid (HS.out.ext hbb)
    have TW' := Lib.hid (TW.out.ext hbb)
    have TQ' := Lib.hid (TQ.out.ext hbb)
    have TK' := Lib.hid (TK.out.ext hbb)
    have TD' := Lib.hid (TD.out.ext hbb)
    have TS' := Lib.hid (TS.out.ext hbb)
    have TL' := Lib.hid (TL.out.ext hbb)
    have HRo' := Lib.hid (HRo.out.ext hbb)
    have TW2' := Lib.hid (TW2.out.ext hbb)
    have TQ2' := Lib.hid (TQ2.out.ext hbb)
    have TK2' := Lib.hid (TK2.out.ext hbb)
    have TD2' := Lib.hid (TD2.out.ext hbb)
    have HRo2' := Lib.hid (HRo2.out.ext hbb)
    have TS2' := Lib.hid (TS2.out.ext hbb)
    clear hbb hb HB HB5 HBR T6 TI HX HS TW TQ TK TD TS TL HRo TW2 TQ2 TK2 TD2 HRo2 TS2 hM hc hT hS
    have HB := HB'
    have HB5 := HB5'
    have HBR := HBR'
    have T6 := T6'
    have TI := TI'
    have HX := HX'
    have HS := HS'
    have TW := TW'
    have TQ := TQ'
    have TK := TK'
    have TD := TD'
    have TS := TS'
    have TL := TL'
    have HRo := HRo'
    have TW2 := TW2'
    have TQ2 := TQ2'
    have TK2 := TK2'
    have TD2 := TD2'
    have HRo2 := HRo2'
    have TS2 := TS2'
    clear HB' HB5' HBR' T6' TI' HX' HS' TW' TQ' TK' TD' TS' TL' HRo' TW2' TQ2' TK2' TD2' HRo2' TS2'
    obtain ⟨d0, d1⟩ := T6.out.box.cells
    dsimp only at d0 d1
    by_cases hn0 : nI < 0
    · obtain ⟨rfl, rfl⟩ : 0 = F1 ∧ 8 = EF := by
        have := HF.out
        rw [Med.file_behind Hok.out] at this
        unfold Med.behind at this
        rw [if_neg (show ¬ nI = 0 by omega), behind_neg _ _ _ hn0] at this
        simpa using this
      go_wp2_with (refine wpList_store_row rfl rfl 32 (.tmp 46) (.tmp 256) rfl wq.heap.size rfl 32 #[.int .i64 0, .slice none 0 0] #[.int .i64 ML.cap, .slice aL2 kL2 cL2] rfl (heap_alloc_new wq _) rfl (by kernel_rfl) (by simp [Value.oneCell']) ?_)
      clear d0 d1
      generalize hwx : World.setRow _ _ _ = wn at *
      generalize wq.heap.size = GL2 at *
      clear hwx
      refine wp_region_sp (by kernel_rfl) [Sp.eq (.int .i64 EW), Sp.eq (.int .i64 EW), Sp.eq (.bool false), Sp.eq (.bool false), Sp.eq (.int .i64 EQ), Sp.eq (.int .i64 EQ), Sp.eq (.bool false), Sp.eq (.bool false), Sp.eq (.bool false), Sp.eq (.int .i64 EK), Sp.eq (.int .i64 EK), Sp.eq (.bool false), Sp.eq (.bool false), Sp.eq (.bool false), Sp.eq (.int .i64 ED), Sp.eq (.int .i64 ED), Sp.eq (.bool false), Sp.eq (.bool false), Sp.eq (.bool false), Sp.eq (.int .i64 ER), Sp.eq (.int .i64 ER), Sp.eq (.bool false), Sp.eq (.bool false), Sp.eq (.bool false), Sp.eq (.int .i64 8), Sp.eq (.int .i64 8), Sp.eq (.bool false), Sp.eq (.bool false), Sp.eq (.bool false), Sp.eq (.int .i64 ES), Sp.eq (.int .i64 ES), Sp.eq (.bool false), Sp.eq (.bool false), Sp.eq (.bool false), Sp.eq (.int .i64 EL), Sp.eq (.int .i64 EL), Sp.eq (.bool false), Sp.eq (.bool false), Sp.eq (.bool false), Sp.eq (.int .i64 0), Sp.eq (.int .i64 0), Sp.eq (.bool false), Sp.eq (.bool false), Sp.eq (.bool false), Sp.eq (.agg #[.int .i64 cap, .slice aI n cI]), Sp.eq (.int .i64 Fs), Sp.eq (.agg #[.int .i64 cap, .slice a n c]), Sp.eq (.int .i64 Fs), Sp.eq (.bool false), Sp.eq (.bool false), Sp.eq (.bool false), Sp.eq (.slice aR kR cR), Sp.eq (.slice aR2 kR2 cR2), Sp.eq (.bool true), Sp.eq (.bool false), Sp.eq (.bool false)] (by kernel_rfl) ?_ ?_
      · refine stepsOk_cons ?_ (stepsOk_cons ?_ (stepsOk_cons ?_ (stepsOk_cons ?_ (stepsOk_cons ?_ (stepsOk_cons ?_ (stepsOk_cons ?_ (stepsOk_cons ?_ (stepsOk_cons ?_ (stepsOk_cons ?_ (stepsOk_cons ?_ (stepsOk_cons ?_ (stepsOk_cons ?_ (stepsOk_cons ?_ (stepsOk_cons ?_ (stepsOk_cons ?_ (stepsOk_cons ?_ (stepsOk_cons ?_ (stepsOk_cons ?_ (stepsOk_cons ?_ (stepsOk_cons ?_ (stepsOk_cons ?_ (stepsOk_cons ?_ (stepsOk_cons ?_ (stepsOk_cons ?_ (stepsOk_cons ?_ (stepsOk_cons ?_ (stepsOk_cons ?_ (stepsOk_cons ?_ (stepsOk_cons ?_ (stepsOk_cons ?_ (stepsOk_cons ?_ (stepsOk_cons ?_ (stepsOk_cons ?_ (stepsOk_cons ?_ (stepsOk_cons ?_ (stepsOk_cons ?_ (stepsOk_cons ?_ (stepsOk_cons ?_ (stepsOk_cons ?_ (stepsOk_cons ?_ (stepsOk_cons ?_ (stepsOk_cons ?_ (stepsOk_cons ?_ (stepsOk_cons ?_ (stepsOk_cons ?_ (stepsOk_cons ?_ (stepsOk_cons ?_ (stepsOk_cons ?_ (stepsOk_cons ?_ (stepsOk_cons ?_ (stepsOk_cons ?_ (stepsOk_cons ?_ (stepsOk_cons ?_ (stepsOk_cons ?_ (stepsOk_cons ?_ (stepsOk_nil))))))))))))))))))))))))))))))))))))))))))))))))))))))))
        · intro ρ w' E
          have e17 : ρ (.tmp 17) = .int .i64 EW := E.out 17 rfl
          refine step_plain rfl ?_
          exact op_move (.inl rfl) e17 ⟨Below.refl _ _, rfl⟩
        · intro ρ w' E
          have e33 : ρ (.tmp 33) = .int .i64 EW := E.out 33 rfl
          refine step_plain rfl ?_
          exact op_move (.inl rfl) e33 ⟨Below.refl _ _, rfl⟩
        · intro ρ w' E
          have e260 : ρ (.tmp 260) = .int .i64 EW := E.pre 0 rfl
          have e261 : ρ (.tmp 261) = .int .i64 EW := E.pre 1 rfl
          refine step_plain rfl ?_
          refine op_val (v := .bool false) (w' := w') ?_ ⟨Below.refl _ _, rfl⟩
          have hcon := E.con
          clear E
          go_simp
        · intro ρ w' E
          have e262 : ρ (.tmp 262) = .bool false := E.pre 2 rfl
          refine step_plain rfl ?_
          exact op_move (.inl rfl) e262 ⟨Below.refl _ _, rfl⟩
        · intro ρ w' E
          have e19 : ρ (.tmp 19) = .int .i64 EQ := E.out 19 rfl
          refine step_yes rfl (E.pre 3 rfl) ?_
          exact op_move (.inl rfl) e19 ⟨Below.refl _ _, rfl⟩
        · intro ρ w' E
          have e35 : ρ (.tmp 35) = .int .i64 EQ := E.out 35 rfl
          refine step_yes rfl (E.pre 3 rfl) ?_
          exact op_move (.inl rfl) e35 ⟨Below.refl _ _, rfl⟩
        · intro ρ w' E
          have e264 : ρ (.tmp 264) = .int .i64 EQ := E.pre 4 rfl
          have e265 : ρ (.tmp 265) = .int .i64 EQ := E.pre 5 rfl
          refine step_yes rfl (E.pre 3 rfl) ?_
          refine op_val (v := .bool false) (w' := w') ?_ ⟨Below.refl _ _, rfl⟩
          have hcon := E.con
          clear E
          go_simp
        · intro ρ w' E
          have e263 : ρ (.tmp 263) = .bool false := E.pre 3 rfl
          have e266 : ρ (.tmp 266) = .bool false := E.pre 6 rfl
          refine step_plain rfl ?_
          exact op_pick (b := false) rfl e263 rfl ⟨Below.refl _ _, e266⟩
        · intro ρ w' E
          have e267 : ρ (.tmp 267) = .bool false := E.pre 7 rfl
          refine step_plain rfl ?_
          exact op_move (.inl rfl) e267 ⟨Below.refl _ _, rfl⟩
        · intro ρ w' E
          have e21 : ρ (.tmp 21) = .int .i64 EK := E.out 21 rfl
          refine step_yes rfl (E.pre 8 rfl) ?_
          exact op_move (.inl rfl) e21 ⟨Below.refl _ _, rfl⟩
        · intro ρ w' E
          have e37 : ρ (.tmp 37) = .int .i64 EK := E.out 37 rfl
          refine step_yes rfl (E.pre 8 rfl) ?_
          exact op_move (.inl rfl) e37 ⟨Below.refl _ _, rfl⟩
        · intro ρ w' E
          have e269 : ρ (.tmp 269) = .int .i64 EK := E.pre 9 rfl
          have e270 : ρ (.tmp 270) = .int .i64 EK := E.pre 10 rfl
          refine step_yes rfl (E.pre 8 rfl) ?_
          refine op_val (v := .bool false) (w' := w') ?_ ⟨Below.refl _ _, rfl⟩
          have hcon := E.con
          clear E
          go_simp
        · intro ρ w' E
          have e268 : ρ (.tmp 268) = .bool false := E.pre 8 rfl
          have e271 : ρ (.tmp 271) = .bool false := E.pre 11 rfl
          refine step_plain rfl ?_
          exact op_pick (b := false) rfl e268 rfl ⟨Below.refl _ _, e271⟩
        · intro ρ w' E
          have e272 : ρ (.tmp 272) = .bool false := E.pre 12 rfl
          refine step_plain rfl ?_
          exact op_move (.inl rfl) e272 ⟨Below.refl _ _, rfl⟩
        · intro ρ w' E
          have e23 : ρ (.tmp 23) = .int .i64 ED := E.out 23 rfl
          refine step_yes rfl (E.pre 13 rfl) ?_
          exact op_move (.inl rfl) e23 ⟨Below.refl _ _, rfl⟩
        · intro ρ w' E
          have e39 : ρ (.tmp 39) = .int .i64 ED := E.out 39 rfl
          refine step_yes rfl (E.pre 13 rfl) ?_
          exact op_move (.inl rfl) e39 ⟨Below.refl _ _, rfl⟩
        · intro ρ w' E
          have e274 : ρ (.tmp 274) = .int .i64 ED := E.pre 14 rfl
          have e275 : ρ (.tmp 275) = .int .i64 ED := E.pre 15 rfl
          refine step_yes rfl (E.pre 13 rfl) ?_
          refine op_val (v := .bool false) (w' := w') ?_ ⟨Below.refl _ _, rfl⟩
          have hcon := E.con
          clear E
          go_simp
        · intro ρ w' E
          have e273 : ρ (.tmp 273) = .bool false := E.pre 13 rfl
          have e276 : ρ (.tmp 276) = .bool false := E.pre 16 rfl
          refine step_plain rfl ?_
          exact op_pick (b := false) rfl e273 rfl ⟨Below.refl _ _, e276⟩
        · intro ρ w' E
          have e277 : ρ (.tmp 277) = .bool false := E.pre 17 rfl
          refine step_plain rfl ?_
          exact op_move (.inl rfl) e277 ⟨Below.refl _ _, rfl⟩
        · intro ρ w' E
          have e25 : ρ (.tmp 25) = .int .i64 ER := E.out 25 rfl
          refine step_yes rfl (E.pre 18 rfl) ?_
          exact op_move (.inl rfl) e25 ⟨Below.refl _ _, rfl⟩
        · intro ρ w' E
          have e41 : ρ (.tmp 41) = .int .i64 ER := E.out 41 rfl
          refine step_yes rfl (E.pre 18 rfl) ?_
          exact op_move (.inl rfl) e41 ⟨Below.refl _ _, rfl⟩
        · intro ρ w' E
          have e279 : ρ (.tmp 279) = .int .i64 ER := E.pre 19 rfl
          have e280 : ρ (.tmp 280) = .int .i64 ER := E.pre 20 rfl
          refine step_yes rfl (E.pre 18 rfl) ?_
          refine op_val (v := .bool false) (w' := w') ?_ ⟨Below.refl _ _, rfl⟩
          have hcon := E.con
          clear E
          go_simp
        · intro ρ w' E
          have e278 : ρ (.tmp 278) = .bool false := E.pre 18 rfl
          have e281 : ρ (.tmp 281) = .bool false := E.pre 21 rfl
          refine step_plain rfl ?_
          exact op_pick (b := false) rfl e278 rfl ⟨Below.refl _ _, e281⟩
        · intro ρ w' E
          have e282 : ρ (.tmp 282) = .bool false := E.pre 22 rfl
          refine step_plain rfl ?_
          exact op_move (.inl rfl) e282 ⟨Below.refl _ _, rfl⟩
        · intro ρ w' E
          have e27 : ρ (.tmp 27) = .int .i64 8 := E.out 27 rfl
          refine step_yes rfl (E.pre 23 rfl) ?_
          exact op_move (.inl rfl) e27 ⟨Below.refl _ _, rfl⟩
        · intro ρ w' E
          have e43 : ρ (.tmp 43) = .int .i64 8 := E.out 43 rfl
          refine step_yes rfl (E.pre 23 rfl) ?_
          exact op_move (.inl rfl) e43 ⟨Below.refl _ _, rfl⟩
        · intro ρ w' E
          have e284 : ρ (.tmp 284) = .int .i64 8 := E.pre 24 rfl
          have e285 : ρ (.tmp 285) = .int .i64 8 := E.pre 25 rfl
          refine step_yes rfl (E.pre 23 rfl) ?_
          refine op_val (v := .bool false) (w' := w') ?_ ⟨Below.refl _ _, rfl⟩
          have hcon := E.con
          clear E
          go_simp
        · intro ρ w' E
          have e283 : ρ (.tmp 283) = .bool false := E.pre 23 rfl
          have e286 : ρ (.tmp 286) = .bool false := E.pre 26 rfl
          refine step_plain rfl ?_
          exact op_pick (b := false) rfl e283 rfl ⟨Below.refl _ _, e286⟩
        · intro ρ w' E
          have e287 : ρ (.tmp 287) = .bool false := E.pre 27 rfl
          refine step_plain rfl ?_
          exact op_move (.inl rfl) e287 ⟨Below.refl _ _, rfl⟩
        · intro ρ w' E
          have e29 : ρ (.tmp 29) = .int .i64 ES := E.out 29 rfl
          refine step_yes rfl (E.pre 28 rfl) ?_
          exact op_move (.inl rfl) e29 ⟨Below.refl _ _, rfl⟩
        · intro ρ w' E
          have e45 : ρ (.tmp 45) = .int .i64 ES := E.out 45 rfl
          refine step_yes rfl (E.pre 28 rfl) ?_
          exact op_move (.inl rfl) e45 ⟨Below.refl _ _, rfl⟩
        · intro ρ w' E
          have e289 : ρ (.tmp 289) = .int .i64 ES := E.pre 29 rfl
          have e290 : ρ (.tmp 290) = .int .i64 ES := E.pre 30 rfl
          refine step_yes rfl (E.pre 28 rfl) ?_
          refine op_val (v := .bool false) (w' := w') ?_ ⟨Below.refl _ _, rfl⟩
          have hcon := E.con
          clear E
          go_simp
        · intro ρ w' E
          have e288 : ρ (.tmp 288) = .bool false := E.pre 28 rfl
          have e291 : ρ (.tmp 291) = .bool false := E.pre 31 rfl
          refine step_plain rfl ?_
          exact op_pick (b := false) rfl e288 rfl ⟨Below.refl _ _, e291⟩
        · intro ρ w' E
          have e292 : ρ (.tmp 292) = .bool false := E.pre 32 rfl
          refine step_plain rfl ?_
          exact op_move (.inl rfl) e292 ⟨Below.refl _ _, rfl⟩
        · intro ρ w' E
          have e31 : ρ (.tmp 31) = .int .i64 EL := E.out 31 rfl
          refine step_yes rfl (E.pre 33 rfl) ?_
          exact op_move (.inl rfl) e31 ⟨Below.refl _ _, rfl⟩
        · intro ρ w' E
          have e47 : ρ (.tmp 47) = .int .i64 EL := E.out 47 rfl
          refine step_yes rfl (E.pre 33 rfl) ?_
          exact op_move (.inl rfl) e47 ⟨Below.refl _ _, rfl⟩
        · intro ρ w' E
          have e294 : ρ (.tmp 294) = .int .i64 EL := E.pre 34 rfl
          have e295 : ρ (.tmp 295) = .int .i64 EL := E.pre 35 rfl
          refine step_yes rfl (E.pre 33 rfl) ?_
          refine op_val (v := .bool false) (w' := w') ?_ ⟨Below.refl _ _, rfl⟩
          have hcon := E.con
          clear E
          go_simp
        · intro ρ w' E
          have e293 : ρ (.tmp 293) = .bool false := E.pre 33 rfl
          have e296 : ρ (.tmp 296) = .bool false := E.pre 36 rfl
          refine step_plain rfl ?_
          exact op_pick (b := false) rfl e293 rfl ⟨Below.refl _ _, e296⟩
        · intro ρ w' E
          have e297 : ρ (.tmp 297) = .bool false := E.pre 37 rfl
          refine step_plain rfl ?_
          exact op_move (.inl rfl) e297 ⟨Below.refl _ _, rfl⟩
        · intro ρ w' E
          have e26 : ρ (.tmp 26) = .int .i64 0 := E.out 26 rfl
          refine step_yes rfl (E.pre 38 rfl) ?_
          exact op_move (.inl rfl) e26 ⟨Below.refl _ _, rfl⟩
        · intro ρ w' E
          have e42 : ρ (.tmp 42) = .int .i64 0 := E.out 42 rfl
          refine step_yes rfl (E.pre 38 rfl) ?_
          exact op_move (.inl rfl) e42 ⟨Below.refl _ _, rfl⟩
        · intro ρ w' E
          have e299 : ρ (.tmp 299) = .int .i64 0 := E.pre 39 rfl
          have e300 : ρ (.tmp 300) = .int .i64 0 := E.pre 40 rfl
          refine step_yes rfl (E.pre 38 rfl) ?_
          refine op_val (v := .bool false) (w' := w') ?_ ⟨Below.refl _ _, rfl⟩
          have hcon := E.con
          clear E
          go_simp
        · intro ρ w' E
          have e298 : ρ (.tmp 298) = .bool false := E.pre 38 rfl
          have e301 : ρ (.tmp 301) = .bool false := E.pre 41 rfl
          refine step_plain rfl ?_
          exact op_pick (b := false) rfl e298 rfl ⟨Below.refl _ _, e301⟩
        · intro ρ w' E
          have e302 : ρ (.tmp 302) = .bool false := E.pre 42 rfl
          refine step_plain rfl ?_
          exact op_move (.inl rfl) e302 ⟨Below.refl _ _, rfl⟩
        · intro ρ w' E
          have e13 : ρ (.tmp 13) = .pointer (some ⟨GI, 0, none⟩) := E.out 13 rfl
          refine step_yes rfl (E.pre 43 rfl) ?_
          refine op_val (v := .agg #[.int .i64 cap, .slice aI n cI]) (w' := w') ?_ ⟨Below.refl _ _, rfl⟩
          obtain ⟨k0, k1⟩ := (TI.out.ext E.below).box.cells
          have hcon := E.con
          clear E
          go_simp
        · intro ρ w' E
          have e304 : ρ (.tmp 304) = .agg #[.int .i64 cap, .slice aI n cI] := E.pre 44 rfl
          refine step_yes rfl (E.pre 43 rfl) ?_
          refine op_call (f := 29) (args := #[.agg #[.int .i64 cap, .slice aI n cI]]) (w' := w') (by have hcon := E.con; have hfn := E.fn; clear E; go_simp) ?_
          refine (files_any cap aI cI n csI Fs w' (TI.out.ext E.below).r.mat TI.out.r.len.symm hn2 (by rw [HmI.out]; exact HFs.out)).mono ?_
          rintro e wz ⟨rfl, hbz⟩
          exact ⟨_, rfl, hbz, rfl⟩
        · intro ρ w' E
          have e6 : ρ (.tmp 6) = .pointer (some ⟨w.heap.size, 0, none⟩) := E.out 6 rfl
          refine step_yes rfl (E.pre 43 rfl) ?_
          refine op_val (v := .agg #[.int .i64 cap, .slice a n c]) (w' := w') ?_ ⟨Below.refl _ _, rfl⟩
          obtain ⟨k0, k1⟩ := (T6.out.ext E.below).box.cells
          have hcon := E.con
          clear E
          go_simp
        · intro ρ w' E
          have e306 : ρ (.tmp 306) = .agg #[.int .i64 cap, .slice a n c] := E.pre 46 rfl
          refine step_yes rfl (E.pre 43 rfl) ?_
          refine op_call (f := 67) (args := #[.agg #[.int .i64 cap, .slice a n c]]) (w' := w') (by have hcon := E.con; have hfn := E.fn; clear E; go_simp) ?_
          refine (reffiles_any cap a c n cs Fs w' (T6.out.ext E.below).mat T6.out.len hn2 Hok.out HFs.out).mono ?_
          rintro e wz ⟨rfl, hbz⟩
          exact ⟨_, rfl, hbz, rfl⟩
        · intro ρ w' E
          have e305 : ρ (.tmp 305) = .int .i64 Fs := E.pre 45 rfl
          have e307 : ρ (.tmp 307) = .int .i64 Fs := E.pre 47 rfl
          refine step_yes rfl (E.pre 43 rfl) ?_
          refine op_val (v := .bool false) (w' := w') ?_ ⟨Below.refl _ _, rfl⟩
          have hcon := E.con
          clear E
          go_simp
        · intro ρ w' E
          have e303 : ρ (.tmp 303) = .bool false := E.pre 43 rfl
          have e308 : ρ (.tmp 308) = .bool false := E.pre 48 rfl
          refine step_plain rfl ?_
          exact op_pick (b := false) rfl e303 rfl ⟨Below.refl _ _, e308⟩
        · intro ρ w' E
          have e309 : ρ (.tmp 309) = .bool false := E.pre 49 rfl
          refine step_plain rfl ?_
          exact op_move (.inl rfl) e309 ⟨Below.refl _ _, rfl⟩
        · intro ρ w' E
          have e24 : ρ (.tmp 24) = .slice aR kR cR := E.out 24 rfl
          refine step_yes rfl (E.pre 50 rfl) ?_
          exact op_move (.inl rfl) e24 ⟨Below.refl _ _, rfl⟩
        · intro ρ w' E
          have e40 : ρ (.tmp 40) = .slice aR2 kR2 cR2 := E.out 40 rfl
          refine step_yes rfl (E.pre 50 rfl) ?_
          exact op_move (.inl rfl) e40 ⟨Below.refl _ _, rfl⟩
        · intro ρ w' E
          have e311 : ρ (.tmp 311) = .slice aR kR cR := E.pre 51 rfl
          have e312 : ρ (.tmp 312) = .slice aR2 kR2 cR2 := E.pre 52 rfl
          refine step_yes rfl (E.pre 50 rfl) ?_
          refine op_call (f := 24) (args := #[.slice aR kR cR, .slice aR2 kR2 cR2]) (w' := w') (by have hcon := E.con; have hfn := E.fn; clear E; go_simp) ?_
          refine (bytes_at aR cR R1 aR2 cR2 R1 w' kR kR2 true (HRo.out.ext E.below).src (HRo2.out.ext E.below).src HRk.out HRk2.out (by have := HkR.out; omega) (by have h1 := HkR.out; have h2 := HRk.out; have h3 := HRk2.out; omega) (by simp)).mono ?_
          rintro e w2 ⟨rfl, n2, rfl⟩
          exact ⟨_, rfl, ext_drewN _ _ _, rfl⟩
        · intro ρ w' E
          have e313 : ρ (.tmp 313) = .bool true := E.pre 53 rfl
          refine step_yes rfl (E.pre 50 rfl) ?_
          refine op_val (v := .bool false) (w' := w') ?_ ⟨Below.refl _ _, rfl⟩
          have hcon := E.con
          clear E
          go_simp
        · intro ρ w' E
          have e310 : ρ (.tmp 310) = .bool false := E.pre 50 rfl
          have e314 : ρ (.tmp 314) = .bool false := E.pre 54 rfl
          refine step_plain rfl ?_
          exact op_pick (b := false) rfl e310 rfl ⟨Below.refl _ _, e314⟩
      · intro σ wr hb hall
        have h315 : σ 315 = .bool false := by obtain ⟨_, _, _, _, _, _, _, _, _, _, _, _, _, _, _, _, _, _, _, _, _, _, _, _, _, _, _, _, _, _, _, _, _, _, _, _, _, _, _, _, _, _, _, _, _, _, _, _, _, _, _, _, _, _, _, h, _⟩ := hall; exact h
        clear hall
        simp only [upd, updL, dstsOf', elemB, List.filterMap_cons, List.filterMap_nil, Nat.reduceAdd, Nat.reduceBEq, Bool.or_false, Bool.false_or, Bool.or_true, Bool.true_or, cond_true, cond_false, Nat.zero_add, h315]
        have HB' := Lib.hid (bthen HB.out hb (Nat.le_refl _))
        have HB5' := Lib.hid (bthen HB5.out hb (Nat.le_refl _))
        have HBR' := Lib.hid (bthen HBR.out hb (Nat.le_refl _))
        have T6' := Lib.hid (T6.out.ext hb)
        have TI' := Lib.hid (TI.out.ext hb)
        have TW' := Lib.hid (TW.out.ext hb)
        have TQ' := Lib.hid (TQ.out.ext hb)
        have TK' := Lib.hid (TK.out.ext hb)
        have TD' := Lib.hid (TD.out.ext hb)
        have TS' := Lib.hid (TS.out.ext hb)
        have TL' := Lib.hid (TL.out.ext hb)
        have TW2' := Lib.hid (TW2.out.ext hb)
        have TQ2' := Lib.hid (TQ2.out.ext hb)
        have TK2' := Lib.hid (TK2.out.ext hb)
        have TD2' := Lib.hid (TD2.out.ext hb)
        have TS2' := Lib.hid (TS2.out.ext hb)
        have TL2' := Lib.hid (TL2.out.ext hb)
        have HRo' := Lib.hid (HRo.out.ext hb)
        clear hb HB HB5 HBR T6 TI TW TQ TK TD TS TL TW2 TQ2 TK2 TD2 TS2 TL2 HRo
        have HB := HB'
        have HB5 := HB5'
        have HBR := HBR'
        have T6 := T6'
        have TI := TI'
        have TW := TW'
        have TQ := TQ'
        have TK := TK'
        have TD := TD'
        have TS := TS'
        have TL := TL'
        have TW2 := TW2'
        have TQ2 := TQ2'
        have TK2 := TK2'
        have TD2 := TD2'
        have TS2 := TS2'
        have TL2 := TL2'
        have HRo := HRo'
        clear HB' HB5' HBR' T6' TI' TW' TQ' TK' TD' TS' TL' TW2' TQ2' TK2' TD2' TS2' TL2' HRo'
        clear h315
        obtain ⟨d0, d1⟩ := TW.out.box.cells
        obtain ⟨e0, e1⟩ := TW2.out.box.cells
        go_wp2_with fail
        clear d0 d1 e0 e1
        refine (keepmed_any MW.cap MW.cap aW aW2 cW kW cW2 kW2 csW csW2 true _ TW.out.r.mat TW2.out.r.mat TW.out.r.len.symm TW2.out.r.len.symm TW.out.r.len63 TW2.out.r.len63 ⟨fun _ => ⟨rfl, TW.out.r.pls.trans TW2.out.r.pls.symm⟩, fun _ => rfl⟩).mono ?_
        rintro e wq ⟨rfl, hb⟩
        have HB' := Lib.hid (bthen HB.out hb (Nat.le_refl _))
        have HB5' := Lib.hid (bthen HB5.out hb (Nat.le_refl _))
        have TW' := Lib.hid (TW.out.ext hb)
        have TS' := Lib.hid (TS.out.ext hb)
        have HRo' := Lib.hid (HRo.out.ext hb)
        have TQ' := Lib.hid (TQ.out.ext hb)
        have TK' := Lib.hid (TK.out.ext hb)
        have TD' := Lib.hid (TD.out.ext hb)
        have TL' := Lib.hid (TL.out.ext hb)
        have TQ2' := Lib.hid (TQ2.out.ext hb)
        have TK2' := Lib.hid (TK2.out.ext hb)
        have TD2' := Lib.hid (TD2.out.ext hb)
        have TS2' := Lib.hid (TS2.out.ext hb)
        have TL2' := Lib.hid (TL2.out.ext hb)
        clear hb HB HB5 TW TS HRo TQ TK TD TL TQ2 TK2 TD2 TS2 TL2
        have HB := HB'
        have HB5 := HB5'
        have TW := TW'
        have TS := TS'
        have HRo := HRo'
        have TQ := TQ'
        have TK := TK'
        have TD := TD'
        have TL := TL'
        have TQ2 := TQ2'
        have TK2 := TK2'
        have TD2 := TD2'
        have TS2 := TS2'
        have TL2 := TL2'
        clear HB' HB5' TW' TS' HRo' TQ' TK' TD' TL' TQ2' TK2' TD2' TS2' TL2'
        obtain ⟨d0, d1⟩ := TQ.out.box.cells
        obtain ⟨e0, e1⟩ := TQ2.out.box.cells
        go_wp2_with fail
        clear d0 d1 e0 e1
        refine (keepmed_any MQ.cap MQ.cap aQ aQ2 cQ kQ cQ2 kQ2 csQ csQ2 true _ TQ.out.r.mat TQ2.out.r.mat TQ.out.r.len.symm TQ2.out.r.len.symm TQ.out.r.len63 TQ2.out.r.len63 ⟨fun _ => ⟨rfl, TQ.out.r.pls.trans TQ2.out.r.pls.symm⟩, fun _ => rfl⟩).mono ?_
        rintro e wq ⟨rfl, hb⟩
        have HB' := Lib.hid (bthen HB.out hb (Nat.le_refl _))
        have HB5' := Lib.hid (bthen HB5.out hb (Nat.le_refl _))
        have TW' := Lib.hid (TW.out.ext hb)
        have TS' := Lib.hid (TS.out.ext hb)
        have HRo' := Lib.hid (HRo.out.ext hb)
        have TK' := Lib.hid (TK.out.ext hb)
        have TD' := Lib.hid (TD.out.ext hb)
        have TL' := Lib.hid (TL.out.ext hb)
        have TK2' := Lib.hid (TK2.out.ext hb)
        have TD2' := Lib.hid (TD2.out.ext hb)
        have TS2' := Lib.hid (TS2.out.ext hb)
        have TL2' := Lib.hid (TL2.out.ext hb)
        clear hb HB HB5 TW TS HRo TK TD TL TK2 TD2 TS2 TL2
        have HB := HB'
        have HB5 := HB5'
        have TW := TW'
        have TS := TS'
        have HRo := HRo'
        have TK := TK'
        have TD := TD'
        have TL := TL'
        have TK2 := TK2'
        have TD2 := TD2'
        have TS2 := TS2'
        have TL2 := TL2'
        clear HB' HB5' TW' TS' HRo' TK' TD' TL' TK2' TD2' TS2' TL2'
        obtain ⟨d0, d1⟩ := TK.out.box.cells
        obtain ⟨e0, e1⟩ := TK2.out.box.cells
        go_wp2_with fail
        clear d0 d1 e0 e1
        refine (keepmed_any MK.cap MK.cap aK aK2 cK kK cK2 kK2 csK csK2 true _ TK.out.r.mat TK2.out.r.mat TK.out.r.len.symm TK2.out.r.len.symm TK.out.r.len63 TK2.out.r.len63 ⟨fun _ => ⟨rfl, TK.out.r.pls.trans TK2.out.r.pls.symm⟩, fun _ => rfl⟩).mono ?_
        rintro e wq ⟨rfl, hb⟩
        have HB' := Lib.hid (bthen HB.out hb (Nat.le_refl _))
        have HB5' := Lib.hid (bthen HB5.out hb (Nat.le_refl _))
        have TW' := Lib.hid (TW.out.ext hb)
        have TS' := Lib.hid (TS.out.ext hb)
        have HRo' := Lib.hid (HRo.out.ext hb)
        have TD' := Lib.hid (TD.out.ext hb)
        have TL' := Lib.hid (TL.out.ext hb)
        have TD2' := Lib.hid (TD2.out.ext hb)
        have TS2' := Lib.hid (TS2.out.ext hb)
        have TL2' := Lib.hid (TL2.out.ext hb)
        clear hb HB HB5 TW TS HRo TD TL TD2 TS2 TL2
        have HB := HB'
        have HB5 := HB5'
        have TW := TW'
        have TS := TS'
        have HRo := HRo'
        have TD := TD'
        have TL := TL'
        have TD2 := TD2'
        have TS2 := TS2'
        have TL2 := TL2'
        clear HB' HB5' TW' TS' HRo' TD' TL' TD2' TS2' TL2'
        obtain ⟨d0, d1⟩ := TD.out.box.cells
        obtain ⟨e0, e1⟩ := TD2.out.box.cells
        go_wp2_with fail
        clear d0 d1 e0 e1
        refine (keepmed_any MD.cap MD.cap aD aD2 cD kD cD2 kD2 csD csD2 true _ TD.out.r.mat TD2.out.r.mat TD.out.r.len.symm TD2.out.r.len.symm TD.out.r.len63 TD2.out.r.len63 ⟨fun _ => ⟨rfl, TD.out.r.pls.trans TD2.out.r.pls.symm⟩, fun _ => rfl⟩).mono ?_
        rintro e wq ⟨rfl, hb⟩
        have HB' := Lib.hid (bthen HB.out hb (Nat.le_refl _))
        have HB5' := Lib.hid (bthen HB5.out hb (Nat.le_refl _))
        have TW' := Lib.hid (TW.out.ext hb)
        have TS' := Lib.hid (TS.out.ext hb)
        have HRo' := Lib.hid (HRo.out.ext hb)
        have TL' := Lib.hid (TL.out.ext hb)
        have TS2' := Lib.hid (TS2.out.ext hb)
        have TL2' := Lib.hid (TL2.out.ext hb)
        clear hb HB HB5 TW TS HRo TL TS2 TL2
        have HB := HB'
        have HB5 := HB5'
        have TW := TW'
        have TS := TS'
        have HRo := HRo'
        have TL := TL'
        have TS2 := TS2'
        have TL2 := TL2'
        clear HB' HB5' TW' TS' HRo' TL' TS2' TL2'
        obtain ⟨d0, d1⟩ := TS.out.box.cells
        obtain ⟨e0, e1⟩ := TS2.out.box.cells
        go_wp2_with fail
        clear d0 d1 e0 e1
        refine (keepmed_any MS.cap MS.cap aS aS2 cS kS cS2 kS2 csS csS2 true _ TS.out.r.mat TS2.out.r.mat TS.out.r.len.symm TS2.out.r.len.symm TS.out.r.len63 TS2.out.r.len63 ⟨fun _ => ⟨rfl, TS.out.r.pls.trans TS2.out.r.pls.symm⟩, fun _ => rfl⟩).mono ?_
        rintro e wq ⟨rfl, hb⟩
        have HB' := Lib.hid (bthen HB.out hb (Nat.le_refl _))
        have HB5' := Lib.hid (bthen HB5.out hb (Nat.le_refl _))
        have TW' := Lib.hid (TW.out.ext hb)
        have TS' := Lib.hid (TS.out.ext hb)
        have HRo' := Lib.hid (HRo.out.ext hb)
        have TL' := Lib.hid (TL.out.ext hb)
        have TL2' := Lib.hid (TL2.out.ext hb)
        clear hb HB HB5 TW TS HRo TL TL2
        have HB := HB'
        have HB5 := HB5'
        have TW := TW'
        have TS := TS'
        have HRo := HRo'
        have TL := TL'
        have TL2 := TL2'
        clear HB' HB5' TW' TS' HRo' TL' TL2'
        obtain ⟨d0, d1⟩ := TL.out.box.cells
        obtain ⟨e0, e1⟩ := TL2.out.box.cells
        go_wp2_with fail
        clear d0 d1 e0 e1
        refine (keepmed_any ML.cap ML.cap aL aL2 cL kL cL2 kL2 csL csL2 true _ TL.out.r.mat TL2.out.r.mat TL.out.r.len.symm TL2.out.r.len.symm TL.out.r.len63 TL2.out.r.len63 ⟨fun _ => ⟨rfl, TL.out.r.pls.trans TL2.out.r.pls.symm⟩, fun _ => rfl⟩).mono ?_
        rintro e wq ⟨rfl, hb⟩
        have HB' := Lib.hid (bthen HB.out hb (Nat.le_refl _))
        have HB5' := Lib.hid (bthen HB5.out hb (Nat.le_refl _))
        have TW' := Lib.hid (TW.out.ext hb)
        have TS' := Lib.hid (TS.out.ext hb)
        have HRo' := Lib.hid (HRo.out.ext hb)
        clear hb HB HB5 TW TS HRo
        have HB := HB'
        have HB5 := HB5'
        have TW := TW'
        have TS := TS'
        have HRo := HRo'
        clear HB' HB5' TW' TS' HRo'
        obtain ⟨d0, d1⟩ := TW.out.box.cells
        go_wp2_with fail
        clear d0 d1
        have HwB := Lib.hid (Med.write_bound HW.out (n := 80) (K := 140737488355328) (by rw [show (medOf cap cs).cells.length = cs.length from pls_length cs, ← Hn.out]; exact hnn) (fun x hx => by obtain ⟨y, hy, rfl⟩ := List.mem_map.1 hx; exact Hx.out y hy) (by rw [← Hbn.out]; omega))
        refine (spoilmed_any _ _ MW.cap aW cW kW csW _ TW.out.r.own TW.out.r.len.symm (by have h1 := HwB.out.1; rw [TW.out.r.size] at h1; omega) (TW.out.at.short HwB.out.2) HB5.out.size HNW.out.1 HNW.out.2).mono ?_
        rintro e wA ⟨rfl, hbA, hmA⟩
        have HB' := Lib.hid (HB.out.trans (hbA.mono HB6.out.size))
        have HB5' := Lib.hid (HB5.out.trans hbA)
        have TS' : Hid (TapeO wA _ GS MS aS kS cS csS) := Lib.hid ⟨hmA.keep TS.out.box (fun h => by have h1 := HGWS2.out; have h2 := h.2; omega), ⟨TS.out.r.own.modB hmA (fun g T hg h => by have h1 := HGWS.out; have h2 := h.2; omega), TS.out.r.len, TS.out.r.pls⟩, TS.out.cap⟩
        have HRo' := Lib.hid (HRo.out.modB hmA (fun g hg h => by have h1 := HGWR.out; have h2 := h.2; omega))
        clear HB HB5 TS HRo hbA hmA TW HwB
        have HB := HB'
        have HB5 := HB5'
        have TS := TS'
        have HRo := HRo'
        clear HB' HB5' TS' HRo'
        obtain ⟨d0, d1⟩ := TS.out.box.cells
        go_wp2_with fail
        clear d0 d1
        have HsB := Lib.hid (Med.spoil_bound HSp.out (n := 80) (K := 140737488355328) (by rw [show (medOf cap cs).cells.length = cs.length from pls_length cs, ← Hn.out]; exact hnn) (fun x hx => by obtain ⟨y, hy, rfl⟩ := List.mem_map.1 hx; exact Hx.out y hy))
        refine (spoilmed_any _ _ MS.cap aS cS kS csS _ TS.out.r.own TS.out.r.len.symm (by have h1 := HsB.out.1; rw [TS.out.r.size] at h1; omega) (TS.out.at.short HsB.out.2) (by have h1 := heap_lt TS.out.box; have h2 := HNSl.out; omega) HNS.out.1 HNS.out.2).mono ?_
        rintro e wA ⟨rfl, hbA, hmA⟩
        have HB' := Lib.hid (HB.out.trans (hbA.mono (Nat.le_trans HB6.out.size HB6S.out)))
        have HB5' := Lib.hid (HB5.out.trans (hbA.mono HB6S.out))
        have HRo' := Lib.hid (HRo.out.modI hmA HRb.out (fun g _ hg h => by have h1 := HNRS.out; have h2 := h.1; omega))
        clear HB HB5 TS HRo hbA hmA HsB
        have HB := HB'
        have HB5 := HB5'
        have HRo := HRo'
        clear HB' HB5' HRo'
        go_wp2_with fail
        refine (spoil_mod _ aR cR kR R1 _ HRo.out HRk.out HkR.out).mono ?_
        rintro e wA ⟨rfl, _, hbA⟩
        have HB' := Lib.hid (HB.out.trans (hbA.mono (Nat.le_trans HB6.out.size HB6R.out)))
        have HB5' := Lib.hid (HB5.out.trans (hbA.mono HB6R.out))
        clear HB HB5 HRo hbA
        have HB := HB'
        have HB5 := HB5'
        clear HB' HB5'
        have TI := Lib.hid (TI0.out.ext HB5.out)
        have T6 := Lib.hid (T60.out.ext HB5.out)
        obtain ⟨d0, d1⟩ := TI.out.box.cells
        obtain ⟨e0, e1⟩ := T6.out.box.cells
        dsimp only at d0 d1 e0 e1
        go_wp2_with fail
        clear d0 d1 e0 e1
        refine (keepmed_any cap cap aI a cI n c n csI cs true _ TI.out.r.mat T6.out.mat TI.out.r.len.symm Hn.out hn2 hn2 ⟨fun _ => ⟨rfl, TI.out.r.pls⟩, fun _ => rfl⟩).mono ?_
        rintro e wq ⟨rfl, hb⟩
        have HB' := Lib.hid (bthen HB.out hb (Nat.le_refl _))
        clear hb HB
        have HB := HB'
        clear HB'
        go_wp2_with fail
        refine (wakes07_any _).mono ?_
        rintro e wq ⟨rfl, hb⟩
        go_wp2
        go_ret
        exact ⟨rfl, bthen HB.out hb (Nat.le_refl _)⟩
    · 
      go_wp2_with (refine wpList_store_row rfl rfl 32 (.tmp 46) (.tmp 256) rfl wq.heap.size rfl 32 #[.int .i64 0, .slice none 0 0] #[.int .i64 ML.cap, .slice aL2 kL2 cL2] rfl (heap_alloc_new wq _) rfl (by kernel_rfl) (by simp [Value.oneCell']) ?_)
      clear d0 d1
      generalize hwx : World.setRow _ _ _ = wn at *
      generalize wq.heap.size = GL2 at *
      clear hwx
      refine wp_region_sp (by kernel_rfl) [Sp.eq (.int .i64 EW), Sp.eq (.int .i64 EW), Sp.eq (.bool false), Sp.eq (.bool false), Sp.eq (.int .i64 EQ), Sp.eq (.int .i64 EQ), Sp.eq (.bool false), Sp.eq (.bool false), Sp.eq (.bool false), Sp.eq (.int .i64 EK), Sp.eq (.int .i64 EK), Sp.eq (.bool false), Sp.eq (.bool false), Sp.eq (.bool false), Sp.eq (.int .i64 ED), Sp.eq (.int .i64 ED), Sp.eq (.bool false), Sp.eq (.bool false), Sp.eq (.bool false), Sp.eq (.int .i64 ER), Sp.eq (.int .i64 ER), Sp.eq (.bool false), Sp.eq (.bool false), Sp.eq (.bool false), Sp.eq (.int .i64 EF), Sp.eq (.int .i64 EF), Sp.eq (.bool false), Sp.eq (.bool false), Sp.eq (.bool false), Sp.eq (.int .i64 ES), Sp.eq (.int .i64 ES), Sp.eq (.bool false), Sp.eq (.bool false), Sp.eq (.bool false), Sp.eq (.int .i64 EL), Sp.eq (.int .i64 EL), Sp.eq (.bool false), Sp.eq (.bool false), Sp.eq (.bool false), Sp.eq (.int .i64 F1), Sp.eq (.int .i64 F1), Sp.eq (.bool false), Sp.eq (.bool false), Sp.eq (.bool false), Sp.eq (.agg #[.int .i64 cap, .slice aI n cI]), Sp.eq (.int .i64 Fs), Sp.eq (.agg #[.int .i64 cap, .slice a n c]), Sp.eq (.int .i64 Fs), Sp.eq (.bool false), Sp.eq (.bool false), Sp.eq (.bool false), Sp.eq (.slice aR kR cR), Sp.eq (.slice aR2 kR2 cR2), Sp.eq (.bool true), Sp.eq (.bool false), Sp.eq (.bool false)] (by kernel_rfl) ?_ ?_
      · refine stepsOk_cons ?_ (stepsOk_cons ?_ (stepsOk_cons ?_ (stepsOk_cons ?_ (stepsOk_cons ?_ (stepsOk_cons ?_ (stepsOk_cons ?_ (stepsOk_cons ?_ (stepsOk_cons ?_ (stepsOk_cons ?_ (stepsOk_cons ?_ (stepsOk_cons ?_ (stepsOk_cons ?_ (stepsOk_cons ?_ (stepsOk_cons ?_ (stepsOk_cons ?_ (stepsOk_cons ?_ (stepsOk_cons ?_ (stepsOk_cons ?_ (stepsOk_cons ?_ (stepsOk_cons ?_ (stepsOk_cons ?_ (stepsOk_cons ?_ (stepsOk_cons ?_ (stepsOk_cons ?_ (stepsOk_cons ?_ (stepsOk_cons ?_ (stepsOk_cons ?_ (stepsOk_cons ?_ (stepsOk_cons ?_ (stepsOk_cons ?_ (stepsOk_cons ?_ (stepsOk_cons ?_ (stepsOk_cons ?_ (stepsOk_cons ?_ (stepsOk_cons ?_ (stepsOk_cons ?_ (stepsOk_cons ?_ (stepsOk_cons ?_ (stepsOk_cons ?_ (stepsOk_cons ?_ (stepsOk_cons ?_ (stepsOk_cons ?_ (stepsOk_cons ?_ (stepsOk_cons ?_ (stepsOk_cons ?_ (stepsOk_cons ?_ (stepsOk_cons ?_ (stepsOk_cons ?_ (stepsOk_cons ?_ (stepsOk_cons ?_ (stepsOk_cons ?_ (stepsOk_cons ?_ (stepsOk_cons ?_ (stepsOk_cons ?_ (stepsOk_cons ?_ (stepsOk_nil))))))))))))))))))))))))))))))))))))))))))))))))))))))))
        · intro ρ w' E
          have e17 : ρ (.tmp 17) = .int .i64 EW := E.out 17 rfl
          refine step_plain rfl ?_
          exact op_move (.inl rfl) e17 ⟨Below.refl _ _, rfl⟩
        · intro ρ w' E
          have e33 : ρ (.tmp 33) = .int .i64 EW := E.out 33 rfl
          refine step_plain rfl ?_
          exact op_move (.inl rfl) e33 ⟨Below.refl _ _, rfl⟩
        · intro ρ w' E
          have e260 : ρ (.tmp 260) = .int .i64 EW := E.pre 0 rfl
          have e261 : ρ (.tmp 261) = .int .i64 EW := E.pre 1 rfl
          refine step_plain rfl ?_
          refine op_val (v := .bool false) (w' := w') ?_ ⟨Below.refl _ _, rfl⟩
          have hcon := E.con
          clear E
          go_simp
        · intro ρ w' E
          have e262 : ρ (.tmp 262) = .bool false := E.pre 2 rfl
          refine step_plain rfl ?_
          exact op_move (.inl rfl) e262 ⟨Below.refl _ _, rfl⟩
        · intro ρ w' E
          have e19 : ρ (.tmp 19) = .int .i64 EQ := E.out 19 rfl
          refine step_yes rfl (E.pre 3 rfl) ?_
          exact op_move (.inl rfl) e19 ⟨Below.refl _ _, rfl⟩
        · intro ρ w' E
          have e35 : ρ (.tmp 35) = .int .i64 EQ := E.out 35 rfl
          refine step_yes rfl (E.pre 3 rfl) ?_
          exact op_move (.inl rfl) e35 ⟨Below.refl _ _, rfl⟩
        · intro ρ w' E
          have e264 : ρ (.tmp 264) = .int .i64 EQ := E.pre 4 rfl
          have e265 : ρ (.tmp 265) = .int .i64 EQ := E.pre 5 rfl
          refine step_yes rfl (E.pre 3 rfl) ?_
          refine op_val (v := .bool false) (w' := w') ?_ ⟨Below.refl _ _, rfl⟩
          have hcon := E.con
          clear E
          go_simp
        · intro ρ w' E
          have e263 : ρ (.tmp 263) = .bool false := E.pre 3 rfl
          have e266 : ρ (.tmp 266) = .bool false := E.pre 6 rfl
          refine step_plain rfl ?_
          exact op_pick (b := false) rfl e263 rfl ⟨Below.refl _ _, e266⟩
        · intro ρ w' E
          have e267 : ρ (.tmp 267) = .bool false := E.pre 7 rfl
          refine step_plain rfl ?_
          exact op_move (.inl rfl) e267 ⟨Below.refl _ _, rfl⟩
        · intro ρ w' E
          have e21 : ρ (.tmp 21) = .int .i64 EK := E.out 21 rfl
          refine step_yes rfl (E.pre 8 rfl) ?_
          exact op_move (.inl rfl) e21 ⟨Below.refl _ _, rfl⟩
        · intro ρ w' E
          have e37 : ρ (.tmp 37) = .int .i64 EK := E.out 37 rfl
          refine step_yes rfl (E.pre 8 rfl) ?_
          exact op_move (.inl rfl) e37 ⟨Below.refl _ _, rfl⟩
        · intro ρ w' E
          have e269 : ρ (.tmp 269) = .int .i64 EK := E.pre 9 rfl
          have e270 : ρ (.tmp 270) = .int .i64 EK := E.pre 10 rfl
          refine step_yes rfl (E.pre 8 rfl) ?_
          refine op_val (v := .bool false) (w' := w') ?_ ⟨Below.refl _ _, rfl⟩
          have hcon := E.con
          clear E
          go_simp
        · intro ρ w' E
          have e268 : ρ (.tmp 268) = .bool false := E.pre 8 rfl
          have e271 : ρ (.tmp 271) = .bool false := E.pre 11 rfl
          refine step_plain rfl ?_
          exact op_pick (b := false) rfl e268 rfl ⟨Below.refl _ _, e271⟩
        · intro ρ w' E
          have e272 : ρ (.tmp 272) = .bool false := E.pre 12 rfl
          refine step_plain rfl ?_
          exact op_move (.inl rfl) e272 ⟨Below.refl _ _, rfl⟩
        · intro ρ w' E
          have e23 : ρ (.tmp 23) = .int .i64 ED := E.out 23 rfl
          refine step_yes rfl (E.pre 13 rfl) ?_
          exact op_move (.inl rfl) e23 ⟨Below.refl _ _, rfl⟩
        · intro ρ w' E
          have e39 : ρ (.tmp 39) = .int .i64 ED := E.out 39 rfl
          refine step_yes rfl (E.pre 13 rfl) ?_
          exact op_move (.inl rfl) e39 ⟨Below.refl _ _, rfl⟩
        · intro ρ w' E
          have e274 : ρ (.tmp 274) = .int .i64 ED := E.pre 14 rfl
          have e275 : ρ (.tmp 275) = .int .i64 ED := E.pre 15 rfl
          refine step_yes rfl (E.pre 13 rfl) ?_
          refine op_val (v := .bool false) (w' := w') ?_ ⟨Below.refl _ _, rfl⟩
          have hcon := E.con
          clear E
          go_simp
        · intro ρ w' E
          have e273 : ρ (.tmp 273) = .bool false := E.pre 13 rfl
          have e276 : ρ (.tmp 276) = .bool false := E.pre 16 rfl
          refine step_plain rfl ?_
          exact op_pick (b := false) rfl e273 rfl ⟨Below.refl _ _, e276⟩
        · intro ρ w' E
          have e277 : ρ (.tmp 277) = .bool false := E.pre 17 rfl
          refine step_plain rfl ?_
          exact op_move (.inl rfl) e277 ⟨Below.refl _ _, rfl⟩
        · intro ρ w' E
          have e25 : ρ (.tmp 25) = .int .i64 ER := E.out 25 rfl
          refine step_yes rfl (E.pre 18 rfl) ?_
          exact op_move (.inl rfl) e25 ⟨Below.refl _ _, rfl⟩
        · intro ρ w' E
          have e41 : ρ (.tmp 41) = .int .i64 ER := E.out 41 rfl
          refine step_yes rfl (E.pre 18 rfl) ?_
          exact op_move (.inl rfl) e41 ⟨Below.refl _ _, rfl⟩
        · intro ρ w' E
          have e279 : ρ (.tmp 279) = .int .i64 ER := E.pre 19 rfl
          have e280 : ρ (.tmp 280) = .int .i64 ER := E.pre 20 rfl
          refine step_yes rfl (E.pre 18 rfl) ?_
          refine op_val (v := .bool false) (w' := w') ?_ ⟨Below.refl _ _, rfl⟩
          have hcon := E.con
          clear E
          go_simp
        · intro ρ w' E
          have e278 : ρ (.tmp 278) = .bool false := E.pre 18 rfl
          have e281 : ρ (.tmp 281) = .bool false := E.pre 21 rfl
          refine step_plain rfl ?_
          exact op_pick (b := false) rfl e278 rfl ⟨Below.refl _ _, e281⟩
        · intro ρ w' E
          have e282 : ρ (.tmp 282) = .bool false := E.pre 22 rfl
          refine step_plain rfl ?_
          exact op_move (.inl rfl) e282 ⟨Below.refl _ _, rfl⟩
        · intro ρ w' E
          have e27 : ρ (.tmp 27) = .int .i64 EF := E.out 27 rfl
          refine step_yes rfl (E.pre 23 rfl) ?_
          exact op_move (.inl rfl) e27 ⟨Below.refl _ _, rfl⟩
        · intro ρ w' E
          have e43 : ρ (.tmp 43) = .int .i64 EF := E.out 43 rfl
          refine step_yes rfl (E.pre 23 rfl) ?_
          exact op_move (.inl rfl) e43 ⟨Below.refl _ _, rfl⟩
        · intro ρ w' E
          have e284 : ρ (.tmp 284) = .int .i64 EF := E.pre 24 rfl
          have e285 : ρ (.tmp 285) = .int .i64 EF := E.pre 25 rfl
          refine step_yes rfl (E.pre 23 rfl) ?_
          refine op_val (v := .bool false) (w' := w') ?_ ⟨Below.refl _ _, rfl⟩
          have hcon := E.con
          clear E
          go_simp
        · intro ρ w' E
          have e283 : ρ (.tmp 283) = .bool false := E.pre 23 rfl
          have e286 : ρ (.tmp 286) = .bool false := E.pre 26 rfl
          refine step_plain rfl ?_
          exact op_pick (b := false) rfl e283 rfl ⟨Below.refl _ _, e286⟩
        · intro ρ w' E
          have e287 : ρ (.tmp 287) = .bool false := E.pre 27 rfl
          refine step_plain rfl ?_
          exact op_move (.inl rfl) e287 ⟨Below.refl _ _, rfl⟩
        · intro ρ w' E
          have e29 : ρ (.tmp 29) = .int .i64 ES := E.out 29 rfl
          refine step_yes rfl (E.pre 28 rfl) ?_
          exact op_move (.inl rfl) e29 ⟨Below.refl _ _, rfl⟩
        · intro ρ w' E
          have e45 : ρ (.tmp 45) = .int .i64 ES := E.out 45 rfl
          refine step_yes rfl (E.pre 28 rfl) ?_
          exact op_move (.inl rfl) e45 ⟨Below.refl _ _, rfl⟩
        · intro ρ w' E
          have e289 : ρ (.tmp 289) = .int .i64 ES := E.pre 29 rfl
          have e290 : ρ (.tmp 290) = .int .i64 ES := E.pre 30 rfl
          refine step_yes rfl (E.pre 28 rfl) ?_
          refine op_val (v := .bool false) (w' := w') ?_ ⟨Below.refl _ _, rfl⟩
          have hcon := E.con
          clear E
          go_simp
        · intro ρ w' E
          have e288 : ρ (.tmp 288) = .bool false := E.pre 28 rfl
          have e291 : ρ (.tmp 291) = .bool false := E.pre 31 rfl
          refine step_plain rfl ?_
          exact op_pick (b := false) rfl e288 rfl ⟨Below.refl _ _, e291⟩
        · intro ρ w' E
          have e292 : ρ (.tmp 292) = .bool false := E.pre 32 rfl
          refine step_plain rfl ?_
          exact op_move (.inl rfl) e292 ⟨Below.refl _ _, rfl⟩
        · intro ρ w' E
          have e31 : ρ (.tmp 31) = .int .i64 EL := E.out 31 rfl
          refine step_yes rfl (E.pre 33 rfl) ?_
          exact op_move (.inl rfl) e31 ⟨Below.refl _ _, rfl⟩
        · intro ρ w' E
          have e47 : ρ (.tmp 47) = .int .i64 EL := E.out 47 rfl
          refine step_yes rfl (E.pre 33 rfl) ?_
          exact op_move (.inl rfl) e47 ⟨Below.refl _ _, rfl⟩
        · intro ρ w' E
          have e294 : ρ (.tmp 294) = .int .i64 EL := E.pre 34 rfl
          have e295 : ρ (.tmp 295) = .int .i64 EL := E.pre 35 rfl
          refine step_yes rfl (E.pre 33 rfl) ?_
          refine op_val (v := .bool false) (w' := w') ?_ ⟨Below.refl _ _, rfl⟩
          have hcon := E.con
          clear E
          go_simp
        · intro ρ w' E
          have e293 : ρ (.tmp 293) = .bool false := E.pre 33 rfl
          have e296 : ρ (.tmp 296) = .bool false := E.pre 36 rfl
          refine step_plain rfl ?_
          exact op_pick (b := false) rfl e293 rfl ⟨Below.refl _ _, e296⟩
        · intro ρ w' E
          have e297 : ρ (.tmp 297) = .bool false := E.pre 37 rfl
          refine step_plain rfl ?_
          exact op_move (.inl rfl) e297 ⟨Below.refl _ _, rfl⟩
        · intro ρ w' E
          have e26 : ρ (.tmp 26) = .int .i64 F1 := E.out 26 rfl
          refine step_yes rfl (E.pre 38 rfl) ?_
          exact op_move (.inl rfl) e26 ⟨Below.refl _ _, rfl⟩
        · intro ρ w' E
          have e42 : ρ (.tmp 42) = .int .i64 F1 := E.out 42 rfl
          refine step_yes rfl (E.pre 38 rfl) ?_
          exact op_move (.inl rfl) e42 ⟨Below.refl _ _, rfl⟩
        · intro ρ w' E
          have e299 : ρ (.tmp 299) = .int .i64 F1 := E.pre 39 rfl
          have e300 : ρ (.tmp 300) = .int .i64 F1 := E.pre 40 rfl
          refine step_yes rfl (E.pre 38 rfl) ?_
          refine op_val (v := .bool false) (w' := w') ?_ ⟨Below.refl _ _, rfl⟩
          have hcon := E.con
          clear E
          go_simp
        · intro ρ w' E
          have e298 : ρ (.tmp 298) = .bool false := E.pre 38 rfl
          have e301 : ρ (.tmp 301) = .bool false := E.pre 41 rfl
          refine step_plain rfl ?_
          exact op_pick (b := false) rfl e298 rfl ⟨Below.refl _ _, e301⟩
        · intro ρ w' E
          have e302 : ρ (.tmp 302) = .bool false := E.pre 42 rfl
          refine step_plain rfl ?_
          exact op_move (.inl rfl) e302 ⟨Below.refl _ _, rfl⟩
        · intro ρ w' E
          have e13 : ρ (.tmp 13) = .pointer (some ⟨GI, 0, none⟩) := E.out 13 rfl
          refine step_yes rfl (E.pre 43 rfl) ?_
          refine op_val (v := .agg #[.int .i64 cap, .slice aI n cI]) (w' := w') ?_ ⟨Below.refl _ _, rfl⟩
          obtain ⟨k0, k1⟩ := (TI.out.ext E.below).box.cells
          have hcon := E.con
          clear E
          go_simp
        · intro ρ w' E
          have e304 : ρ (.tmp 304) = .agg #[.int .i64 cap, .slice aI n cI] := E.pre 44 rfl
          refine step_yes rfl (E.pre 43 rfl) ?_
          refine op_call (f := 29) (args := #[.agg #[.int .i64 cap, .slice aI n cI]]) (w' := w') (by have hcon := E.con; have hfn := E.fn; clear E; go_simp) ?_
          refine (files_any cap aI cI n csI Fs w' (TI.out.ext E.below).r.mat TI.out.r.len.symm hn2 (by rw [HmI.out]; exact HFs.out)).mono ?_
          rintro e wz ⟨rfl, hbz⟩
          exact ⟨_, rfl, hbz, rfl⟩
        · intro ρ w' E
          have e6 : ρ (.tmp 6) = .pointer (some ⟨w.heap.size, 0, none⟩) := E.out 6 rfl
          refine step_yes rfl (E.pre 43 rfl) ?_
          refine op_val (v := .agg #[.int .i64 cap, .slice a n c]) (w' := w') ?_ ⟨Below.refl _ _, rfl⟩
          obtain ⟨k0, k1⟩ := (T6.out.ext E.below).box.cells
          have hcon := E.con
          clear E
          go_simp
        · intro ρ w' E
          have e306 : ρ (.tmp 306) = .agg #[.int .i64 cap, .slice a n c] := E.pre 46 rfl
          refine step_yes rfl (E.pre 43 rfl) ?_
          refine op_call (f := 67) (args := #[.agg #[.int .i64 cap, .slice a n c]]) (w' := w') (by have hcon := E.con; have hfn := E.fn; clear E; go_simp) ?_
          refine (reffiles_any cap a c n cs Fs w' (T6.out.ext E.below).mat T6.out.len hn2 Hok.out HFs.out).mono ?_
          rintro e wz ⟨rfl, hbz⟩
          exact ⟨_, rfl, hbz, rfl⟩
        · intro ρ w' E
          have e305 : ρ (.tmp 305) = .int .i64 Fs := E.pre 45 rfl
          have e307 : ρ (.tmp 307) = .int .i64 Fs := E.pre 47 rfl
          refine step_yes rfl (E.pre 43 rfl) ?_
          refine op_val (v := .bool false) (w' := w') ?_ ⟨Below.refl _ _, rfl⟩
          have hcon := E.con
          clear E
          go_simp
        · intro ρ w' E
          have e303 : ρ (.tmp 303) = .bool false := E.pre 43 rfl
          have e308 : ρ (.tmp 308) = .bool false := E.pre 48 rfl
          refine step_plain rfl ?_
          exact op_pick (b := false) rfl e303 rfl ⟨Below.refl _ _, e308⟩
        · intro ρ w' E
          have e309 : ρ (.tmp 309) = .bool false := E.pre 49 rfl
          refine step_plain rfl ?_
          exact op_move (.inl rfl) e309 ⟨Below.refl _ _, rfl⟩
        · intro ρ w' E
          have e24 : ρ (.tmp 24) = .slice aR kR cR := E.out 24 rfl
          refine step_yes rfl (E.pre 50 rfl) ?_
          exact op_move (.inl rfl) e24 ⟨Below.refl _ _, rfl⟩
        · intro ρ w' E
          have e40 : ρ (.tmp 40) = .slice aR2 kR2 cR2 := E.out 40 rfl
          refine step_yes rfl (E.pre 50 rfl) ?_
          exact op_move (.inl rfl) e40 ⟨Below.refl _ _, rfl⟩
        · intro ρ w' E
          have e311 : ρ (.tmp 311) = .slice aR kR cR := E.pre 51 rfl
          have e312 : ρ (.tmp 312) = .slice aR2 kR2 cR2 := E.pre 52 rfl
          refine step_yes rfl (E.pre 50 rfl) ?_
          refine op_call (f := 24) (args := #[.slice aR kR cR, .slice aR2 kR2 cR2]) (w' := w') (by have hcon := E.con; have hfn := E.fn; clear E; go_simp) ?_
          refine (bytes_at aR cR R1 aR2 cR2 R1 w' kR kR2 true (HRo.out.ext E.below).src (HRo2.out.ext E.below).src HRk.out HRk2.out (by have := HkR.out; omega) (by have h1 := HkR.out; have h2 := HRk.out; have h3 := HRk2.out; omega) (by simp)).mono ?_
          rintro e w2 ⟨rfl, n2, rfl⟩
          exact ⟨_, rfl, ext_drewN _ _ _, rfl⟩
        · intro ρ w' E
          have e313 : ρ (.tmp 313) = .bool true := E.pre 53 rfl
          refine step_yes rfl (E.pre 50 rfl) ?_
          refine op_val (v := .bool false) (w' := w') ?_ ⟨Below.refl _ _, rfl⟩
          have hcon := E.con
          clear E
          go_simp
        · intro ρ w' E
          have e310 : ρ (.tmp 310) = .bool false := E.pre 50 rfl
          have e314 : ρ (.tmp 314) = .bool false := E.pre 54 rfl
          refine step_plain rfl ?_
          exact op_pick (b := false) rfl e310 rfl ⟨Below.refl _ _, e314⟩
      · intro σ wr hb hall
        have h315 : σ 315 = .bool false := by obtain ⟨_, _, _, _, _, _, _, _, _, _, _, _, _, _, _, _, _, _, _, _, _, _, _, _, _, _, _, _, _, _, _, _, _, _, _, _, _, _, _, _, _, _, _, _, _, _, _, _, _, _, _, _, _, _, _, h, _⟩ := hall; exact h
        clear hall
        simp only [upd, updL, dstsOf', elemB, List.filterMap_cons, List.filterMap_nil, Nat.reduceAdd, Nat.reduceBEq, Bool.or_false, Bool.false_or, Bool.or_true, Bool.true_or, cond_true, cond_false, Nat.zero_add, h315]
        have HB' := Lib.hid (bthen HB.out hb (Nat.le_refl _))
        have HB5' := Lib.hid (bthen HB5.out hb (Nat.le_refl _))
        have HBR' := Lib.hid (bthen HBR.out hb (Nat.le_refl _))
        have T6' := Lib.hid (T6.out.ext hb)
        have TI' := Lib.hid (TI.out.ext hb)
        have TW' := Lib.hid (TW.out.ext hb)
        have TQ' := Lib.hid (TQ.out.ext hb)
        have TK' := Lib.hid (TK.out.ext hb)
        have TD' := Lib.hid (TD.out.ext hb)
        have TS' := Lib.hid (TS.out.ext hb)
        have TL' := Lib.hid (TL.out.ext hb)
        have TW2' := Lib.hid (TW2.out.ext hb)
        have TQ2' := Lib.hid (TQ2.out.ext hb)
        have TK2' := Lib.hid (TK2.out.ext hb)
        have TD2' := Lib.hid (TD2.out.ext hb)
        have TS2' := Lib.hid (TS2.out.ext hb)
        have TL2' := Lib.hid (TL2.out.ext hb)
        have HRo' := Lib.hid (HRo.out.ext hb)
        clear hb HB HB5 HBR T6 TI TW TQ TK TD TS TL TW2 TQ2 TK2 TD2 TS2 TL2 HRo
        have HB := HB'
        have HB5 := HB5'
        have HBR := HBR'
        have T6 := T6'
        have TI := TI'
        have TW := TW'
        have TQ := TQ'
        have TK := TK'
        have TD := TD'
        have TS := TS'
        have TL := TL'
        have TW2 := TW2'
        have TQ2 := TQ2'
        have TK2 := TK2'
        have TD2 := TD2'
        have TS2 := TS2'
        have TL2 := TL2'
        have HRo := HRo'
        clear HB' HB5' HBR' T6' TI' TW' TQ' TK' TD' TS' TL' TW2' TQ2' TK2' TD2' TS2' TL2' HRo'
        clear h315
        obtain ⟨d0, d1⟩ := TW.out.box.cells
        obtain ⟨e0, e1⟩ := TW2.out.box.cells
        go_wp2_with fail
        clear d0 d1 e0 e1
        refine (keepmed_any MW.cap MW.cap aW aW2 cW kW cW2 kW2 csW csW2 true _ TW.out.r.mat TW2.out.r.mat TW.out.r.len.symm TW2.out.r.len.symm TW.out.r.len63 TW2.out.r.len63 ⟨fun _ => ⟨rfl, TW.out.r.pls.trans TW2.out.r.pls.symm⟩, fun _ => rfl⟩).mono ?_
        rintro e wq ⟨rfl, hb⟩
        have HB' := Lib.hid (bthen HB.out hb (Nat.le_refl _))
        have HB5' := Lib.hid (bthen HB5.out hb (Nat.le_refl _))
        have TW' := Lib.hid (TW.out.ext hb)
        have TS' := Lib.hid (TS.out.ext hb)
        have HRo' := Lib.hid (HRo.out.ext hb)
        have TQ' := Lib.hid (TQ.out.ext hb)
        have TK' := Lib.hid (TK.out.ext hb)
        have TD' := Lib.hid (TD.out.ext hb)
        have TL' := Lib.hid (TL.out.ext hb)
        have TQ2' := Lib.hid (TQ2.out.ext hb)
        have TK2' := Lib.hid (TK2.out.ext hb)
        have TD2' := Lib.hid (TD2.out.ext hb)
        have TS2' := Lib.hid (TS2.out.ext hb)
        have TL2' := Lib.hid (TL2.out.ext hb)
        clear hb HB HB5 TW TS HRo TQ TK TD TL TQ2 TK2 TD2 TS2 TL2
        have HB := HB'
        have HB5 := HB5'
        have TW := TW'
        have TS := TS'
        have HRo := HRo'
        have TQ := TQ'
        have TK := TK'
        have TD := TD'
        have TL := TL'
        have TQ2 := TQ2'
        have TK2 := TK2'
        have TD2 := TD2'
        have TS2 := TS2'
        have TL2 := TL2'
        clear HB' HB5' TW' TS' HRo' TQ' TK' TD' TL' TQ2' TK2' TD2' TS2' TL2'
        obtain ⟨d0, d1⟩ := TQ.out.box.cells
        obtain ⟨e0, e1⟩ := TQ2.out.box.cells
        go_wp2_with fail
        clear d0 d1 e0 e1
        refine (keepmed_any MQ.cap MQ.cap aQ aQ2 cQ kQ cQ2 kQ2 csQ csQ2 true _ TQ.out.r.mat TQ2.out.r.mat TQ.out.r.len.symm TQ2.out.r.len.symm TQ.out.r.len63 TQ2.out.r.len63 ⟨fun _ => ⟨rfl, TQ.out.r.pls.trans TQ2.out.r.pls.symm⟩, fun _ => rfl⟩).mono ?_
        rintro e wq ⟨rfl, hb⟩
        have HB' := Lib.hid (bthen HB.out hb (Nat.le_refl _))
        have HB5' := Lib.hid (bthen HB5.out hb (Nat.le_refl _))
        have TW' := Lib.hid (TW.out.ext hb)
        have TS' := Lib.hid (TS.out.ext hb)
        have HRo' := Lib.hid (HRo.out.ext hb)
        have TK' := Lib.hid (TK.out.ext hb)
        have TD' := Lib.hid (TD.out.ext hb)
        have TL' := Lib.hid (TL.out.ext hb)
        have TK2' := Lib.hid (TK2.out.ext hb)
        have TD2' := Lib.hid (TD2.out.ext hb)
        have TS2' := Lib.hid (TS2.out.ext hb)
        have TL2' := Lib.hid (TL2.out.ext hb)
        clear hb HB HB5 TW TS HRo TK TD TL TK2 TD2 TS2 TL2
        have HB := HB'
        have HB5 := HB5'
        have TW := TW'
        have TS := TS'
        have HRo := HRo'
        have TK := TK'
        have TD := TD'
        have TL := TL'
        have TK2 := TK2'
        have TD2 := TD2'
        have TS2 := TS2'
        have TL2 := TL2'
        clear HB' HB5' TW' TS' HRo' TK' TD' TL' TK2' TD2' TS2' TL2'
        obtain ⟨d0, d1⟩ := TK.out.box.cells
        obtain ⟨e0, e1⟩ := TK2.out.box.cells
        go_wp2_with fail
        clear d0 d1 e0 e1
        refine (keepmed_any MK.cap MK.cap aK aK2 cK kK cK2 kK2 csK csK2 true _ TK.out.r.mat TK2.out.r.mat TK.out.r.len.symm TK2.out.r.len.symm TK.out.r.len63 TK2.out.r.len63 ⟨fun _ => ⟨rfl, TK.out.r.pls.trans TK2.out.r.pls.symm⟩, fun _ => rfl⟩).mono ?_
        rintro e wq ⟨rfl, hb⟩
        have HB' := Lib.hid (bthen HB.out hb (Nat.le_refl _))
        have HB5' := Lib.hid (bthen HB5.out hb (Nat.le_refl _))
        have TW' := Lib.hid (TW.out.ext hb)
        have TS' := Lib.hid (TS.out.ext hb)
        have HRo' := Lib.hid (HRo.out.ext hb)
        have TD' := Lib.hid (TD.out.ext hb)
        have TL' := Lib.hid (TL.out.ext hb)
        have TD2' := Lib.hid (TD2.out.ext hb)
        have TS2' := Lib.hid (TS2.out.ext hb)
        have TL2' := Lib.hid (TL2.out.ext hb)
        clear hb HB HB5 TW TS HRo TD TL TD2 TS2 TL2
        have HB := HB'
        have HB5 := HB5'
        have TW := TW'
        have TS := TS'
        have HRo := HRo'
        have TD := TD'
        have TL := TL'
        have TD2 := TD2'
        have TS2 := TS2'
        have TL2 := TL2'
        clear HB' HB5' TW' TS' HRo' TD' TL' TD2' TS2' TL2'
        obtain ⟨d0, d1⟩ := TD.out.box.cells
        obtain ⟨e0, e1⟩ := TD2.out.box.cells
        go_wp2_with fail
        clear d0 d1 e0 e1
        refine (keepmed_any MD.cap MD.cap aD aD2 cD kD cD2 kD2 csD csD2 true _ TD.out.r.mat TD2.out.r.mat TD.out.r.len.symm TD2.out.r.len.symm TD.out.r.len63 TD2.out.r.len63 ⟨fun _ => ⟨rfl, TD.out.r.pls.trans TD2.out.r.pls.symm⟩, fun _ => rfl⟩).mono ?_
        rintro e wq ⟨rfl, hb⟩
        have HB' := Lib.hid (bthen HB.out hb (Nat.le_refl _))
        have HB5' := Lib.hid (bthen HB5.out hb (Nat.le_refl _))
        have TW' := Lib.hid (TW.out.ext hb)
        have TS' := Lib.hid (TS.out.ext hb)
        have HRo' := Lib.hid (HRo.out.ext hb)
        have TL' := Lib.hid (TL.out.ext hb)
        have TS2' := Lib.hid (TS2.out.ext hb)
        have TL2' := Lib.hid (TL2.out.ext hb)
        clear hb HB HB5 TW TS HRo TL TS2 TL2
        have HB := HB'
        have HB5 := HB5'
        have TW := TW'
        have TS := TS'
        have HRo := HRo'
        have TL := TL'
        have TS2 := TS2'
        have TL2 := TL2'
        clear HB' HB5' TW' TS' HRo' TL' TS2' TL2'
        obtain ⟨d0, d1⟩ := TS.out.box.cells
        obtain ⟨e0, e1⟩ := TS2.out.box.cells
        go_wp2_with fail
        clear d0 d1 e0 e1
        refine (keepmed_any MS.cap MS.cap aS aS2 cS kS cS2 kS2 csS csS2 true _ TS.out.r.mat TS2.out.r.mat TS.out.r.len.symm TS2.out.r.len.symm TS.out.r.len63 TS2.out.r.len63 ⟨fun _ => ⟨rfl, TS.out.r.pls.trans TS2.out.r.pls.symm⟩, fun _ => rfl⟩).mono ?_
        rintro e wq ⟨rfl, hb⟩
        have HB' := Lib.hid (bthen HB.out hb (Nat.le_refl _))
        have HB5' := Lib.hid (bthen HB5.out hb (Nat.le_refl _))
        have TW' := Lib.hid (TW.out.ext hb)
        have TS' := Lib.hid (TS.out.ext hb)
        have HRo' := Lib.hid (HRo.out.ext hb)
        have TL' := Lib.hid (TL.out.ext hb)
        have TL2' := Lib.hid (TL2.out.ext hb)
        clear hb HB HB5 TW TS HRo TL TL2
        have HB := HB'
        have HB5 := HB5'
        have TW := TW'
        have TS := TS'
        have HRo := HRo'
        have TL := TL'
        have TL2 := TL2'
        clear HB' HB5' TW' TS' HRo' TL' TL2'
        obtain ⟨d0, d1⟩ := TL.out.box.cells
        obtain ⟨e0, e1⟩ := TL2.out.box.cells
        go_wp2_with fail
        clear d0 d1 e0 e1
        refine (keepmed_any ML.cap ML.cap aL aL2 cL kL cL2 kL2 csL csL2 true _ TL.out.r.mat TL2.out.r.mat TL.out.r.len.symm TL2.out.r.len.symm TL.out.r.len63 TL2.out.r.len63 ⟨fun _ => ⟨rfl, TL.out.r.pls.trans TL2.out.r.pls.symm⟩, fun _ => rfl⟩).mono ?_
        rintro e wq ⟨rfl, hb⟩
        have HB' := Lib.hid (bthen HB.out hb (Nat.le_refl _))
        have HB5' := Lib.hid (bthen HB5.out hb (Nat.le_refl _))
        have TW' := Lib.hid (TW.out.ext hb)
        have TS' := Lib.hid (TS.out.ext hb)
        have HRo' := Lib.hid (HRo.out.ext hb)
        clear hb HB HB5 TW TS HRo
        have HB := HB'
        have HB5 := HB5'
        have TW := TW'
        have TS := TS'
        have HRo := HRo'
        clear HB' HB5' TW' TS' HRo'
        obtain ⟨d0, d1⟩ := TW.out.box.cells
        go_wp2_with fail
        clear d0 d1
        have HwB := Lib.hid (Med.write_bound HW.out (n := 80) (K := 140737488355328) (by rw [show (medOf cap cs).cells.length = cs.length from pls_length cs, ← Hn.out]; exact hnn) (fun x hx => by obtain ⟨y, hy, rfl⟩ := List.mem_map.1 hx; exact Hx.out y hy) (by rw [← Hbn.out]; omega))
        refine (spoilmed_any _ _ MW.cap aW cW kW csW _ TW.out.r.own TW.out.r.len.symm (by have h1 := HwB.out.1; rw [TW.out.r.size] at h1; omega) (TW.out.at.short HwB.out.2) HB5.out.size HNW.out.1 HNW.out.2).mono ?_
        rintro e wA ⟨rfl, hbA, hmA⟩
        have HB' := Lib.hid (HB.out.trans (hbA.mono HB6.out.size))
        have HB5' := Lib.hid (HB5.out.trans hbA)
        have TS' : Hid (TapeO wA _ GS MS aS kS cS csS) := Lib.hid ⟨hmA.keep TS.out.box (fun h => by have h1 := HGWS2.out; have h2 := h.2; omega), ⟨TS.out.r.own.modB hmA (fun g T hg h => by have h1 := HGWS.out; have h2 := h.2; omega), TS.out.r.len, TS.out.r.pls⟩, TS.out.cap⟩
        have HRo' := Lib.hid (HRo.out.modB hmA (fun g hg h => by have h1 := HGWR.out; have h2 := h.2; omega))
        clear HB HB5 TS HRo hbA hmA TW HwB
        have HB := HB'
        have HB5 := HB5'
        have TS := TS'
        have HRo := HRo'
        clear HB' HB5' TS' HRo'
        obtain ⟨d0, d1⟩ := TS.out.box.cells
        go_wp2_with fail
        clear d0 d1
        have HsB := Lib.hid (Med.spoil_bound HSp.out (n := 80) (K := 140737488355328) (by rw [show (medOf cap cs).cells.length = cs.length from pls_length cs, ← Hn.out]; exact hnn) (fun x hx => by obtain ⟨y, hy, rfl⟩ := List.mem_map.1 hx; exact Hx.out y hy))
        refine (spoilmed_any _ _ MS.cap aS cS kS csS _ TS.out.r.own TS.out.r.len.symm (by have h1 := HsB.out.1; rw [TS.out.r.size] at h1; omega) (TS.out.at.short HsB.out.2) (by have h1 := heap_lt TS.out.box; have h2 := HNSl.out; omega) HNS.out.1 HNS.out.2).mono ?_
        rintro e wA ⟨rfl, hbA, hmA⟩
        have HB' := Lib.hid (HB.out.trans (hbA.mono (Nat.le_trans HB6.out.size HB6S.out)))
        have HB5' := Lib.hid (HB5.out.trans (hbA.mono HB6S.out))
        have HRo' := Lib.hid (HRo.out.modI hmA HRb.out (fun g _ hg h => by have h1 := HNRS.out; have h2 := h.1; omega))
        clear HB HB5 TS HRo hbA hmA HsB
        have HB := HB'
        have HB5 := HB5'
        have HRo := HRo'
        clear HB' HB5' HRo'
        go_wp2_with fail
        refine (spoil_mod _ aR cR kR R1 _ HRo.out HRk.out HkR.out).mono ?_
        rintro e wA ⟨rfl, _, hbA⟩
        have HB' := Lib.hid (HB.out.trans (hbA.mono (Nat.le_trans HB6.out.size HB6R.out)))
        have HB5' := Lib.hid (HB5.out.trans (hbA.mono HB6R.out))
        clear HB HB5 HRo hbA
        have HB := HB'
        have HB5 := HB5'
        clear HB' HB5'
        have TI := Lib.hid (TI0.out.ext HB5.out)
        have T6 := Lib.hid (T60.out.ext HB5.out)
        obtain ⟨d0, d1⟩ := TI.out.box.cells
        obtain ⟨e0, e1⟩ := T6.out.box.cells
        dsimp only at d0 d1 e0 e1
        go_wp2_with fail
        clear d0 d1 e0 e1
        refine (keepmed_any cap cap aI a cI n c n csI cs true _ TI.out.r.mat T6.out.mat TI.out.r.len.symm Hn.out hn2 hn2 ⟨fun _ => ⟨rfl, TI.out.r.pls⟩, fun _ => rfl⟩).mono ?_
        rintro e wq ⟨rfl, hb⟩
        have HB' := Lib.hid (bthen HB.out hb (Nat.le_refl _))
        clear hb HB
        have HB := HB'
        clear HB'
        go_wp2_with fail
        refine (wakes07_any _).mono ?_
        rintro e wq ⟨rfl, hb⟩
        go_wp2
        go_ret
        exact ⟨rfl, bthen HB.out hb (Nat.le_refl _)⟩
end Go.Proofs.Ytilmldkaagbofaa
