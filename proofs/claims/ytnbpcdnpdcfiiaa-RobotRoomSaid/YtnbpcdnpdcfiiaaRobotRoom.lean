/- The walk of RobotRoom. -/
import Derived.Test.YtnbpcdnpdcfiiaaRobPair
import Derived.Test.YtnbpcdnpdcfiiaaRobotRoomPartO
namespace Go.Proofs.Ytnbpcdnpdcfiiaa
open Go.RowKit

def bo1 (b : Bool) : List Value := [.bool b]
theorem flt_bo1 (l : List Bool) : flt bo1 l = bovs l := by
  induction l with
  | nil => rfl
  | cons x l ih => rw [flt_cons, ih]; rfl
theorem bovs_set (l : List Bool) (i : Nat) (b : Bool) : (bovs l).set i (.bool b) = bovs (l.set i b) := by simp [bovs, List.map_set]
theorem own_bool_at {w : World} {B : Nat} {L n c : Nat} {l : List Bool} (h : Own w B 4 1 (some ⟨L, 0, none⟩) n c (bovs l)) {v : Nat} (hv : v < l.length) : w.cell? ⟨L, v, none⟩ = some (.bool l[v]) ∧ w.frozen? ⟨L, v, none⟩ = false ∧ B ≤ L ∧ ∃ cur, w.heap[L]? = some (.cells cur 4 (0, 0)) := by
  have hn : v < n := by have := h.1; simp [bovs] at this; omega
  obtain ⟨g, ha, hB, _, hat, hf⟩ := h.at hn
  simp only [Option.some.injEq, Addr.mk.injEq, and_true] at ha
  subst ha
  refine ⟨?_, hf v, hB, (h.blk (by omega)).2.2⟩
  rw [hat v (by simpa [bovs] using hv)]
  simp [bovs]

set_option maxRecDepth 100000 in
set_option maxHeartbeats 8000000 in
theorem robotRoom_walk (w : World) (vI : Int) (wv : (Lit.int .i64 vI).wf = true) (a : Option Addr) (c : Nat) (zs : List Int) (hs : Src w a (ivs zs)) (hl : zs.length ≤ 9223372036854775807) :
    Calls Try.prog 4 #[.int .i64 vI, .slice a zs.length c] w fun e w' => e = .returned (.bool true) ∧ Below w.heap.size w w' := by
  obtain ⟨i0, hi0, hz0, hz1, hz2⟩ := info_parts infoBool
  obtain ⟨N, hN⟩ : ∃ N, N = zs.length := ⟨_, rfl⟩
  rw [← hN]
  have HN := Lib.hid hN
  have hN2 : N ≤ 9223372036854775807 := by omega
  have Hs := Lib.hid hs
  obtain ⟨q, hq, eq⟩ := umod vI 4 (by decide) (by decide)
  obtain ⟨n, hn, hn1, hn4⟩ : ∃ n, n = 1 + q ∧ 1 ≤ n ∧ n ≤ 4 := ⟨_, rfl, by omega, by omega⟩
  have e1q : (1 : Int) + (q : Int) = (n : Int) := by omega
  clear hs hl hN hn
  go_enter Try.func4, Try.ntmps4
  by_cases h60 : 60 < N
  · have eb : decide ((N : Int) > 60) = true := by simp; omega
    go_wp2
    go_ret
    exact ⟨rfl, Below.refl _ _⟩
  have eb : decide ((N : Int) > 60) = false := by simp; omega
  have hN60 : N ≤ 60 := by omega
  clear h60
  go_wp2_with fail
  clear eb eq hq
  refine (power_new w).mono ?_
  rintro e w1 ⟨g, rfl, hp1, hb1⟩
  have HP1 := Lib.hid hp1
  have HB1 := Lib.hid hb1
  have HBC := Lib.hid hb1.size
  clear hp1 hb1
  go_wp2_with fail
  try rw [e1q]
  refine (rob_new (B := w.heap.size) (K := fun b => w1.heap.size ≤ b) (fun _ => 0) n 5 n w1 ⟨HBC.out, fun b hb => hb⟩ HP1.out (by omega) (by decide) (by omega)).mono ?_
  rintro e w2 ⟨ra, rfl, h2, hb2⟩
  have HA2 := Lib.hid h2
  have HB2 := Lib.hid hb2
  clear h2 hb2
  go_wp2_with fail
  refine (rob_new (B := w.heap.size) (K := fun b => w2.heap.size ≤ b) (fun _ => 0) n 5 1 w2 ⟨Nat.le_trans HBC.out HB2.out.size, fun b hb => hb⟩ (HP1.out.ext HB2.out) (by omega) (by decide) (by decide)).mono ?_
  rintro e w3 ⟨rb, rfl, h3, hb3⟩
  have HPr : Hid (Pair w.heap.size w1.heap.size w3 ra rb g (RS.new n 5 n) (RS.new n 5 1)) := Lib.hid
    ⟨fun b => w1.heap.size ≤ b ∧ b < w2.heap.size, fun b => w2.heap.size ≤ b ∧ b < w3.heap.size, _, _, fun b hk => ⟨hk.1, Nat.lt_of_lt_of_le hk.2 hb3.size⟩, fun b hk => ⟨Nat.le_trans HB2.out.size hk.1, hk.2⟩, fun b hk hk2 => by omega,
      (HA2.out.q.rek fun b _ hb hk => ⟨hk, hb⟩).ext hb3, h3.q.rek fun b _ hb hk => ⟨hk, hb⟩⟩
  have HB3 := Lib.hid (bthen HB2.out hb3 (Nat.le_refl _))
  clear h3 hb3 HA2 HB2
  go_wp2_with (refine wpList_makeF rfl (.tmp 60) (.tmp 60) 68 rfl 4 i0 (.bool false) bo1 1 (fun _ => rfl) (by decide) false rfl Try.underlying68 hi0 hz0 hz1 n rfl rfl (by rw [hz2]; omega) (by unfold maxLen; omega) ?_; intro w4 ho4 hb4)
  have hb34 := hb4
  rw [flt_bo1] at ho4
  have HPq := Lib.hid (HPr.out.ext hb4)
  have HLq := Lib.hid (ho4.mono (base' := w1.heap.size) HB3.out.size)
  have HBq := Lib.hid (bthen HB3.out hb4 (Nat.le_refl _))
  have HRA := Lib.hid (RoomA.new n (by omega))
  have HRB := Lib.hid (RoomB.new n (by omega))
  generalize w3.heap.size = L at *
  clear ho4 hb4 hb34 HPr HB3
  go_wp2_with fail
  go_loopw [11, 12, 13, 14] (fun m tu la i wr => ∃ (t : Nat) (seen : List Bool) (last : Int) (SA SB : RS) (turns cnt : Nat) (wx : World), wx = wr ∧ t ≤ N ∧ turns ≤ t ∧ i = .int .i64 (t : Int) ∧ m = .int .i64 (cnt : Int) ∧ tu = .int .i64 (turns : Int) ∧ la = .int .i64 last ∧ cnt = seen.count true ∧ seen.length = n ∧ RoomA SA seen ∧ RoomB SB n last turns ∧ SA.asked = (t : Int) ∧ SB.asked = (t : Int) ∧ Pair w.heap.size w1.heap.size wx ra rb g SA SB ∧ Own wx w1.heap.size 4 1 (some ⟨L, 0, none⟩) n n (bovs seen) ∧ Below w1.heap.size w1 wx) (fun _ _ _ i _ => N - (intOf i).toNat)
  case atStart => exact ⟨0, _, -1, _, _, 0, 0, _, rfl, by omega, by omega, rfl, rfl, rfl, rfl, by simp [List.count_replicate], by simp, HRA.out, HRB.out, rfl, rfl, HPq.out, HLq.out, HBq.out⟩
  case round =>
    obtain ⟨t, seen, last, SA, SB, turns, cnt, wx, hwx, htN, htt, rfl, rfl, rfl, rfl, hcnt, hsl, hRA, hRB, hSa, hSb, hP, hL, hB⟩ := hrel
    subst hwx
    clear HPq HLq HBq HRA HRB
    have RAh := Lib.hid hRA
    have RBh := Lib.hid hRB
    have SAa := Lib.hid hSa
    have SBa := Lib.hid hSb
    have HPx := Lib.hid hP
    have HLx := Lib.hid hL
    have HBx := Lib.hid hB
    have Hcnt := Lib.hid hcnt
    have Hsl := Lib.hid hsl
    clear hRA hRB hSa hSb hP hL hB hcnt hsl
    by_cases htl : t < N
    · have hjl : t < zs.length := by have := HN.out; omega
      obtain ⟨zb, zo, hza, hlz, hat⟩ := src_ints_at Hs.out hjl
      subst hza
      have c0 := (World.cell?_of_block (w := w) (a := ⟨zb, zo + t, none⟩) ((HB1.out.trans (HBx.out.mono HBC.out) |>.block zb hlz))).trans (hat t hjl)
      generalize zs[t] = z at c0
      obtain ⟨v, hv, ev⟩ := umod z (n : Int) (by omega) (by omega)
      have hvn : v < n := by omega
      have hvl : v < seen.length := by rw [Hsl.out]; exact hvn
      obtain ⟨s0, f0, hBL, cur, hcur⟩ := own_bool_at HLx.out hvl
      have hc4 : cnt ≤ 4 := by rw [Hcnt.out]; have := List.count_le_length (a := true) (l := seen); have := Hsl.out; omega
      cases hsv : seen[v] with
      | true =>
        rw [hsv] at s0
        have hset : seen.set v true = seen := by rw [← hsv]; exact List.set_getElem_self hvl
        have HPq := HPx
        have HBq := HBx
        have HLq : Hid (Own wx w1.heap.size 4 1 (some ⟨L, 0, none⟩) n n (bovs (seen.set v true))) := Lib.hid (by rw [hset]; exact HLx.out)
        have HMX : Hid (((seen.set v true).count true : Nat) = (cnt : Int)) := Lib.hid (by rw [hset, Hcnt.out])
        have Hsl' : Hid ((seen.set v true).length = n) := Lib.hid (by rw [List.length_set]; exact Hsl.out)
        clear hset hcur hat HPx HBx HLx hsv
        by_cases hla : (v : Int) = last
        · have el : ((v : Int) == last) = true := by simpa using hla
          have el2 : ((v : Int) != last) = false := by simpa using hla
          have HTN : Hid ((if (v : Int) = last then turns else turns + 1) = turns) := Lib.hid (if_pos hla)
          have HTX : Hid (((turns : Nat) : Int) = (turns:Int)) := Lib.hid rfl
          have Hla := Lib.hid hla
          clear hla
          go_wp2_with fail
          try rw [ev]
          clear s0 c0 ev el el2 f0
          -- a round's second half: world wx; HPq Pair; HBq Below w1; HLq row of seen2; RA RB plain; values MX TX VX
          obtain ⟨⟨SA', ia⟩, hra⟩ : ∃ y, y = SA.mount v := ⟨_, rfl⟩
          obtain ⟨⟨SB', ib⟩, hrb⟩ : ∃ y, y = SB.mount v := ⟨_, rfl⟩
          have HRA := Lib.hid hra.symm
          have HRB := Lib.hid hrb.symm
          clear hra hrb
          refine (Pair.mount HRA.out wx HPq.out (HP1.out.ext HBq.out) rfl (by rw [RAh.out.vols]; exact hvl) (by rw [SAa.out]; omega) HBC.out HBq.out.size).mono ?_
          rintro e w4 ⟨dA, rfl, hP4, hm4⟩
          have HPr := Lib.hid hP4.swap
          have HB4 := Lib.hid (HBq.out.trans (hm4.below (fun b T h => h.2.1) HBq.out.size))
          have HL4 := Lib.hid (HLq.out.mod hm4 fun b _ _ hf => absurd hf.2.2 (by decide))
          clear hP4 hm4
          go_wp2_with fail
          refine (Pair.mount HRB.out w4 HPr.out (HP1.out.ext HB4.out) rfl (by rw [RBh.out.vols]; exact hvn) (by rw [SBa.out]; omega) HBC.out HB4.out.size).mono ?_
          rintro e wF5 ⟨dB, rfl, hP5, hm5⟩
          have HP5 := Lib.hid hP5.swap
          have HB5 := Lib.hid (HB4.out.trans (hm5.below (fun b T h => h.2.1) HB4.out.size))
          have HL5 := Lib.hid (HL4.out.mod hm5 fun b _ _ hf => absurd hf.2.2 (by decide))
          clear hP5 hm5
          obtain ⟨hRA', hSAa'⟩ := RAh.out.step hvl (by rw [SAa.out]; omega) HRA.out
          obtain ⟨hRB', hSBa'⟩ := RBh.out.step hvn (by rw [SBa.out]; omega) HRB.out
          have HRA' := Lib.hid hRA'
          rw [HTN.out] at hRB'
          have HRB' := Lib.hid hRB'
          have HSa' : Hid (SA'.asked = ((t + 1 : Nat) : Int)) := Lib.hid (by rw [hSAa', SAa.out]; omega)
          have HSb' : Hid (SB'.asked = ((t + 1 : Nat) : Int)) := Lib.hid (by rw [hSBa', SBa.out]; omega)
          clear hRA' hSAa' hRB' hSBa'
          go_wp2_with fail
          refine (Pair.mounts (cnt:Int) wF5 HP5.out (HRA'.out.mounts.trans HMX.out)).mono ?_
          rintro e w6 ⟨rfl, rfl⟩
          go_wp2_with fail
          refine (Pair.mounts (turns:Int) wF5 HP5.out.swap (by first | exact HRB'.out.mounts | exact HRB'.out.mounts.trans HTX.out)).mono ?_
          rintro e w6 ⟨rfl, rfl⟩
          go_wp2_with fail
          refine (Pair.holds 0 (v : Int) wF5 HP5.out.swap (by obtain ⟨b, hb, hbv⟩ := HRB'.out.bay; rw [hb]; exact hbv)).mono ?_
          rintro e w6 ⟨rfl, rfl⟩
          go_wp2_with fail
          go_roundw
          case rel =>
            refine ⟨t + 1, seen.set v true, (v : Int), SA', SB', turns, cnt, wF5, rfl, ?_, ?_, ?_, ?_, ?_, ?_, ?_, Hsl'.out, HRA'.out, HRB'.out, HSa'.out, HSb'.out, HP5.out, HL5.out, HB5.out⟩
            · omega
            · omega
            · go_num
            · first | rfl | go_num
            · first | rfl | go_num
            · first | rw [Hla.out] | rfl
            · have := HMX.out; omega
          case measure => simp [intOf]; omega
        · have el : ((v : Int) == last) = false := by simpa using hla
          have el2 : ((v : Int) != last) = true := by simpa using hla
          have HTN : Hid ((if (v : Int) = last then turns else turns + 1) = turns + 1) := Lib.hid (if_neg hla)
          have HTX : Hid (((turns + 1 : Nat) : Int) = ((turns:Int)+1)) := Lib.hid (by omega)
          have Hla := Lib.hid hla
          clear hla
          go_wp2_with fail
          try rw [ev]
          clear s0 c0 ev el el2 f0
          -- a round's second half: world wx; HPq Pair; HBq Below w1; HLq row of seen2; RA RB plain; values MX TX VX
          obtain ⟨⟨SA', ia⟩, hra⟩ : ∃ y, y = SA.mount v := ⟨_, rfl⟩
          obtain ⟨⟨SB', ib⟩, hrb⟩ : ∃ y, y = SB.mount v := ⟨_, rfl⟩
          have HRA := Lib.hid hra.symm
          have HRB := Lib.hid hrb.symm
          clear hra hrb
          refine (Pair.mount HRA.out wx HPq.out (HP1.out.ext HBq.out) rfl (by rw [RAh.out.vols]; exact hvl) (by rw [SAa.out]; omega) HBC.out HBq.out.size).mono ?_
          rintro e w4 ⟨dA, rfl, hP4, hm4⟩
          have HPr := Lib.hid hP4.swap
          have HB4 := Lib.hid (HBq.out.trans (hm4.below (fun b T h => h.2.1) HBq.out.size))
          have HL4 := Lib.hid (HLq.out.mod hm4 fun b _ _ hf => absurd hf.2.2 (by decide))
          clear hP4 hm4
          go_wp2_with fail
          refine (Pair.mount HRB.out w4 HPr.out (HP1.out.ext HB4.out) rfl (by rw [RBh.out.vols]; exact hvn) (by rw [SBa.out]; omega) HBC.out HB4.out.size).mono ?_
          rintro e wF5 ⟨dB, rfl, hP5, hm5⟩
          have HP5 := Lib.hid hP5.swap
          have HB5 := Lib.hid (HB4.out.trans (hm5.below (fun b T h => h.2.1) HB4.out.size))
          have HL5 := Lib.hid (HL4.out.mod hm5 fun b _ _ hf => absurd hf.2.2 (by decide))
          clear hP5 hm5
          obtain ⟨hRA', hSAa'⟩ := RAh.out.step hvl (by rw [SAa.out]; omega) HRA.out
          obtain ⟨hRB', hSBa'⟩ := RBh.out.step hvn (by rw [SBa.out]; omega) HRB.out
          have HRA' := Lib.hid hRA'
          rw [HTN.out] at hRB'
          have HRB' := Lib.hid hRB'
          have HSa' : Hid (SA'.asked = ((t + 1 : Nat) : Int)) := Lib.hid (by rw [hSAa', SAa.out]; omega)
          have HSb' : Hid (SB'.asked = ((t + 1 : Nat) : Int)) := Lib.hid (by rw [hSBa', SBa.out]; omega)
          clear hRA' hSAa' hRB' hSBa'
          go_wp2_with fail
          refine (Pair.mounts (cnt:Int) wF5 HP5.out (HRA'.out.mounts.trans HMX.out)).mono ?_
          rintro e w6 ⟨rfl, rfl⟩
          go_wp2_with fail
          refine (Pair.mounts ((turns:Int)+1) wF5 HP5.out.swap (by first | exact HRB'.out.mounts | exact HRB'.out.mounts.trans HTX.out)).mono ?_
          rintro e w6 ⟨rfl, rfl⟩
          go_wp2_with fail
          refine (Pair.holds 0 (v : Int) wF5 HP5.out.swap (by obtain ⟨b, hb, hbv⟩ := HRB'.out.bay; rw [hb]; exact hbv)).mono ?_
          rintro e w6 ⟨rfl, rfl⟩
          go_wp2_with fail
          go_roundw
          case rel =>
            refine ⟨t + 1, seen.set v true, (v : Int), SA', SB', (turns+1), cnt, wF5, rfl, ?_, ?_, ?_, ?_, ?_, ?_, ?_, Hsl'.out, HRA'.out, HRB'.out, HSa'.out, HSb'.out, HP5.out, HL5.out, HB5.out⟩
            · omega
            · omega
            · go_num
            · first | rfl | go_num
            · first | rfl | go_num
            · first | rw [Hla.out] | rfl
            · have := HMX.out; omega
          case measure => simp [intOf]; omega
      | false =>
        rw [hsv] at s0
        have hmL : Mod (fun b T => b = L ∧ T = 4) wx (wx.setCell ⟨L, v, none⟩ (.bool true)) := (Mod.refl _ wx).setCell hcur ⟨rfl, rfl⟩ _ _
        have HPq : Hid (Pair w.heap.size w1.heap.size (wx.setCell ⟨L, v, none⟩ (.bool true)) ra rb g SA SB) := Lib.hid (HPx.out.far hmL fun b T hf hT => by rw [hf.2] at hT; exact absurd hT (by decide))
        have HBq : Hid (Below w1.heap.size w1 (wx.setCell ⟨L, v, none⟩ (.bool true))) := Lib.hid (HBx.out.setCell (p := ⟨L, v, none⟩) hBL _)
        have HLq : Hid (Own (wx.setCell ⟨L, v, none⟩ (.bool true)) w1.heap.size 4 1 (some ⟨L, 0, none⟩) n n (bovs (seen.set v true))) := Lib.hid (by rw [← bovs_set]; exact HLx.out.set v _ hvn)
        have HMX : Hid (((seen.set v true).count true : Nat) = ((cnt : Int) + 1)) := Lib.hid (by rw [count_set_true hvl hsv, Hcnt.out]; omega)
        have Hsl' : Hid ((seen.set v true).length = n) := Lib.hid (by rw [List.length_set]; exact Hsl.out)
        clear hcur hat HPx HBx HLx hsv hmL
        by_cases hla : (v : Int) = last
        · have el : ((v : Int) == last) = true := by simpa using hla
          have el2 : ((v : Int) != last) = false := by simpa using hla
          have HTN : Hid ((if (v : Int) = last then turns else turns + 1) = turns) := Lib.hid (if_pos hla)
          have HTX : Hid (((turns : Nat) : Int) = (turns:Int)) := Lib.hid rfl
          have Hla := Lib.hid hla
          clear hla
          go_wp2_with fail
          generalize wx.setCell ⟨L, v, none⟩ (.bool true) = wq at *
          try rw [ev]
          clear s0 c0 ev el el2 f0
          -- a round's second half: world wq; HPq Pair; HBq Below w1; HLq row of seen2; RA RB plain; values MX TX VX
          obtain ⟨⟨SA', ia⟩, hra⟩ : ∃ y, y = SA.mount v := ⟨_, rfl⟩
          obtain ⟨⟨SB', ib⟩, hrb⟩ : ∃ y, y = SB.mount v := ⟨_, rfl⟩
          have HRA := Lib.hid hra.symm
          have HRB := Lib.hid hrb.symm
          clear hra hrb
          refine (Pair.mount HRA.out wq HPq.out (HP1.out.ext HBq.out) rfl (by rw [RAh.out.vols]; exact hvl) (by rw [SAa.out]; omega) HBC.out HBq.out.size).mono ?_
          rintro e w4 ⟨dA, rfl, hP4, hm4⟩
          have HPr := Lib.hid hP4.swap
          have HB4 := Lib.hid (HBq.out.trans (hm4.below (fun b T h => h.2.1) HBq.out.size))
          have HL4 := Lib.hid (HLq.out.mod hm4 fun b _ _ hf => absurd hf.2.2 (by decide))
          clear hP4 hm4
          go_wp2_with fail
          refine (Pair.mount HRB.out w4 HPr.out (HP1.out.ext HB4.out) rfl (by rw [RBh.out.vols]; exact hvn) (by rw [SBa.out]; omega) HBC.out HB4.out.size).mono ?_
          rintro e wF5 ⟨dB, rfl, hP5, hm5⟩
          have HP5 := Lib.hid hP5.swap
          have HB5 := Lib.hid (HB4.out.trans (hm5.below (fun b T h => h.2.1) HB4.out.size))
          have HL5 := Lib.hid (HL4.out.mod hm5 fun b _ _ hf => absurd hf.2.2 (by decide))
          clear hP5 hm5
          obtain ⟨hRA', hSAa'⟩ := RAh.out.step hvl (by rw [SAa.out]; omega) HRA.out
          obtain ⟨hRB', hSBa'⟩ := RBh.out.step hvn (by rw [SBa.out]; omega) HRB.out
          have HRA' := Lib.hid hRA'
          rw [HTN.out] at hRB'
          have HRB' := Lib.hid hRB'
          have HSa' : Hid (SA'.asked = ((t + 1 : Nat) : Int)) := Lib.hid (by rw [hSAa', SAa.out]; omega)
          have HSb' : Hid (SB'.asked = ((t + 1 : Nat) : Int)) := Lib.hid (by rw [hSBa', SBa.out]; omega)
          clear hRA' hSAa' hRB' hSBa'
          go_wp2_with fail
          refine (Pair.mounts ((cnt:Int)+1) wF5 HP5.out (HRA'.out.mounts.trans HMX.out)).mono ?_
          rintro e w6 ⟨rfl, rfl⟩
          go_wp2_with fail
          refine (Pair.mounts (turns:Int) wF5 HP5.out.swap (by first | exact HRB'.out.mounts | exact HRB'.out.mounts.trans HTX.out)).mono ?_
          rintro e w6 ⟨rfl, rfl⟩
          go_wp2_with fail
          refine (Pair.holds 0 (v : Int) wF5 HP5.out.swap (by obtain ⟨b, hb, hbv⟩ := HRB'.out.bay; rw [hb]; exact hbv)).mono ?_
          rintro e w6 ⟨rfl, rfl⟩
          go_wp2_with fail
          go_roundw
          case rel =>
            refine ⟨t + 1, seen.set v true, (v : Int), SA', SB', turns, (cnt+1), wF5, rfl, ?_, ?_, ?_, ?_, ?_, ?_, ?_, Hsl'.out, HRA'.out, HRB'.out, HSa'.out, HSb'.out, HP5.out, HL5.out, HB5.out⟩
            · omega
            · omega
            · go_num
            · first | rfl | go_num
            · first | rfl | go_num
            · first | rw [Hla.out] | rfl
            · have := HMX.out; omega
          case measure => simp [intOf]; omega
        · have el : ((v : Int) == last) = false := by simpa using hla
          have el2 : ((v : Int) != last) = true := by simpa using hla
          have HTN : Hid ((if (v : Int) = last then turns else turns + 1) = turns + 1) := Lib.hid (if_neg hla)
          have HTX : Hid (((turns + 1 : Nat) : Int) = ((turns:Int)+1)) := Lib.hid (by omega)
          have Hla := Lib.hid hla
          clear hla
          go_wp2_with fail
          generalize wx.setCell ⟨L, v, none⟩ (.bool true) = wq at *
          try rw [ev]
          clear s0 c0 ev el el2 f0
          -- a round's second half: world wq; HPq Pair; HBq Below w1; HLq row of seen2; RA RB plain; values MX TX VX
          obtain ⟨⟨SA', ia⟩, hra⟩ : ∃ y, y = SA.mount v := ⟨_, rfl⟩
          obtain ⟨⟨SB', ib⟩, hrb⟩ : ∃ y, y = SB.mount v := ⟨_, rfl⟩
          have HRA := Lib.hid hra.symm
          have HRB := Lib.hid hrb.symm
          clear hra hrb
          refine (Pair.mount HRA.out wq HPq.out (HP1.out.ext HBq.out) rfl (by rw [RAh.out.vols]; exact hvl) (by rw [SAa.out]; omega) HBC.out HBq.out.size).mono ?_
          rintro e w4 ⟨dA, rfl, hP4, hm4⟩
          have HPr := Lib.hid hP4.swap
          have HB4 := Lib.hid (HBq.out.trans (hm4.below (fun b T h => h.2.1) HBq.out.size))
          have HL4 := Lib.hid (HLq.out.mod hm4 fun b _ _ hf => absurd hf.2.2 (by decide))
          clear hP4 hm4
          go_wp2_with fail
          refine (Pair.mount HRB.out w4 HPr.out (HP1.out.ext HB4.out) rfl (by rw [RBh.out.vols]; exact hvn) (by rw [SBa.out]; omega) HBC.out HB4.out.size).mono ?_
          rintro e wF5 ⟨dB, rfl, hP5, hm5⟩
          have HP5 := Lib.hid hP5.swap
          have HB5 := Lib.hid (HB4.out.trans (hm5.below (fun b T h => h.2.1) HB4.out.size))
          have HL5 := Lib.hid (HL4.out.mod hm5 fun b _ _ hf => absurd hf.2.2 (by decide))
          clear hP5 hm5
          obtain ⟨hRA', hSAa'⟩ := RAh.out.step hvl (by rw [SAa.out]; omega) HRA.out
          obtain ⟨hRB', hSBa'⟩ := RBh.out.step hvn (by rw [SBa.out]; omega) HRB.out
          have HRA' := Lib.hid hRA'
          rw [HTN.out] at hRB'
          have HRB' := Lib.hid hRB'
          have HSa' : Hid (SA'.asked = ((t + 1 : Nat) : Int)) := Lib.hid (by rw [hSAa', SAa.out]; omega)
          have HSb' : Hid (SB'.asked = ((t + 1 : Nat) : Int)) := Lib.hid (by rw [hSBa', SBa.out]; omega)
          clear hRA' hSAa' hRB' hSBa'
          go_wp2_with fail
          refine (Pair.mounts ((cnt:Int)+1) wF5 HP5.out (HRA'.out.mounts.trans HMX.out)).mono ?_
          rintro e w6 ⟨rfl, rfl⟩
          go_wp2_with fail
          refine (Pair.mounts ((turns:Int)+1) wF5 HP5.out.swap (by first | exact HRB'.out.mounts | exact HRB'.out.mounts.trans HTX.out)).mono ?_
          rintro e w6 ⟨rfl, rfl⟩
          go_wp2_with fail
          refine (Pair.holds 0 (v : Int) wF5 HP5.out.swap (by obtain ⟨b, hb, hbv⟩ := HRB'.out.bay; rw [hb]; exact hbv)).mono ?_
          rintro e w6 ⟨rfl, rfl⟩
          go_wp2_with fail
          go_roundw
          case rel =>
            refine ⟨t + 1, seen.set v true, (v : Int), SA', SB', (turns+1), (cnt+1), wF5, rfl, ?_, ?_, ?_, ?_, ?_, ?_, ?_, Hsl'.out, HRA'.out, HRB'.out, HSa'.out, HSb'.out, HP5.out, HL5.out, HB5.out⟩
            · omega
            · omega
            · go_num
            · first | rfl | go_num
            · first | rfl | go_num
            · first | rw [Hla.out] | rfl
            · have := HMX.out; omega
          case measure => simp [intOf]; omega
    · obtain rfl : t = N := by omega
      have HB := Lib.hid (HB1.out.trans (HBx.out.mono HBC.out))
      clear HPx HLx
      go_wp2_with fail
      refine (wakes13_any wx).mono ?_
      rintro e w4 ⟨rfl, hb4⟩
      have HB4 := Lib.hid (bthen HB.out hb4 (Nat.le_refl _))
      clear hb4
      go_wp2
      go_ret
      exact ⟨rfl, HB4.out⟩
end Go.Proofs.Ytnbpcdnpdcfiiaa
