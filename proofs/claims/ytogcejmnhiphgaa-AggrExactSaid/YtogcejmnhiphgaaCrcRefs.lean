/- The page's sum, walked. -/
import Derived.Test.YtogcejmnhiphgaaCrcBy
import Derived.Test.YtogcejmnhiphgaaCrcPlain
namespace Go.Proofs.Ytogcejmnhiphgaa
open Go.RowKit

theorem ref_test (s : BitVec 32) (x : Byte) (j : Nat) : (bits .and .u32 (s.toNat : Int) 1 != bits .and .u32 ((x.toNat : Int) / 2 ^ j % 4294967296) 1) = (s.getLsbD 0 != x.getLsbD j) := by
  have h1 : bits .and .u32 (s.toNat : Int) 1 = ((s.toNat % 2 : Nat) : Int) := by
    have h := and32 s 1#32
    rw [show ((1#32 : BitVec 32).toNat : Int) = 1 from rfl] at h
    rw [h, BitVec.toNat_and]
    congr 1
    exact Nat.and_two_pow_sub_one_eq_mod s.toNat 1
  have h2 : bits .and .u32 ((x.toNat : Int) / 2 ^ j % 4294967296) 1 = ((x.toNat / 2 ^ j % 2 : Nat) : Int) := by
    have hx := x.isLt
    have h3 : x.toNat / 2 ^ j ≤ x.toNat := Nat.div_le_self _ _
    have h4 : ((x.toNat : Int) / 2 ^ j) = ((x.toNat / 2 ^ j : Nat) : Int) := by simp
    rw [h4]
    generalize x.toNat / 2 ^ j = u at *
    have e : ((u : Int) % 4294967296) = ((BitVec.ofNat 32 u).toNat : Int) := by
      rw [BitVec.toNat_ofNat]; omega
    rw [e]
    have h := and32 (BitVec.ofNat 32 u) 1#32
    rw [show ((1#32 : BitVec 32).toNat : Int) = 1 from rfl] at h
    rw [h, BitVec.toNat_and]
    congr 1
    rw [show (1#32 : BitVec 32).toNat = 2 ^ 1 - 1 from rfl, Nat.and_two_pow_sub_one_eq_mod, BitVec.toNat_ofNat]
    omega
  rw [h1, h2]
  have e1 : s.getLsbD 0 = decide (s.toNat % 2 = 1) := by rw [BitVec.getLsbD, Nat.testBit_zero]
  have e2 : x.getLsbD j = decide (x.toNat / 2 ^ j % 2 = 1) := by rw [BitVec.getLsbD, Nat.testBit_eq_decide_div_mod_eq]
  rw [e1, e2]
  have a1 : s.toNat % 2 < 2 := Nat.mod_lt _ (by omega)
  have a2 : x.toNat / 2 ^ j % 2 < 2 := Nat.mod_lt _ (by omega)
  generalize s.toNat % 2 = u at *
  generalize x.toNat / 2 ^ j % 2 = v at *
  rcases (show u = 0 ∨ u = 1 by omega) with rfl | rfl <;> rcases (show v = 0 ∨ v = 1 by omega) with rfl | rfl <;> rfl

theorem ref_one (s : BitVec 32) (b : Bool) (h : (s.getLsbD 0 != b) = true) : bits .xor .u32 ((s.toNat : Int) / 2) 3988292384 = ((refStep s b).toNat : Int) := by
  have e := shr32 s 1
  simp only [Nat.pow_one] at e
  rw [show ((2 : Nat) : Int) = 2 from rfl] at e
  rw [e, refStep, crcStep]
  have h1 : (s ^^^ bit1 b).getLsbD 0 = true := by rw [BitVec.getLsbD_xor]; revert h; generalize s.getLsbD 0 = u; cases u <;> cases b <;> simp [bit1]
  have h2 : (s ^^^ bit1 b) >>> 1 = s >>> 1 := by
    apply BitVec.eq_of_getLsbD_eq
    intro i hi
    cases b <;> simp [bit1]
  rw [h1, h2]
  exact xor32 (s >>> 1) 0xedb88320#32
theorem ref_zero (s : BitVec 32) (b : Bool) (h : (s.getLsbD 0 != b) = false) : (s.toNat : Int) / 2 = ((refStep s b).toNat : Int) := by
  have e := shr32 s 1
  simp only [Nat.pow_one] at e
  rw [show ((2 : Nat) : Int) = 2 from rfl] at e
  rw [e, refStep, crcStep]
  have h1 : (s ^^^ bit1 b).getLsbD 0 = false := by rw [BitVec.getLsbD_xor]; revert h; generalize s.getLsbD 0 = u; cases u <;> cases b <;> simp [bit1]
  have h2 : (s ^^^ bit1 b) >>> 1 = s >>> 1 := by
    apply BitVec.eq_of_getLsbD_eq
    intro i hi
    cases b <;> simp [bit1]
  rw [h1, h2]
  simp

set_option maxRecDepth 100000 in
set_option maxHeartbeats 1000000 in
theorem refcrc_any (a : Option Addr) (c : Nat) (l : List Byte) (w : World) (hs : Src w a (bvs l)) (hl : l.length ≤ 9223372036854775807) :
    Calls Try.prog 85 #[.slice a l.length c] w fun e w' => e = .returned (.int .u32 ((crc l).toNat : Int)) ∧ w = w' := by
  go_enter Try.func85, Try.ntmps85
  go_wp2_with fail
  go_loop [3, 4] (fun r i => ∃ k : Nat, k ≤ l.length ∧ i = .int .i64 k ∧ r = .int .u32 ((crcReg crcAll (l.take k)).toNat : Int)) (fun _ i => l.length - (intOf i).toNat)
  case atStart => exact ⟨0, by omega, rfl, rfl⟩
  case round =>
    obtain ⟨k, hk, rfl, rfl⟩ := hrel
    by_cases hlt : k < l.length
    · obtain ⟨b, o, rfl, _, hat⟩ := src_bytes_at hs hlt
      have hc := hat k hlt
      clear hat
      have Htk := Lib.hid (take_succ_list l k hlt)
      generalize hx : l[k] = x at hc Htk
      have Hx := Lib.hid hx
      clear hx
      generalize hq : crcReg crcAll (l.take k) = q
      have Hq := Lib.hid hq
      clear hq
      go_wp2_with fail
      go_loop [3, 5] (fun r i => ∃ (j : Nat), j ≤ 8 ∧ i = .int .i64 j ∧ r = .int .u32 ((refIter x j q).toNat : Int)) (fun _ i => 8 - (intOf i).toNat)
      case atStart => exact ⟨0, by omega, rfl, rfl⟩
      case round =>
        obtain ⟨j, hj, rfl, rfl⟩ := hrel
        by_cases hjt : j < 8
        · have Hs : Hid (refIter x (j + 1) q = refStep (refIter x j q) (x.getLsbD j)) := Lib.hid rfl
          generalize refIter x j q = s at Hs ⊢
          have ht := ref_test s x j
          cases hb : (s.getLsbD 0 != x.getLsbD j)
          all_goals
            rw [hb] at ht
            have Hb := Lib.hid hb
            clear hb
            go_wp2
            go_round
            case rel =>
              refine ⟨j + 1, by omega, by go_num, ?_⟩
              rw [Hs.out]
              first | rw [ref_one s _ Hb.out] | rw [ref_zero s _ Hb.out]
            case measure => simp [intOf]; omega
        · obtain rfl : j = 8 := by omega
          go_wp2
          go_round
          case rel => exact ⟨k + 1, by omega, by go_num, by rw [Htk.out, crcReg_snoc, Hq.out, refOne_eq]⟩
          case measure => simp [intOf]; omega
    · obtain rfl : k = l.length := by omega
      rw [List.take_length]
      have hlast := crc_last (crcReg crcAll l)
      rw [show crcReg crcAll l ^^^ crcAll = crc l from rfl] at hlast
      generalize hz : crc l = z at hlast
      have Hz := Lib.hid hz
      clear hz
      generalize crcReg crcAll l = y at *
      go_wp2
      go_ret
      exact ⟨by rw [Hz.out]; rfl, rfl⟩

set_option maxHeartbeats 1000000 in
theorem refsum_any (a : Option Addr) (c : Nat) (l : List Byte) (w : World) (hs : Src w a (bvs l)) (hl : l.length ≤ 9223372036854775807) :
    Calls Try.prog 82 #[.slice a l.length c] w fun e w' => ∃ a', e = .returned (.slice a' 4 4) ∧ Own w' w.heap.size 5 1 a' 4 4 (bvs (crcBytesOf (crc l))) ∧ Below w.heap.size w w' := by
  go_enter Try.func82, Try.ntmps82
  go_wp2_with (go_at_call 85; refine (refcrc_any a c l _ hs hl).mono ?_; rintro e w1 ⟨rfl, rfl⟩)
  rw [crcBytes_cells]
  go_ret
  exact ⟨_, rfl, own_new w _ _ 4 1 (by simp [bvs, crcBytesOf]) (by unfold maxLen; omega), ext_alloc _ _⟩
end Go.Proofs.Ytogcejmnhiphgaa
