/- The sum of bytes as plain functions on words of 32 bits. -/
import Derived.Test.YtnbpcdnpdcfiiaaBase
namespace Go.Proofs.Ytnbpcdnpdcfiiaa

def crcStep (r : BitVec 32) : BitVec 32 := (r >>> 1) ^^^ (if r.getLsbD 0 then 0xedb88320#32 else 0#32)
def crcIter : Nat → BitVec 32 → BitVec 32
  | 0, r => r
  | n + 1, r => crcStep (crcIter n r)
def crcOne (r : BitVec 32) (b : Byte) : BitVec 32 := (r >>> 8) ^^^ crcIter 8 ((r.setWidth 8 ^^^ b).setWidth 32)
def crcAll : BitVec 32 := 0xffffffff#32
def crcReg (r : BitVec 32) (l : List Byte) : BitVec 32 := l.foldl crcOne r
def crc (l : List Byte) : BitVec 32 := crcReg crcAll l ^^^ crcAll
def tabv : Array Value := Array.ofFn (n := 256) fun i => Value.int .u32 ((crcIter 8 (BitVec.ofNat 32 i)).toNat : Int)
def crcBytesOf (s : BitVec 32) : List Byte := [s.setWidth 8, (s >>> 8).setWidth 8, (s >>> 16).setWidth 8, (s >>> 24).setWidth 8]

theorem tabv_size : tabv.size = 256 := by simp [tabv]
theorem tabv_get (i : Nat) (h : i < 256) : tabv[i]? = some (.int .u32 ((crcIter 8 (BitVec.ofNat 32 i)).toNat : Int)) := by
  simp [tabv, h]

theorem tabv_one : ∀ v ∈ tabv.toList, v.oneCell' = true := by
  intro v hv
  simp only [tabv, Array.toList_ofFn, List.mem_ofFn] at hv
  obtain ⟨i, rfl⟩ := hv
  rfl
/- words as the walk spells them -/
theorem xor32 (x y : BitVec 32) : bits .xor .u32 (x.toNat : Int) (y.toNat : Int) = ((x ^^^ y).toNat : Int) := by
  rw [u32_xor_nat _ _ x.isLt y.isLt, BitVec.toNat_xor]
theorem and32 (x y : BitVec 32) : bits .and .u32 (x.toNat : Int) (y.toNat : Int) = ((x &&& y).toNat : Int) := by
  rw [u32_and_nat _ _ x.isLt y.isLt, BitVec.toNat_and]
theorem xor8 (x y : BitVec 8) : bits .xor .u8 (x.toNat : Int) (y.toNat : Int) = ((x ^^^ y).toNat : Int) := by
  rw [u8_xor_nat _ _ x.isLt y.isLt, BitVec.toNat_xor]
theorem shr32 (x : BitVec 32) (k : Nat) : (x.toNat : Int) / ((2 ^ k : Nat) : Int) = ((x >>> k).toNat : Int) := by
  rw [BitVec.toNat_ushiftRight, Nat.shiftRight_eq_div_pow]
  exact (Int.natCast_ediv _ _).symm
theorem low8 (x : BitVec 32) : (x.toNat : Int) % 256 = ((x.setWidth 8).toNat : Int) := by
  rw [BitVec.toNat_setWidth]; omega

theorem lsb_and1 (r : BitVec 32) : (bits .and .u32 (r.toNat : Int) 1 == 1) = r.getLsbD 0 := by
  have h := and32 r 1#32
  rw [show ((1#32 : BitVec 32).toNat : Int) = 1 from rfl] at h
  rw [h]
  have h2 : (r &&& 1#32).toNat = r.toNat % 2 := by
    rw [BitVec.toNat_and]; exact Nat.and_two_pow_sub_one_eq_mod r.toNat 1
  rw [h2, BitVec.getLsbD, Nat.testBit_zero]
  by_cases h : r.toNat % 2 = 1
  · simp [h]
  · have : r.toNat % 2 = 0 := by omega
    simp [this]

theorem step_one (r : BitVec 32) (h : r.getLsbD 0 = true) : bits .xor .u32 ((r.toNat : Int) / 2) 3988292384 = ((crcStep r).toNat : Int) := by
  have e := shr32 r 1
  simp only [Nat.pow_one] at e
  rw [show ((2 : Nat) : Int) = 2 from rfl] at e
  rw [e, crcStep, if_pos h]
  exact xor32 (r >>> 1) 0xedb88320#32
theorem step_zero (r : BitVec 32) (h : r.getLsbD 0 = false) : (r.toNat : Int) / 2 = ((crcStep r).toNat : Int) := by
  have e := shr32 r 1
  simp only [Nat.pow_one] at e
  rw [show ((2 : Nat) : Int) = 2 from rfl] at e
  rw [e, crcStep, h]
  simp

theorem crcReg_snoc (r : BitVec 32) (l : List Byte) (b : Byte) : crcReg r (l ++ [b]) = crcOne (crcReg r l) b := by simp [crcReg]
theorem crcReg_append (r : BitVec 32) (l m : List Byte) : crcReg r (l ++ m) = crcReg (crcReg r l) m := by simp [crcReg]
theorem crc_round (q : BitVec 32) (x : Byte) : ∃ (y : Byte) (t s : BitVec 32), bits .xor .u8 ((q.toNat : Int) % 256) (x.toNat : Int) = (y.toNat : Int) ∧ crcIter 8 (y.setWidth 32) = t ∧
    bits .xor .u32 ((q.toNat : Int) / 256) (t.toNat : Int) = (s.toNat : Int) ∧ crcOne q x = s := by
  refine ⟨q.setWidth 8 ^^^ x, _, _, ?_, rfl, ?_, rfl⟩
  · rw [low8, xor8]
  · have := shr32 q 8
    rw [show ((2 ^ 8 : Nat) : Int) = 256 from rfl] at this
    rw [this, xor32]
    rfl
theorem crc_last (q : BitVec 32) : bits .xor .u32 (q.toNat : Int) 4294967295 = ((q ^^^ crcAll).toNat : Int) := xor32 q crcAll
theorem tab_cell {w : World} {g : Nat} {T : TypeId} {m : Nat × Nat} (h : w.heap[g]? = some (.cells tabv T m)) (x : Byte) : w.cell? ⟨g, x.toNat, none⟩ = some (.int .u32 ((crcIter 8 (x.setWidth 32)).toNat : Int)) := by
  rw [cell_of_row w g _ _ _ _ h, tabv_get _ x.isLt, BitVec.ofNat_toNat]
end Go.Proofs.Ytnbpcdnpdcfiiaa
