/- Bits turned about, side by side: plain. -/
import Derived.Test.YtogcejmnhiphgaaCrcPlain
namespace Go.Proofs.Ytogcejmnhiphgaa

def flipBit (l : List Byte) (t : Nat) : List Byte := l.set (t / 8) (l.getD (t / 8) 0#8 ^^^ (1#8 <<< (t % 8)))
def flipTo (l : List Byte) (p : Nat) (m : BitVec 32) : Nat → List Byte
  | 0 => l
  | k + 1 => if m.getLsbD k then flipBit (flipTo l p m k) (p + k) else flipTo l p m k
theorem flipBit_length (l : List Byte) (t : Nat) : (flipBit l t).length = l.length := by simp [flipBit]
theorem flipTo_length (l : List Byte) (p : Nat) (m : BitVec 32) (k : Nat) : (flipTo l p m k).length = l.length := by
  induction k with
  | zero => rfl
  | succ k ih => rw [flipTo]; split <;> simp [flipBit_length, ih]
theorem bitAt_flip (l : List Byte) (t u : Nat) (ht : t < 8 * l.length) : bitAt (flipBit l t) u = (bitAt l u ^^ decide (u = t)) := by
  unfold bitAt flipBit
  by_cases h : u / 8 = t / 8
  · rw [h]
    have h1 : t / 8 < l.length := by omega
    simp only [List.getD_eq_getElem?_getD, List.getElem?_set, h1, if_true, Option.getD_some]
    rw [BitVec.getLsbD_xor]
    congr 1
    rw [BitVec.getLsbD_shiftLeft]
    have h8 : u % 8 < 8 := Nat.mod_lt _ (by omega)
    by_cases h2 : u = t
    · subst h2; simp [h8]
    · have h3 : u % 8 ≠ t % 8 := by omega
      by_cases h4 : u % 8 < t % 8
      · simp [h4, h2]
      · have h5 : u % 8 - t % 8 ≠ 0 := by omega
        simp [h2, h5]
  · have h2 : u ≠ t := by intro e; rw [e] at h; exact h rfl
    simp only [List.getD_eq_getElem?_getD, List.getElem?_set]
    rw [if_neg (fun e => h e.symm)]
    simp [h2]
theorem bitAt_flipTo (l : List Byte) (p : Nat) (m : BitVec 32) (k : Nat) (hk : p + k ≤ 8 * l.length) (u : Nat) : bitAt (flipTo l p m k) u = (bitAt l u ^^ (decide (p ≤ u ∧ u < p + k) && m.getLsbD (u - p))) := by
  induction k with
  | zero =>
    have : ¬ (p ≤ u ∧ u < p + 0) := by omega
    simp only [flipTo, this, decide_false, Bool.false_and, Bool.xor_false]
  | succ k ih =>
    rw [flipTo]
    have ih' := ih (by omega)
    split
    · rename_i hm
      rw [bitAt_flip _ _ _ (by rw [flipTo_length]; omega), ih']
      by_cases h : u = p + k
      · subst h
        have h1 : ¬ (p ≤ p + k ∧ p + k < p + k) := by omega
        have h2 : p ≤ p + k ∧ p + k < p + (k + 1) := by omega
        simp [h1, h2, hm]
      · by_cases h3 : p ≤ u ∧ u < p + k
        · have h4 : p ≤ u ∧ u < p + (k + 1) := by omega
          simp [h, h3, h4]
        · have h4 : ¬ (p ≤ u ∧ u < p + (k + 1)) := by omega
          simp [h, h3, h4]
    · rename_i hm
      rw [ih']
      by_cases h : u = p + k
      · subst h
        have h1 : ¬ (p ≤ p + k ∧ p + k < p + k) := by omega
        have hm' : m.getLsbD (p + k - p) = false := by rw [show p + k - p = k by omega]; simpa using hm
        simp only [h1, decide_false, Bool.false_and, hm', Bool.and_false]
      · by_cases h3 : p ≤ u ∧ u < p + k
        · have h4 : p ≤ u ∧ u < p + (k + 1) := by omega
          simp [h3, h4]
        · have h4 : ¬ (p ≤ u ∧ u < p + (k + 1)) := by omega
          simp [h3, h4]

/-- The sums are unlike as the texts are. -/
theorem flip_crc (l : List Byte) (p : Nat) (m : BitVec 32) (k : Nat) (hk : k ≤ 32) (hp : p + k ≤ 8 * l.length) : crc l = crc (flipTo l p m k) ↔ l = flipTo l p m k := by
  constructor
  · intro h
    refine burst (flipTo_length l p m k).symm p k hk (fun t ht ho => ?_) h
    rw [bitAt_flipTo l p m k hp]
    have : ¬ (p ≤ t ∧ t < p + k) := by omega
    simp [this]
  · intro h; rw [← h]
/-- Turned about nowhere: as it was. -/
theorem flip_same (l : List Byte) (p : Nat) (m : BitVec 32) (k : Nat) (hp : p + k ≤ 8 * l.length) : l = flipTo l p m k ↔ ∀ j, j < k → m.getLsbD j = false := by
  constructor
  · intro h j hj
    have := bitAt_flipTo l p m k hp (p + j)
    rw [← h] at this
    have h2 : p ≤ p + j ∧ p + j < p + k := by omega
    simp only [h2, show p + j - p = j by omega, and_self, decide_true, Bool.true_and] at this
    cases hb : bitAt l (p + j) <;> cases hm : m.getLsbD j <;> simp [hb, hm] at this ⊢
  · intro h
    refine bits_ext (flipTo_length l p m k).symm fun t ht => ?_
    rw [bitAt_flipTo l p m k hp]
    by_cases h2 : p ≤ t ∧ t < p + k
    · simp [h2, h (t - p) (by omega)]
    · simp [h2]

/- as the walk spells it -/
theorem test_bit (m : BitVec 32) (k : Nat) : (bits .and .u32 ((m.toNat : Int) / 2 ^ k) 1 == 1) = m.getLsbD k := by
  have h := shr32 m k
  have e : ((2 ^ k : Nat) : Int) = (2 : Int) ^ k := by simp
  rw [e] at h
  rw [h, lsb_and1]
  simp
theorem flip_val (x : Byte) (j : Nat) (hj : j < 8) : bits .xor .u8 (x.toNat : Int) (((2 ^ j : Nat) : Int)) = ((x ^^^ (1#8 <<< j) : Byte).toNat : Int) := by
  have e : (2 ^ j : Nat) = (1#8 <<< j).toNat := by
    rw [BitVec.toNat_shiftLeft, Nat.shiftLeft_eq, Nat.mod_eq_of_lt]
    · simp
    · have := Nat.pow_lt_pow_right (a := 2) (by omega) hj
      simpa using this
  rw [e, xor8]
theorem flip_val' (x : Byte) (j : Nat) (hj : j < 8) : bits .xor .u8 (x.toNat : Int) ((2 : Int) ^ j % 256) = ((x ^^^ (1#8 <<< j) : Byte).toNat : Int) := by
  rw [← flip_val x j hj]
  have h1 : (2 : Nat) ^ j < 256 := by
    have := Nat.pow_lt_pow_right (a := 2) (by omega) hj
    simpa using this
  have h2 : ((2 ^ j : Nat) : Int) = (2 : Int) ^ j := by simp
  rw [← h2]
  generalize (2 : Nat) ^ j = v at *
  congr 1
  omega
end Go.Proofs.Ytogcejmnhiphgaa
