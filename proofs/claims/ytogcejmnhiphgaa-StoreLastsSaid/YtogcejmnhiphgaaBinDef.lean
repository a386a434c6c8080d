/- Numbers as bytes, the highest first: plain. -/
import Derived.Test.YtogcejmnhiphgaaBase
namespace Go.Proofs.Ytogcejmnhiphgaa

def be (n : Nat) : Nat → List Byte
  | 0 => []
  | s + 1 => BitVec.ofNat 8 (n / 256 ^ s) :: be n s
def numOf (l : List Byte) : Nat := l.foldl (fun n c => n * 256 + c.toNat) 0

theorem be_length (n s : Nat) : (be n s).length = s := by
  induction s with
  | zero => rfl
  | succ s ih => simp [be, ih]
theorem numOf_snoc (l : List Byte) (c : Byte) : numOf (l ++ [c]) = numOf l * 256 + c.toNat := by simp [numOf]
theorem foldl_num (l : List Byte) : ∀ n : Nat, l.foldl (fun n c => n * 256 + c.toNat) n = n * 256 ^ l.length + l.foldl (fun n (c : Byte) => n * 256 + c.toNat) 0 := by
  induction l with
  | nil => intro n; simp
  | cons x l ih =>
    intro n
    simp only [List.foldl_cons, List.length_cons]
    rw [ih (n * 256 + x.toNat), ih (0 * 256 + x.toNat), Nat.pow_succ]
    rw [Nat.add_mul, Nat.zero_mul, Nat.zero_add, Nat.mul_assoc, Nat.mul_comm 256]
    omega
theorem numOf_cons (x : Byte) (l : List Byte) : numOf (x :: l) = x.toNat * 256 ^ l.length + numOf l := by
  unfold numOf
  rw [List.foldl_cons, foldl_num]
  simp
theorem numOf_lt (l : List Byte) : numOf l < 256 ^ l.length := by
  induction l with
  | nil => simp [numOf]
  | cons x l ih =>
    rw [numOf_cons, List.length_cons, Nat.pow_succ]
    have hx := x.isLt
    have h1 : x.toNat * 256 ^ l.length ≤ 255 * 256 ^ l.length := Nat.mul_le_mul_right _ (by omega)
    omega
theorem numOf_be (n s : Nat) : numOf (be n s) = n % 256 ^ s := by
  induction s with
  | zero => simp [be, numOf, Nat.mod_one]
  | succ s ih =>
    rw [be, numOf_cons, be_length, ih, Nat.pow_succ, Nat.mod_mul, BitVec.toNat_ofNat, Nat.mul_comm, show (2 : Nat) ^ 8 = 256 from rfl]
    omega
theorem be_congr {n m s : Nat} (h : n % 256 ^ s = m % 256 ^ s) : be n s = be m s := by
  induction s with
  | zero => rfl
  | succ s ih =>
    rw [Nat.pow_succ, Nat.mod_mul, Nat.mod_mul] at h
    have hp : 0 < 256 ^ s := Nat.pow_pos (by omega)
    have hn := Nat.mod_lt n hp
    have hm := Nat.mod_lt m hp
    have h1 : n % 256 ^ s = m % 256 ^ s := by
      have := congrArg (· % 256 ^ s) h
      simpa [Nat.add_mul_mod_self_left, Nat.mod_mod] using this
    have h2 : n / 256 ^ s % 256 = m / 256 ^ s % 256 := by
      rw [h1] at h
      have h3 : 256 ^ s * (n / 256 ^ s % 256) = 256 ^ s * (m / 256 ^ s % 256) := by omega
      exact Nat.eq_of_mul_eq_mul_left hp h3
    rw [be, be, ih h1]
    congr 1
    apply BitVec.eq_of_toNat_eq
    simpa using h2
theorem be_numOf (l : List Byte) : be (numOf l) l.length = l := by
  induction l with
  | nil => rfl
  | cons x l ih =>
    have hp : 0 < 256 ^ l.length := Nat.pow_pos (by omega)
    have hl := numOf_lt l
    have hd : numOf (x :: l) / 256 ^ l.length = x.toNat := by
      rw [numOf_cons, Nat.add_comm, Nat.add_mul_div_right _ _ hp, Nat.div_eq_of_lt hl, Nat.zero_add]
    have hm : numOf (x :: l) % 256 ^ l.length = numOf l % 256 ^ l.length := by
      rw [numOf_cons, Nat.add_comm, Nat.add_mul_mod_self_right]
    rw [List.length_cons, be, hd, be_congr hm, ih]
    congr 1
    simp
theorem numOf_be_of_lt {n s : Nat} (h : n < 256 ^ s) : numOf (be n s) = n := by rw [numOf_be, Nat.mod_eq_of_lt h]
theorem be_take_succ (n s j : Nat) (h : j < s) : (be n s).take (j + 1) = (be n s).take j ++ [BitVec.ofNat 8 (n / 256 ^ (s - 1 - j))] := by
  have hg : ∀ (s j : Nat) (h : j < (be n s).length), (be n s)[j] = BitVec.ofNat 8 (n / 256 ^ (s - 1 - j)) := by
    intro s
    induction s with
    | zero => intro j h; simp [be] at h
    | succ s ih =>
      intro j h
      cases j with
      | zero => simp [be]
      | succ j =>
        simp only [be, List.getElem_cons_succ]
        rw [ih j (by simpa [be] using h), show s - 1 - j = s + 1 - 1 - (j + 1) by omega]
  rw [take_succ_list _ j (by rw [be_length]; exact h), hg]
theorem pow8 (s : Nat) : 2 ^ (8 * s) = 256 ^ s := by rw [Nat.pow_mul]
theorem pow256_le {s : Nat} (h : s ≤ 7) : 256 ^ s ≤ 72057594037927936 := by
  have := Nat.pow_le_pow_right (n := 256) (by omega) h
  simpa using this
theorem numOf_take_succ (l : List Byte) (k : Nat) (h : k < l.length) : numOf (l.take (k + 1)) = numOf (l.take k) * 256 + l[k].toNat := by
  rw [take_succ_list l k h, numOf_snoc]
end Go.Proofs.Ytogcejmnhiphgaa
