/- Plain laws of numbers as bytes: their order, the greatest, masks. -/
import Derived.Test.YtobgiapfehffcaaBinDef
namespace Go.Proofs.Ytobgiapfehffcaa
open Go.RowKit

/-- How two texts of one length stand: by the first byte that differs. -/
def cmpB : List Byte → List Byte → Int
  | x :: l, y :: m => if x = y then cmpB l m else if x.toNat < y.toNat then -1 else 1
  | _, _ => 0
theorem cmpB_num : ∀ (l m : List Byte), l.length = m.length → ((cmpB l m < 0 ↔ numOf l < numOf m) ∧ (cmpB l m = 0 ↔ numOf l = numOf m))
  | [], [], _ => by simp [cmpB, numOf]
  | [], _ :: _, h => by simp at h
  | _ :: _, [], h => by simp at h
  | x :: l, y :: m, h => by
    have hl : l.length = m.length := by simpa using h
    have ih := cmpB_num l m hl
    rw [numOf_cons, numOf_cons, cmpB, hl]
    have h1 := numOf_lt l
    have h2 := numOf_lt m
    rw [hl] at h1
    generalize 256 ^ m.length = p at *
    by_cases hxy : x = y
    · subst hxy
      rw [if_pos rfl]
      refine ⟨ih.1.trans ?_, ih.2.trans ?_⟩ <;> omega
    · have hne : x.toNat ≠ y.toNat := fun e => hxy (BitVec.eq_of_toNat_eq e)
      rw [if_neg hxy]
      by_cases hlt : x.toNat < y.toNat
      · rw [if_pos hlt]
        have h3 : (x.toNat + 1) * p ≤ y.toNat * p := Nat.mul_le_mul_right _ hlt
        rw [Nat.add_mul] at h3
        constructor <;> constructor <;> intro <;> omega
      · rw [if_neg hlt]
        have h3 : (y.toNat + 1) * p ≤ x.toNat * p := Nat.mul_le_mul_right _ (by omega)
        rw [Nat.add_mul] at h3
        constructor <;> constructor <;> intro <;> omega
theorem cmpB_drop (l m : List Byte) (i : Nat) (h1 : i < l.length) (h2 : i < m.length) : cmpB (l.drop i) (m.drop i) = if l[i] = m[i] then cmpB (l.drop (i + 1)) (m.drop (i + 1)) else if (l[i]).toNat < (m[i]).toNat then -1 else 1 := by
  rw [List.drop_eq_getElem_cons h1, List.drop_eq_getElem_cons h2, cmpB]

theorem be_top (s : Nat) : be (256 ^ s - 1) s = List.replicate s 255#8 := by
  have h : ∀ n s, n % 256 ^ s = 256 ^ s - 1 → be n s = List.replicate s 255#8 := by
    intro n s
    induction s with
    | zero => intro _; rfl
    | succ s ih =>
      intro hn
      have hp : 0 < 256 ^ s := Nat.pow_pos (by omega)
      rw [Nat.pow_succ, Nat.mod_mul] at hn
      have hq : n / 256 ^ s % 256 < 256 := Nat.mod_lt _ (by omega)
      have hr := Nat.mod_lt n hp
      have hb : n / 256 ^ s % 256 = 255 := by
        by_cases h5 : n / 256 ^ s % 256 = 255
        · exact h5
        · have h6 : 256 ^ s * (n / 256 ^ s % 256) ≤ 256 ^ s * 254 := Nat.mul_le_mul_left _ (by omega)
          omega
      rw [hb] at hn
      rw [be, ih (by omega), List.replicate_succ]
      congr 1
      apply BitVec.eq_of_toNat_eq
      simpa using hb
  apply h
  have hp : 0 < 256 ^ s := Nat.pow_pos (by omega)
  exact Nat.mod_eq_of_lt (by omega)

theorem mask_any (x : Int) (j : Nat) (hj : j ≤ 62) : bits .and .i64 x (((2 ^ j - 1 : Nat) : Int)) = x % ((2 ^ j : Nat) : Int) := by
  have h1 : (2 : Nat) ^ j ≤ 2 ^ 62 := Nat.pow_le_pow_right (by omega) hj
  have h2 : (2 : Nat) ^ 62 < 2 ^ 64 := by decide
  have hpos : 0 < 2 ^ j := Nat.two_pow_pos j
  have hdvd : ((2 ^ j : Nat) : Int) ∣ ((2 ^ 64 : Nat) : Int) := by
    refine ⟨((2 ^ (64 - j) : Nat) : Int), ?_⟩
    rw [← Int.natCast_mul, ← Nat.pow_add]
    congr 2
    omega
  show IntKind.i64.wrap (((BitVec.ofInt 64 x &&& BitVec.ofInt 64 ((2 ^ j - 1 : Nat) : Int) : BitVec 64).toNat : Int)) = _
  rw [BitVec.toNat_and, BitVec.toNat_ofInt, BitVec.toNat_ofInt]
  have e1 : (((2 ^ j - 1 : Nat) : Int) % ((2 ^ 64 : Nat) : Int)).toNat = 2 ^ j - 1 := by
    rw [Int.emod_eq_of_lt (by omega) (by omega)]
    omega
  rw [e1, Nat.and_two_pow_sub_one_eq_mod]
  have h0 : 0 ≤ x % ((2 ^ 64 : Nat) : Int) := Int.emod_nonneg _ (by decide)
  have e2 : (((x % ((2 ^ 64 : Nat) : Int)).toNat % 2 ^ j : Nat) : Int) = x % ((2 ^ j : Nat) : Int) := by
    rw [Int.natCast_emod, Int.toNat_of_nonneg h0, Int.emod_emod_of_dvd _ hdvd]
  rw [e2]
  have h3 := Int.emod_nonneg x (show ((2 ^ j : Nat) : Int) ≠ 0 by omega)
  have h4 := Int.emod_lt_of_pos x (show (0 : Int) < ((2 ^ j : Nat) : Int) by omega)
  have h5 : (2 : Nat) ^ 62 = 4611686018427387904 := by decide
  rw [IntKind.wrap_i64]
  omega

theorem wrap_pow (s : Nat) (h : s ≤ 7) : wrap64 (2 ^ (8 * s)) = ((256 ^ s : Nat) : Int) := by
  have h3 := pow256_le h
  rw [← pow8]
  rw [← pow8] at h3
  have e3 : ((2 ^ (8 * s) : Nat) : Int) = (2 : Int) ^ (8 * s) := by simp
  rw [← e3]
  generalize (2 : Nat) ^ (8 * s) = v at *
  exact IntWalk.wrap64_in _ ⟨by omega, by omega⟩
theorem mask_be (x : Int) (s : Nat) (h : s ≤ 7) : ∃ A : Nat, A < 256 ^ s ∧ bits .and .i64 x (wrap64 (wrap64 (2 ^ (8 * s)) - 1)) = (A : Int) := by
  have h3 := pow256_le h
  have hp : 0 < 256 ^ s := Nat.pow_pos (by omega)
  rw [wrap_pow s h]
  have e : wrap64 (((256 ^ s : Nat) : Int) - 1) = ((2 ^ (8 * s) - 1 : Nat) : Int) := by
    rw [pow8, IntWalk.wrap64_in _ ⟨by omega, by omega⟩]
    omega
  rw [e, mask_any x (8 * s) (by omega), pow8]
  have h4 := Int.emod_nonneg x (show ((256 ^ s : Nat) : Int) ≠ 0 by omega)
  have h5 := Int.emod_lt_of_pos x (show (0 : Int) < ((256 ^ s : Nat) : Int) by omega)
  exact ⟨(x % ((256 ^ s : Nat) : Int)).toNat, by omega, by omega⟩
theorem top_be (s : Nat) (h : s ≤ 7) : wrap64 (wrap64 (2 ^ (8 * s)) - 1) = ((256 ^ s - 1 : Nat) : Int) := by
  have h3 := pow256_le h
  have hp : 0 < 256 ^ s := Nat.pow_pos (by omega)
  rw [wrap_pow s h, IntWalk.wrap64_in _ ⟨by omega, by omega⟩]
  omega
end Go.Proofs.Ytobgiapfehffcaa
