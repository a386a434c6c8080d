/- Numbers and parts, one behind the other: plain. -/
import Derived.Test.YtobgiapfehffcaaBinEnc
import Derived.Test.YtobgiapfehffcaaBinPlain
namespace Go.Proofs.Ytobgiapfehffcaa
open Go.RowKit

def Am (z : Int) (s : Nat) : Nat := (bits .and .i64 z (wrap64 (wrap64 (2 ^ (8 * s)) - 1))).toNat
theorem Am_eq (z : Int) (s : Nat) (h : s ≤ 7) : bits .and .i64 z (wrap64 (wrap64 (2 ^ (8 * s)) - 1)) = ((Am z s : Nat) : Int) ∧ Am z s < 256 ^ s := by
  obtain ⟨A, hA, e⟩ := mask_be z s h
  unfold Am
  rw [e]
  exact ⟨by simp, by simpa using hA⟩

def item (s : Nat) (zs : List Int) (ps : List Bsl) (k : Nat) : List Byte :=
  (match zs[k]? with | some z => be (Am z s) s | none => []) ++ (match ps[k]? with | some p => enc1 p.l | none => [])
def encN (s : Nat) (zs : List Int) (ps : List Bsl) : Nat → List Byte
  | 0 => []
  | k + 1 => encN s zs ps k ++ item s zs ps k
section
variable {s : Nat} {zs : List Int} {ps : List Bsl}
theorem item_both {k : Nat} (h1 : k < zs.length) (h2 : k < ps.length) : item s zs ps k = be (Am zs[k] s) s ++ enc1 ps[k].l := by simp [item, h1, h2]
theorem item_num {k : Nat} (h1 : k < zs.length) (h2 : ¬ k < ps.length) : item s zs ps k = be (Am zs[k] s) s := by simp [item, h1, List.getElem?_eq_none (Nat.not_lt.1 h2)]
theorem item_part {k : Nat} (h1 : ¬ k < zs.length) (h2 : k < ps.length) : item s zs ps k = enc1 ps[k].l := by simp [item, h2, List.getElem?_eq_none (Nat.not_lt.1 h1)]
theorem encN_split : ∀ (n j : Nat), j < n → ∃ R, encN s zs ps n = encN s zs ps j ++ item s zs ps j ++ R
  | 0, _, h => by omega
  | n + 1, j, h => by
    by_cases hj : j = n
    · subst hj; exact ⟨[], by simp [encN]⟩
    · obtain ⟨R, hR⟩ := encN_split n j (by omega)
      exact ⟨R ++ item s zs ps n, by rw [encN, hR]; simp [List.append_assoc]⟩
end
/-- What is read out of the midst. -/
theorem mid_num (A R : List Byte) (n s : Nat) (h : n < 256 ^ s) : numOf (((A ++ be n s ++ R).drop A.length).take s) = n := by
  rw [List.append_assoc, List.drop_left, List.take_append_of_le_length (by rw [be_length]; omega), List.take_of_length_le (by rw [be_length]; omega), numOf_be_of_lt h]
theorem mid_len (A l R : List Byte) (hl : l.length < 4294967296) : lenAt (A ++ enc1 l ++ R) A.length = l.length := by
  have := part_len A l R (A ++ enc1 l ++ R).length (by simp [enc1_length]; omega) hl
  rwa [List.take_length] at this
theorem mid_data (A l R : List Byte) : ((A ++ enc1 l ++ R).drop (A.length + 4)).take l.length = l := by
  have := part_data A l R (A ++ enc1 l ++ R).length (by simp [enc1_length]; omega)
  rwa [List.take_length] at this
end Go.Proofs.Ytobgiapfehffcaa
