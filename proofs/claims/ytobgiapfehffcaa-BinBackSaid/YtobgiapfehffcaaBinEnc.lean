/- Parts, one behind the other: plain. -/
import Derived.Test.YtobgiapfehffcaaBin
namespace Go.Proofs.Ytobgiapfehffcaa

def enc1 (l : List Byte) : List Byte := be l.length 4 ++ l
def enc (ps : List Bsl) : List Byte := (ps.map fun p => enc1 p.l).flatten
theorem enc1_length (l : List Byte) : (enc1 l).length = 4 + l.length := by simp [enc1, be_length]
theorem enc_snoc (ps : List Bsl) (p : Bsl) : enc (ps ++ [p]) = enc ps ++ enc1 p.l := by simp [enc]
theorem enc_split (ps : List Bsl) (k : Nat) (h : k < ps.length) : enc ps = enc (ps.take k) ++ enc1 ps[k].l ++ enc (ps.drop (k + 1)) := by
  have e : ps = ps.take k ++ (ps[k] :: ps.drop (k + 1)) := by rw [← List.drop_eq_getElem_cons h, List.take_append_drop]
  rw [show enc ps = enc (ps.take k ++ (ps[k] :: ps.drop (k + 1))) from congrArg enc e]
  simp only [enc, List.map_append, List.map_cons, List.flatten_append, List.flatten_cons, List.append_assoc]
theorem enc_le (ps : List Bsl) (k m : Nat) (hk : k ≤ ps.length) (hp : ∀ p ∈ ps.take k, p.l.length ≤ m) : (enc (ps.take k)).length ≤ k * (m + 4) := by
  induction k with
  | zero => simp [enc]
  | succ k ih =>
    have h1 := take_succ_list ps k (by omega)
    rw [h1, enc_snoc, List.length_append, enc1_length]
    have h2 := ih (by omega) (fun p h => hp p (by rw [h1]; exact List.mem_append_left _ h))
    have h3 := hp ps[k] (by rw [h1]; exact List.mem_append_right _ (List.mem_singleton.2 rfl))
    rw [Nat.succ_mul]
    omega

section
variable (A l R : List Byte) (K : Nat)
theorem part_len (h4 : A.length + 4 ≤ K) (hl : l.length < 4294967296) : lenAt ((A ++ enc1 l ++ R).take K) A.length = l.length := by
  have e : (((A ++ enc1 l ++ R).take K).drop A.length).take 4 = be l.length 4 := by
    rw [List.drop_take, List.take_take, List.append_assoc, List.drop_left, Nat.min_eq_left (by omega), enc1, List.append_assoc,
      List.take_append_of_le_length (by rw [be_length]; omega), List.take_of_length_le (by rw [be_length]; omega)]
  rw [lenAt, e, numOf_be_of_lt (by omega)]
theorem part_data (h4 : A.length + 4 + l.length ≤ K) : (((A ++ enc1 l ++ R).take K).drop (A.length + 4)).take l.length = l := by
  rw [List.drop_take, List.take_take, Nat.min_eq_left (by omega), ← List.drop_drop, List.append_assoc, List.drop_left, enc1, List.append_assoc,
    List.drop_append_of_le_length (by rw [be_length]; omega), List.drop_of_length_le (by rw [be_length]; omega), List.nil_append, List.take_left]
theorem part_length (h : K ≤ (A ++ enc1 l ++ R).length) : ((A ++ enc1 l ++ R).take K).length = K := by simp at h ⊢; omega
end
end Go.Proofs.Ytobgiapfehffcaa
