/- Records' frames: plain. -/
import Derived.Test.YtogcejmnhiphgaaBinDef
import Derived.Test.YtogcejmnhiphgaaCrcPlain
namespace Go.Proofs.Ytogcejmnhiphgaa

theorem crcBytesOf_len (z : BitVec 32) : (crcBytesOf z).length = 4 := rfl

structure Rec where
  kind : Int
  seq : Int
  d : List Byte
def Rec.zero : Rec := ⟨0, 0, []⟩
/-- Why a record may not be; 0: it may. -/
def recE (kind seq : Int) (n : Nat) : Int := if kind < 1 ∨ 5 < kind ∨ seq < 0 ∨ 1073741824 ≤ seq then 1 else if 8000 < n then 2 else 0
def Rec.e (r : Rec) : Int := recE r.kind r.seq r.d.length
def fhead (r : Rec) : List Byte := be r.kind.toNat 1 ++ (be r.seq.toNat 4 ++ be r.d.length 4)
def frameOf (r : Rec) : List Byte := fhead r ++ (crcBytesOf (crc (fhead r ++ r.d)) ++ r.d)
def joinB (l : List Rec) : List Byte := (l.map frameOf).flatten
def joinE : List Rec → Int
  | [] => 0
  | r :: l => if r.e = 0 then joinE l else r.e
/-- What is joined: nothing where a record may not be. -/
def joinR (l : List Rec) : List Byte := if joinE l = 0 then joinB l else []

def readF (b : List Byte) (at_ : Int) : Rec × Int × Int :=
  if at_ < 0 ∨ (b.length : Int) < at_ then (Rec.zero, 0, 1)
  else if b.length < at_.toNat + 13 then (Rec.zero, 0, 3)
  else
    if recE ((b.getD at_.toNat 0#8).toNat : Int) ((numOf ((b.drop (at_.toNat + 1)).take 4) : Nat) : Int) 0 ≠ 0 ∨ 8000 < numOf ((b.drop (at_.toNat + 5)).take 4) ∨ b.length < at_.toNat + 13 + numOf ((b.drop (at_.toNat + 5)).take 4) then (Rec.zero, 0, 3)
    else if crcBytesOf (crc ((b.drop at_.toNat).take 9 ++ (b.drop (at_.toNat + 13)).take (numOf ((b.drop (at_.toNat + 5)).take 4)))) = (b.drop (at_.toNat + 9)).take 4 then
      (⟨((b.getD at_.toNat 0#8).toNat : Int), ((numOf ((b.drop (at_.toNat + 1)).take 4) : Nat) : Int), (b.drop (at_.toNat + 13)).take (numOf ((b.drop (at_.toNat + 5)).take 4))⟩, ((at_.toNat + 13 + numOf ((b.drop (at_.toNat + 5)).take 4) : Nat) : Int), 0)
    else (Rec.zero, 0, 4)

/-- Split: from a place on; the records that were read. -/
def splitFrom (b : List Byte) : Nat → Nat → List Rec → List Rec × Int
  | 0, _, acc => (acc, 0)
  | fuel + 1, p, acc =>
    if p < b.length then
      if (readF b p).2.2 = 0 then splitFrom b fuel (readF b p).2.1.toNat (acc ++ [(readF b p).1]) else ([], (readF b p).2.2)
    else (acc, 0)
def splitF (b : List Byte) : List Rec × Int := splitFrom b b.length 0 []

theorem recE_ok {k s : Int} {n : Nat} : recE k s n = 0 ↔ 1 ≤ k ∧ k ≤ 5 ∧ 0 ≤ s ∧ s < 1073741824 ∧ n ≤ 8000 := by
  unfold recE; split
  · constructor
    · intro h; omega
    · omega
  · split
    · constructor
      · intro h; omega
      · omega
    · constructor
      · omega
      · intro; rfl
theorem fhead_length (r : Rec) : (fhead r).length = 9 := by simp [fhead, be_length]
theorem frameOf_length (r : Rec) : (frameOf r).length = 13 + r.d.length := by
  simp [frameOf, fhead_length, crcBytesOf_len]; omega
theorem joinB_cons (r : Rec) (l : List Rec) : joinB (r :: l) = frameOf r ++ joinB l := by simp [joinB]
theorem joinB_snoc (l : List Rec) (r : Rec) : joinB (l ++ [r]) = joinB l ++ frameOf r := by simp [joinB]
theorem joinB_append (l m : List Rec) : joinB (l ++ m) = joinB l ++ joinB m := by simp [joinB]
theorem joinE_ok {l : List Rec} : joinE l = 0 ↔ ∀ r ∈ l, r.e = 0 := by
  induction l with
  | nil => simp [joinE]
  | cons r l ih =>
    simp only [joinE, List.mem_cons, forall_eq_or_imp]
    split
    · next h => rw [ih]; simp [h]
    · next h => simp [h]
/-- The first that may not be tells the error. -/
theorem joinE_at {l : List Rec} {k : Nat} (hk : k < l.length) (h : ∀ r ∈ l.take k, r.e = 0) (hne : l[k].e ≠ 0) : joinE l = l[k].e := by
  induction l generalizing k with
  | nil => simp at hk
  | cons r l ih =>
    cases k with
    | zero => simp only [joinE, List.getElem_cons_zero] at hne ⊢; rw [if_neg hne]
    | succ k =>
      simp only [List.take_succ_cons, List.mem_cons, forall_eq_or_imp] at h
      simp only [joinE, List.getElem_cons_succ] at hne ⊢
      rw [if_pos h.1]
      exact ih _ h.2 hne

theorem getD_append_left {α : Type} (l m : List α) (i : Nat) (x : α) (h : i < l.length) : (l ++ m).getD i x = l.getD i x := by
  simp [List.getD_eq_getElem?_getD, List.getElem?_append_left h]

/-- A frame that stands in bytes is read. -/
theorem readF_frame (pre post : List Byte) (r : Rec) (h : r.e = 0) : readF (pre ++ (frameOf r ++ post)) pre.length = (r, ((pre.length + 13 + r.d.length : Nat) : Int), 0) := by
  obtain ⟨h1, h2, h3, h4, h5⟩ := recE_ok.1 h
  obtain ⟨K, hK⟩ := Int.eq_ofNat_of_zero_le (show 0 ≤ r.kind by omega)
  obtain ⟨S, hS⟩ := Int.eq_ofNat_of_zero_le h3
  have hfl := frameOf_length r
  have e0 : ((pre.length : Int)).toNat = pre.length := by simp
  have d0 : (pre ++ (frameOf r ++ post)).drop pre.length = frameOf r ++ post := by simp
  have hd : ∀ k, (pre ++ (frameOf r ++ post)).drop (pre.length + k) = (frameOf r ++ post).drop k := by intro k; rw [← List.drop_drop, d0]
  have hb1 : (be r.kind.toNat 1).length = 1 := be_length _ _
  have hbs : (be r.seq.toNat 4).length = 4 := be_length _ _
  have hbn : (be r.d.length 4).length = 4 := be_length _ _
  have hform : frameOf r ++ post = be r.kind.toNat 1 ++ (be r.seq.toNat 4 ++ (be r.d.length 4 ++ (crcBytesOf (crc (fhead r ++ r.d)) ++ (r.d ++ post)))) := by
    simp [frameOf, fhead, List.append_assoc]
  have hbe1 : be r.kind.toNat 1 = [BitVec.ofNat 8 K] := by rw [hK]; simp [be]
  have g0 : (pre ++ (frameOf r ++ post)).getD pre.length 0#8 = BitVec.ofNat 8 K := by
    rw [hform, hbe1]
    simp [List.getD_eq_getElem?_getD]
  have g1 : ((frameOf r ++ post).drop 1).take 4 = be r.seq.toNat 4 := by
    rw [hform, List.drop_left' hb1, List.take_left' hbs]
  have g5 : ((frameOf r ++ post).drop 5).take 4 = be r.d.length 4 := by
    rw [hform, show (5 : Nat) = 1 + 4 from rfl, ← List.drop_drop, List.drop_left' hb1, List.drop_left' hbs, List.take_left' hbn]
  have g9 : (frameOf r ++ post).take 9 = fhead r := by
    rw [frameOf, List.append_assoc, List.take_left' (fhead_length r)]
  have g9' : ((frameOf r ++ post).drop 9).take 4 = crcBytesOf (crc (fhead r ++ r.d)) := by
    rw [frameOf, List.append_assoc, List.drop_left' (fhead_length r), List.append_assoc, List.take_left' (crcBytesOf_len _)]
  have g13 : ((frameOf r ++ post).drop 13).take r.d.length = r.d := by
    rw [frameOf, List.append_assoc, show (13 : Nat) = 9 + 4 from rfl, ← List.drop_drop, List.drop_left' (fhead_length r), List.append_assoc, List.drop_left' (crcBytesOf_len _), List.take_left' rfl]
  have p4 : (256 : Nat) ^ 4 = 4294967296 := by decide
  have n1 : numOf (be r.seq.toNat 4) = S := by rw [numOf_be_of_lt (by rw [p4]; omega), hS]; simp
  have n5 : numOf (be r.d.length 4) = r.d.length := numOf_be_of_lt (by rw [p4]; omega)
  have hlen : (pre ++ (frameOf r ++ post)).length = pre.length + (13 + r.d.length) + post.length := by simp [hfl]; omega
  unfold readF
  rw [e0, d0, hd 1, hd 5, hd 9, hd 13, g0, g1, g5, g9, g9', n1, n5, g13]
  have hk8 : ((BitVec.ofNat 8 K).toNat : Int) = r.kind := by rw [BitVec.toNat_ofNat]; omega
  rw [if_neg (by rw [hlen]; omega), if_neg (by rw [hlen]; omega), hk8, if_neg (by
    rw [hlen]
    intro hh
    rcases hh with hh | hh | hh
    · exact hh (recE_ok.2 ⟨h1, h2, by omega, by omega, by omega⟩)
    · omega
    · omega), if_pos rfl]
  refine Prod.ext ?_ rfl
  obtain ⟨kind, seq, d⟩ := r
  simp only [Rec.mk.injEq, and_true, true_and]
  simpa using hS.symm
end Go.Proofs.Ytogcejmnhiphgaa
