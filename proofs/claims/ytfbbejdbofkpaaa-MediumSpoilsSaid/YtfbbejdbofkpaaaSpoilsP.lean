/- What the law MediumSpoils says of tapes, plain. -/
import Derived.Test.YtfbbejdbofkpaaaMedFlip
import Derived.Test.YtfbbejdbofkpaaaMediumStays
namespace Go.Proofs.Ytfbbejdbofkpaaa

theorem Med.put_ok {m : Med} (h : m.ok = true) {p : Nat} {x : CellP} (hx : x.right = true) : (m.put p x).ok = true := by
  rw [Med.ok_iff] at h ⊢
  obtain ⟨⟨h1, h2, h3⟩, h4⟩ := h
  refine ⟨⟨h1, h2, by show ((m.cells.set p x).length : Int) ≤ m.cap; rw [List.length_set]; exact h3⟩, fun c hc => ?_⟩
  rcases List.mem_or_eq_of_mem_set (show c ∈ m.cells.set p x from hc) with h | rfl
  · exact h4 c h
  · exact hx
theorem Med.put_at {m : Med} {p : Nat} (hp : p < m.cells.length) (x : CellP) : (m.put p x).cells[p]? = some x := by
  show (m.cells.set p x)[p]? = _
  rw [List.getElem?_set_self hp]
theorem Med.put_ne {m : Med} {p i : Nat} (hi : i ≠ p) (x : CellP) : (m.put p x).cells[i]? = m.cells[i]? := by
  show (m.cells.set p x)[i]? = _
  rw [List.getElem?_set_ne (Ne.symm hi)]
theorem Med.put_len {m : Med} {p : Nat} (x : CellP) : (m.put p x).cells.length = m.cells.length := List.length_set
theorem flip_twice {l : List Byte} {t : Nat} (ht : t < 8 * l.length) : flipBit (flipBit l t) t = l := by
  have h : t / 8 < l.length := by omega
  unfold flipBit
  rw [List.getD_eq_getElem?_getD, List.getD_eq_getElem?_getD, List.getElem?_set_self h, List.set_set, List.getElem?_eq_getElem h]
  show l.set (t / 8) ((l[t / 8] ^^^ 1#8 <<< (t % 8)) ^^^ 1#8 <<< (t % 8)) = l
  rw [BitVec.xor_assoc, BitVec.xor_self, BitVec.xor_zero]
  exact List.set_getElem_self h
theorem flip_ne {l : List Byte} {t : Nat} (ht : t < 8 * l.length) : flipBit l t ≠ l := by
  intro h
  have h1 : t / 8 < l.length := by omega
  have h2 := congrArg (fun x : List Byte => x[t / 8]?) h
  dsimp only [flipBit] at h2
  rw [List.getElem?_set_self h1, List.getD_eq_getElem?_getD, List.getElem?_eq_getElem h1] at h2
  have h3 : l[t / 8] ^^^ 1#8 <<< (t % 8) = l[t / 8] := Option.some.inj h2
  have h4 : (1#8 <<< (t % 8) : BitVec 8) = 0#8 := by
    have := congrArg (fun z => l[t / 8] ^^^ z) h3
    rwa [← BitVec.xor_assoc, BitVec.xor_self, BitVec.zero_xor] at this
  have h5 : t % 8 < 8 := Nat.mod_lt _ (by decide)
  revert h4
  generalize t % 8 = r at *
  have : ∀ r < 8, (1#8 <<< r : BitVec 8) ≠ 0#8 := by decide
  exact this r h5

structure SpoilsP (m S : Med) (p : Nat) (c : CellP) : Prop where
  ok : S.ok = true
  sp : m.spoil (p : Int) = (S, 0)
  low : ∀ i : Nat, i < m.cells.length → i ≠ p → S.read (i : Int) = m.read (i : Int)
  at_ : S.read (p : Int) = ([], if c.kind = 2 then 15 else 6)
  no : c.kind ≠ 1 → ∀ bit, m.flip (p : Int) bit = (Med.none, 8)
  cap : S.cap = m.cap
  len : S.cells.length = m.cells.length
  sh : ∀ K, (∀ c ∈ m.cells, c.data.length ≤ K) → ∀ c ∈ S.cells, c.data.length ≤ K
theorem spoilsP {m : Med} (h : m.ok = true) {p : Nat} {c : CellP} (hc : m.cells[p]? = some c) : ∃ S, SpoilsP m S p c := by
  have hr : (CellP.mk c.kind c.data true).right = true := (Med.ok_iff.1 h).2 c (List.mem_of_getElem? hc)
  have hk := Med.put_ok h (p := p) hr
  have hp := (List.getElem?_eq_some_iff.1 hc).1
  refine ⟨m.put p ⟨c.kind, c.data, true⟩, hk, Med.spoil_ok h hc, fun i hi hne => Med.read_same h hk (Med.put_ne hne _) hi, ?_, fun h1 bit => by rw [Med.flip_at h hc, if_pos h1], rfl, Med.put_len _, fun K hK x hx => ?_⟩
  · rw [Med.read_at hk (Med.put_at hp _)]
    dsimp only
    split
    · rfl
    · rw [if_pos (.inr rfl)]
  · rcases List.mem_or_eq_of_mem_set (show x ∈ m.cells.set p _ from hx) with h | rfl
    · exact hK x h
    · exact hK c (List.mem_of_getElem? hc)
structure FlipsP (m X : Med) (p t : Nat) : Prop where
  f1 : m.flip (p : Int) (t : Int) = (X, 0)
  f2 : X.flip (p : Int) (t : Int) = (m, 0)
  ne : X.cells ≠ m.cells
  cap : X.cap = m.cap
  len : X.cells.length = m.cells.length
  sh : ∀ K, (∀ c ∈ m.cells, c.data.length ≤ K) → ∀ c ∈ X.cells, c.data.length ≤ K
theorem flipsP {m : Med} (h : m.ok = true) {p : Nat} {c : CellP} (hc : m.cells[p]? = some c) (h1 : c.kind = 1) {t : Nat} (ht : t < 8 * c.data.length) : FlipsP m (m.put p ⟨c.kind, flipBit c.data t, c.bad⟩) p t := by
  have hr := (Med.ok_iff.1 h).2 c (List.mem_of_getElem? hc)
  have hr2 : (CellP.mk c.kind (flipBit c.data t) c.bad).right = true := by unfold CellP.right at hr ⊢; dsimp only at hr ⊢; rw [flipBit_length]; exact hr
  have hk := Med.put_ok h (p := p) hr2
  have hp := (List.getElem?_eq_some_iff.1 hc).1
  have hcp : m.cells[p] = c := (List.getElem?_eq_some_iff.1 hc).2
  refine ⟨?_, ?_, ?_, rfl, Med.put_len _, fun K hK x hx => ?_⟩
  · rw [Med.flip_at h hc, if_neg (by simp [h1]), if_neg (by omega), Int.toNat_natCast]
  · rw [Med.flip_at hk (Med.put_at hp _), if_neg (by simp [h1]), if_neg (by dsimp only; rw [flipBit_length]; omega), Int.toNat_natCast]
    dsimp only
    rw [flip_twice ht]
    show (Med.mk m.cap ((m.cells.set p _).set p c), (0 : Int)) = (m, 0)
    rw [List.set_set, ← hcp, List.set_getElem_self]
  · intro e
    have e2 := congrArg (fun l : List CellP => l[p]?) e
    rw [Med.put_at hp, hc] at e2
    exact flip_ne ht (congrArg CellP.data (Option.some.inj e2))
  · rcases List.mem_or_eq_of_mem_set (show x ∈ m.cells.set p _ from hx) with h | rfl
    · exact hK x h
    · dsimp only
      rw [flipBit_length]
      exact hK c (List.mem_of_getElem? hc)
end Go.Proofs.Ytfbbejdbofkpaaa
