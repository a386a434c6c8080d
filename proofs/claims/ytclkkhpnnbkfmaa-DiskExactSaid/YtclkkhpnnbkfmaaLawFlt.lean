/- Slices of structs of one-cell fields, as arguments. -/
import Derived.Test.YtclkkhpnnbkfmaaLaw
import Derived.Test.YtclkkhpnnbkfmaaLawInts
import Derived.Test.YtclkkhpnnbkfmaaFlt
import Derived.Deep.SlicePairs
import Derived.Deep.Strs
import Derived.Lib.SmallJoins
namespace Go.Proofs.Ytclkkhpnnbkfmaa
open Go.ChangeShapes Go.WideShapes Go.ChangeAt Go.RowKit

section
variable {H : Type} {enc : TypeId × Value → H} {P : Program} {w : World} {base : Nat} {spare : Nat → Bool} {held : Bool}

/-- The cells of a struct, each read by its field. -/
theorem struct_cells {e : TypeId} {fs : Array Field} {n : Nat} {cs : List Value} {x : DataW H × List MemPlace} (he : P.underlying e = some (.struct fs)) (hone : Go.Deep.oneCellFields P fs = true) (ce : P.cellsOf e = fs.size)
    (h : DataW.trod enc P w base spare held n e cs = some x) : cs.length = fs.size ∧ ∀ (i : Nat) (f : Field) (c : Value), fs[i]? = some f → cs[i]? = some c → ∃ m y, DataW.trod enc P w base spare held m f.type [c] = some y := by
  obtain ⟨xs, m, _, _, hl, hlen, hf⟩ := DataW.trod_struct he h
  refine ⟨hl.trans ce, fun i f c hi hc => ?_⟩
  obtain ⟨ho, h1⟩ := Go.Deep.hone_of hone i f hi
  have h2 := hf i f hi
  have hil := (List.getElem?_eq_some_iff.1 hc).1
  have e1 : (cs.drop f.offset).take (P.cellsOf f.type) = [c] := by
    rw [ho, h1, List.drop_eq_getElem_cons hil, List.take_succ_cons, List.take_zero, ← Option.some.inj ((List.getElem?_eq_getElem hil).symm.trans hc)]
  rw [e1] at h2
  have hix : i < xs.length := by rw [hlen]; exact (Array.getElem?_eq_some_iff.1 hi).1
  rw [List.getElem?_eq_getElem hix] at h2
  exact ⟨m, _, h2⟩

/-- A slice of such elements: 'dec' reads one. -/
theorem open_flt {α : Type} (f : α → List Value) (ok : α → Prop) {k : Nat} (hf : ∀ y, (f y).length = k) (hk : 0 < k) {t e : TypeId} {fuel : Nat} {v : Value} {x : DataW H × List MemPlace} (ht : P.underlying t = some (.slice e)) (ce : P.cellsOf e = k)
    (dec : ∀ n cs y, DataW.trod enc P w base spare held n e cs = some y → ∃ y : α, cs = f y ∧ ok y)
    (h : DataW.trod enc P w base spare held fuel t [v] = some x) : ∃ a c l, v = .slice a l.length c ∧ Src w a (flt f l) ∧ (∀ y ∈ l, ok y) ∧ l.length ≤ 9223372036854775807 ∧ l.length ≤ c := by
  rcases Go.Deep.open_slice ht h with ⟨hcs, _⟩ | ⟨a, len, cap, m, n, D, Pl, hcs, _, hl, hm, hmm, _, hx⟩
  · simp at hcs
    exact ⟨none, 0, [], hcs, Src.nil _ _, by simp, by simp, by simp⟩
  · simp at hcs
    have hlm : len ≤ m := by rw [hmm]; split <;> omega
    have key : ∀ i, i < m → ∃ y : α, (∀ j c, (f y)[j]? = some c → w.cell? (a.add (i * k + j)) = some c) ∧ ok y := by
      intro i hi
      obtain ⟨cs', h1, h2⟩ := hx i hi
      rw [ce] at h1
      obtain ⟨_, hlen, hcell⟩ := World.cells?_some h1
      obtain ⟨y, rfl, hok⟩ := dec _ _ _ h2
      refine ⟨y, fun j c hj => ?_, hok⟩
      have hjl := (List.getElem?_eq_some_iff.1 hj).1
      have e0 := hcell j (by omega)
      rw [Go.Deep.add_add] at e0
      rw [e0, ← hj, List.getElem?_eq_getElem hjl]
    have : ∀ n, n ≤ m → ∃ l : List α, l.length = n ∧ (∀ i (hi : i < l.length) j c, (f l[i])[j]? = some c → w.cell? (a.add (i * k + j)) = some c) ∧ ∀ y ∈ l, ok y := by
      intro n
      induction n with
      | zero => intro _; exact ⟨[], rfl, by simp, by simp⟩
      | succ n ih =>
        intro hn
        obtain ⟨l, h1, h2, h3⟩ := ih (by omega)
        obtain ⟨y, hy, hok⟩ := key n (by omega)
        refine ⟨l ++ [y], by simp [h1], fun i hi j c hj => ?_, fun q hq => ?_⟩
        · by_cases hi' : i < l.length
          · rw [List.getElem_append_left hi'] at hj; exact h2 i hi' j c hj
          · have hil : i = l.length := by simp at hi; omega
            subst hil
            simp only [List.getElem_concat_length] at hj
            rw [h1]
            exact hy j c hj
        · rcases List.mem_append.1 hq with h | h
          · exact h3 q h
          · simp at h; subst h; exact hok
    obtain ⟨l, h1, h2, h3⟩ := this len hlm
    refine ⟨some a, cap, l, by rw [hcs, h1], src_of_cells fun i hi => ?_, h3, by rw [h1]; simp [maxLen] at hm; omega, by omega⟩
    have hlf := flt_length hf l
    have hq : i / k < l.length := Nat.div_lt_of_lt_mul (by rw [Nat.mul_comm]; omega)
    have hg := flt_get hf l (i / k) hq (i % k) (Nat.mod_lt _ hk)
    have hik : i / k * k + i % k = i := by rw [Nat.mul_comm]; exact Nat.div_add_mod i k
    rw [hik, List.getElem?_eq_getElem hi] at hg
    have := h2 (i / k) hq (i % k) _ hg.symm
    rw [hik] at this
    exact this
theorem trod_intv {n : Nat} {t : TypeId} {k : IntKind} {v : Value} {y : DataW H × List MemPlace} (ht : P.underlying t = some (.int k)) (h : DataW.trod enc P w base spare held n t [v] = some y) : ∃ z, v = .int k z ∧ (Lit.int k z).wf = true := by
  obtain ⟨z, hz, _, hw⟩ := DataW.trod_int ht h
  simp at hz
  exact ⟨z, hz, hw⟩
theorem trod_boolv {n : Nat} {t : TypeId} {v : Value} {y : DataW H × List MemPlace} (ht : P.underlying t = some .bool) (h : DataW.trod enc P w base spare held n t [v] = some y) : ∃ z, v = .bool z := by
  obtain ⟨z, hz, _⟩ := DataW.trod_bool ht h
  simp at hz
  exact ⟨z, hz⟩
end
end Go.Proofs.Ytclkkhpnnbkfmaa
