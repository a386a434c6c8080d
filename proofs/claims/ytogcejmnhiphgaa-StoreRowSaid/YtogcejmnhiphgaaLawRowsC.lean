/- '[][]byte' with its rows' capacities. -/
import Derived.Test.YtogcejmnhiphgaaLaw
namespace Go.Proofs.Ytogcejmnhiphgaa
open Go.ChangeShapes Go.WideShapes Go.ChangeAt Go.RowKit
variable {H : Type} {enc : TypeId × Value → H} {P : Program}
/-- '[][]byte'. -/
theorem open_rowsC {t e e' : TypeId} {w : World} {base : Nat} {spare : Nat → Bool} {held : Bool} {fuel : Nat} {v : Value} {x : DataW H × List MemPlace} (ht : P.underlying t = some (.slice e)) (hc : P.cellsOf e = 1) (he : P.underlying e = some (.slice e'))
    (he' : P.underlying e' = some (.int .u8)) (hc' : P.cellsOf e' = 1)
    (h : DataW.trod enc P w base spare held fuel t [v] = some x) : ∃ a c ps, v = .slice a ps.length c ∧ Mat w a ps ∧ ps.length ≤ 9223372036854775807 ∧ ∀ p ∈ ps, p.l.length ≤ p.c := by
  rcases Go.Deep.open_slice1 ht hc h with ⟨hcs, _⟩ | ⟨a, len, cap, m, n, V, D, Pl, hcs, _, hl, hm, hmm, _, hx⟩
  · simp at hcs
    exact ⟨none, 0, [], hcs, ⟨Src.nil _ _, by simp⟩, by simp, by simp⟩
  · simp at hcs
    have hlm : len ≤ m := by rw [hmm]; split <;> omega
    have key : ∀ i, i < m → ∃ p : Bsl, V i = p.val ∧ p.ok w ∧ p.l.length ≤ p.c := by
      intro i hi
      obtain ⟨a1, c1, l1, e1, hs, hl1, hc1⟩ := open_bytes he he' hc' (hx i hi).2
      exact ⟨⟨a1, c1, l1⟩, e1, ⟨hs, hl1⟩, hc1⟩
    have : ∀ n, n ≤ m → ∃ ps : List Bsl, ps.length = n ∧ (∀ i (hi : i < ps.length), V i = ps[i].val) ∧ ∀ p ∈ ps, p.ok w ∧ p.l.length ≤ p.c := by
      intro n
      induction n with
      | zero => intro _; exact ⟨[], rfl, by simp, by simp⟩
      | succ n ih =>
        intro hn
        obtain ⟨ps, h1, h2, h3⟩ := ih (by omega)
        obtain ⟨p, hp1, hp2⟩ := key n (by omega)
        refine ⟨ps ++ [p], by simp [h1], fun i hi => ?_, fun q hq => ?_⟩
        · by_cases hi' : i < ps.length
          · rw [List.getElem_append_left hi']; exact h2 i hi'
          · have : i = ps.length := by simp at hi; omega
            subst this
            simp [h1, hp1]
        · rcases List.mem_append.1 hq with h | h
          · exact h3 q h
          · simp at h; subst h; exact hp2
    obtain ⟨ps, h1, h2, h3⟩ := this len hlm
    refine ⟨some a, cap, ps, by rw [hcs, h1], ⟨src_of_cells fun i hi => ?_, fun p hp => (h3 p hp).1⟩, by rw [h1]; simp [maxLen] at hm; omega, fun p hp => (h3 p hp).2⟩
    simp at hi
    rw [(hx i (by omega)).1, List.getElem_map, h2 i hi]
end Go.Proofs.Ytogcejmnhiphgaa
