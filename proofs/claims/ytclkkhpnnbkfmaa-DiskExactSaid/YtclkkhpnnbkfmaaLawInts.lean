/- How lists of numbers and of booleans are opened. -/
import Derived.Test.YtclkkhpnnbkfmaaLaw
import Derived.Test.YtclkkhpnnbkfmaaInts
import Derived.Deep.Grids
namespace Go.Proofs.Ytclkkhpnnbkfmaa
open Go.ChangeShapes Go.WideShapes Go.ChangeAt Go.RowKit

section
variable {H : Type} {enc : TypeId × Value → H} {P : Program}
/-- '[]int'. -/
theorem open_intsv {t e : TypeId} {w : World} {base : Nat} {spare : Nat → Bool} {held : Bool} {fuel : Nat} {v : Value} {x : DataW H × List MemPlace} (ht : P.underlying t = some (.slice e)) (he : P.underlying e = some (.int .i64)) (hc : P.cellsOf e = 1)
    (h : DataW.trod enc P w base spare held fuel t [v] = some x) : ∃ a c zs, v = .slice a zs.length c ∧ Src w a (ivs zs) ∧ zs.length ≤ 9223372036854775807 ∧ ∀ z ∈ zs, (Lit.int .i64 z).wf = true := by
  rcases open_ints ht he hc h with ⟨hcs, _⟩ | ⟨a, len, cap, zs, hcs, _, hl, hm, hz, _, hcell, hwz⟩
  · simp at hcs
    exact ⟨none, 0, [], hcs, Src.nil _ _, by simp, by simp⟩
  · simp at hcs
    have hlz : len ≤ zs.length := by rw [hz]; split <;> omega
    refine ⟨some a, cap, zs.take len, by rw [hcs]; simp [Nat.min_eq_left hlz], src_of_cells fun i hi => ?_, by simp [maxLen] at hm ⊢; omega, fun z hz => hwz z (List.mem_of_mem_take hz)⟩
    simp [ivs] at hi
    rw [hcell i (by omega)]
    have hg : zs.getD i 0 = zs[i]'(by omega) := by simp [show i < zs.length by omega]
    rw [hg]
    simp [ivs]

/-- '[]bool'. -/
theorem open_boolsv {t e : TypeId} {w : World} {base : Nat} {held : Bool} {fuel : Nat} {v : Value} {x : DataW H × List MemPlace} (ht : P.underlying t = some (.slice e)) (he : P.underlying e = some .bool) (hc : P.cellsOf e = 1)
    (h : DataW.trod enc P w base (fun _ => true) held fuel t [v] = some x) : ∃ a c zs, v = .slice a zs.length c ∧ Src w a (bovs zs) ∧ zs.length ≤ 9223372036854775807 := by
  rcases Go.Deep.open_bools ht he hc h with ⟨hcs, _⟩ | ⟨a, len, cap, B, hcs, _, hl, hm, _, hcell⟩
  · simp at hcs
    exact ⟨none, 0, [], hcs, Src.nil _ _, by simp⟩
  · simp at hcs
    refine ⟨some a, cap, (List.range len).map B, by rw [hcs]; simp, src_of_cells fun i hi => ?_, by simp [maxLen] at hm ⊢; omega⟩
    simp [bovs] at hi
    rw [hcell i (by omega)]
    simp [bovs]
end
end Go.Proofs.Ytclkkhpnnbkfmaa
