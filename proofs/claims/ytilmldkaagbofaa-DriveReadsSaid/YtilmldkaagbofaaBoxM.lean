/- A tape in a variable. -/
import Derived.Test.YtilmldkaagbofaaMedWakes
namespace Go.Proofs.Ytilmldkaagbofaa
open Go.RowKit


/-- In block g stands a tape. -/
abbrev BoxM (w : World) (g : Nat) (cap : Int) (a : Option Addr) (n c : Nat) : Prop := w.heap[g]? = some (.cells #[.int .i64 cap, .slice a n c] 32 (0, 0))
theorem BoxM.ext {w w' : World} {g : Nat} {cap : Int} {a : Option Addr} {n c : Nat} (h : BoxM w g cap a n c) (hb : Below w.heap.size w w') : BoxM w' g cap a n c := (hb.block g (heap_lt h)).trans h
theorem BoxM.cells {w : World} {g : Nat} {cap : Int} {a : Option Addr} {n c : Nat} (h : BoxM w g cap a n c) : w.cell? ⟨g, 0, none⟩ = some (.int .i64 cap) ∧ w.cell? ⟨g, 1, none⟩ = some (.slice a n c) := ⟨cell_of_row w g 0 _ _ _ h, cell_of_row w g 1 _ _ _ h⟩
end Go.Proofs.Ytilmldkaagbofaa
