/- Lists of numbers and of booleans. -/
import Derived.Test.YtclkkhpnnbkfmaaBase
namespace Go.Proofs.Ytclkkhpnnbkfmaa
open Go.RowKit

def ivs (zs : List Int) : List Value := zs.map (Value.int .i64)
def bovs (bs : List Bool) : List Value := bs.map Value.bool
theorem ivs_length (zs : List Int) : (ivs zs).length = zs.length := by simp [ivs]
theorem bovs_length (zs : List Bool) : (bovs zs).length = zs.length := by simp [bovs]
theorem src_ints_at {w : World} {a : Option Addr} {zs : List Int} (h : Src w a (ivs zs)) {i : Nat} (hi : i < zs.length) :
    ∃ b o, a = some ⟨b, o, none⟩ ∧ b < w.heap.size ∧ ∀ j (hj : j < zs.length), w.cell? ⟨b, o + j, none⟩ = some (.int .i64 zs[j]) := by
  obtain ⟨b, o, ha, hlt, hat⟩ := h.at (i := i) (by simpa [ivs] using hi)
  refine ⟨b, o, ha, hlt, fun j hj => ?_⟩
  rw [hat j (by simpa [ivs] using hj)]
  simp [ivs]
theorem src_bools_at {w : World} {a : Option Addr} {zs : List Bool} (h : Src w a (bovs zs)) {i : Nat} (hi : i < zs.length) :
    ∃ b o, a = some ⟨b, o, none⟩ ∧ b < w.heap.size ∧ ∀ j (hj : j < zs.length), w.cell? ⟨b, o + j, none⟩ = some (.bool zs[j]) := by
  obtain ⟨b, o, ha, hlt, hat⟩ := h.at (i := i) (by simpa [bovs] using hi)
  refine ⟨b, o, ha, hlt, fun j hj => ?_⟩
  rw [hat j (by simpa [bovs] using hj)]
  simp [bovs]
end Go.Proofs.Ytclkkhpnnbkfmaa
