/- A power, plain: what its methods do to a state. -/
import Derived.Test.YtclkkhpnnbkfmaaBase
namespace Go.Proofs.Ytclkkhpnnbkfmaa

/-- A power as the page tells it. -/
structure PS where
  off : Bool
  life : Int
  keep : List Bool
  torn : Int
  trip : Option (Int × List Bool × Int)
def PS.new : PS := ⟨false, 0, [], -1, none⟩
def PS.cut (s : PS) (keep : List Bool) (torn : Int) : PS := if s.off then s else { s with off := true, keep := keep, torn := torn, trip := none }
def PS.arm (s : PS) (n : Int) (keep : List Bool) (torn : Int) : PS := { s with trip := if 1 ≤ n then some (n, keep, torn) else none }
def PS.start (s : PS) : PS := if s.off then { s with off := false, life := s.life + 1 } else s
def PS.spend (s : PS) : Bool × PS :=
  if s.off then (false, s) else match s.trip with
    | none => (true, s)
    | some (n, k, t) => if 1 < n then (true, { s with trip := some (n - 1, k, t) }) else (false, s.cut k t)
def PS.kept (s : PS) (k : Int) : Bool := decide (0 ≤ k) && (s.keep.getD k.toNat false)

end Go.Proofs.Ytclkkhpnnbkfmaa
