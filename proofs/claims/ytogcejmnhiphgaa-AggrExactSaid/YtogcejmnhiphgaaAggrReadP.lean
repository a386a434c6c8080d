/- What aggr.Read tells: plain. -/
import Derived.Test.YtogcejmnhiphgaaFramePlain2
namespace Go.Proofs.Ytogcejmnhiphgaa

def rightA (hd tl : Rec) (n : Nat) : Bool := decide (1 ≤ n ∧ n ≤ 64 ∧ hd.seq = n ∧ tl.seq = n ∧ hd.d.length + tl.d.length = 0)
def readGo (b : List Byte) (hd : Rec) : Nat → Nat → List Rec → List Int → List Rec × List Int × Bool
  | 0, _, l, o => (l, o, false)
  | f + 1, p, l, o =>
    if p < b.length then
      if (readF b p).2.2 ≠ 0 ∨ (readF b p).1.kind = 4 then (l, o, false)
      else if (readF b p).1.kind = 5 then (l, o, decide ((readF b p).2.1 = (b.length : Int)) && rightA hd (readF b p).1 l.length)
      else readGo b hd f (readF b p).2.1.toNat (l ++ [(readF b p).1]) (o ++ [(p : Int)])
    else (l, o, false)
def readA (b : List Byte) : List Rec × List Int × Bool :=
  if (readF b 0).2.2 ≠ 0 ∨ (readF b 0).1.kind ≠ 4 then ([], [], false) else readGo b (readF b 0).1 b.length (readF b 0).2.1.toNat [] []
end Go.Proofs.Ytogcejmnhiphgaa
