/-
  No cell of these rows narrows 'for every input' (looked for: loops, veiled, ifaces, maps, wideKeys, modest, calm, conditions, laid).
  DERIVED. THE GIVEN ROWS OF THIS SEAT. 11 by the template 'for every input the law returns true; each argument reads behind the call as it read before'; 0 by the template 'total and deterministic' (their statements: YtobgiapfehffcaaTotals.lean).
  GIVEN WITH THE SEED: the statements are not yours to turn. If you find one false, say at which input.
  Laid BY PROGRAM, IN A SANDBOX (cutbox-rows.mjs): the forced cells as the released guide's own fill.sh prints them over the translation 4443375363bb858b… (all of the seat's roots in one cut). By AI agents, Wed Nov 11 2026. No macro, syntax, notation, axiom, sorry.
-/
import Derived.Test.YtobgiapfehffcaaChecked
import GoSem.Claim
import GoSem.ClaimJoined
import GoSem.ClaimMapViews
import Derived.JoinedTies
import Derived.KernelRfl
namespace Go.Proofs.Ytobgiapfehffcaa
/- THE CELL 'sum', in the pinned program and in every row, IS THE sha256 OF THE DUMP (.gsa) THAT YtobgiapfehffcaaProg.lean LOADS. Nothing in Lean hashes anything: it is a label: what it is worth is what the hold of that sum in a sandbox is worth. -/
noncomputable def Try.pinned : Pinned := { name := "ytobgiapfehffcaa", sum := "4443375363bb858b19f250bd3c30fbcb12c72af9356a47cd1932eb5469636dbd", checked := Try.checked }
namespace Rows
def none {H : Type} : Left H := { results := [], args := [] }

/-- 'cellarerlaw02.CrcUnlike': WHATEVER THE INPUT: true; the input reads as it did. -/
def crcUnlikeSpec : ChangeSpec := { name := "crcUnlike", fn := fun _ => fun
  | [d1, d2, d3] => { results := [.lit (.bool true)], args := [d1, d2, d3] }
  | _ => none }
def crcUnlikeRow : OpenClaim := { program := "ytobgiapfehffcaa", sum := "4443375363bb858b19f250bd3c30fbcb12c72af9356a47cd1932eb5469636dbd", func := "cellarer/cellarerlaw02.CrcUnlike", spec := "crcUnlike", apart := false }
def CrcUnlikeSaid : Prop := crcUnlikeRow.holds Try.pinned (OpenSpec.ofChange crcUnlikeSpec)

/-- ITS FALSE NEIGHBOUR: 'it returns false'. Refute it at one input. -/
def crcUnlikeWrong : ChangeSpec := { name := "crcUnlike", fn := fun _ => fun
  | [d1, d2, d3] => { results := [.lit (.bool false)], args := [d1, d2, d3] }
  | _ => none }
def CrcUnlikeWrongFalsely : Prop := crcUnlikeRow.holds Try.pinned (OpenSpec.ofChange crcUnlikeWrong)

/-- 'cellarerlaw02.CrcLinear': WHATEVER THE INPUT: true; the input reads as it did. -/
def crcLinearSpec : ChangeSpec := { name := "crcLinear", fn := fun _ => fun
  | [d1, d2, d3] => { results := [.lit (.bool true)], args := [d1, d2, d3] }
  | _ => none }
def crcLinearRow : OpenClaim := { program := "ytobgiapfehffcaa", sum := "4443375363bb858b19f250bd3c30fbcb12c72af9356a47cd1932eb5469636dbd", func := "cellarer/cellarerlaw02.CrcLinear", spec := "crcLinear", apart := false }
def CrcLinearSaid : Prop := crcLinearRow.holds Try.pinned (OpenSpec.ofChange crcLinearSpec)

/-- ITS FALSE NEIGHBOUR: 'it returns false'. Refute it at one input. -/
def crcLinearWrong : ChangeSpec := { name := "crcLinear", fn := fun _ => fun
  | [d1, d2, d3] => { results := [.lit (.bool false)], args := [d1, d2, d3] }
  | _ => none }
def CrcLinearWrongFalsely : Prop := crcLinearRow.holds Try.pinned (OpenSpec.ofChange crcLinearWrong)

/-- 'cellarerlaw02.CrcExact': WHATEVER THE INPUT: true; the input reads as it did. -/
def crcExactSpec : ChangeSpec := { name := "crcExact", fn := fun _ => fun
  | [d] => { results := [.lit (.bool true)], args := [d] }
  | _ => none }
def crcExactRow : OpenClaim := { program := "ytobgiapfehffcaa", sum := "4443375363bb858b19f250bd3c30fbcb12c72af9356a47cd1932eb5469636dbd", func := "cellarer/cellarerlaw02.CrcExact", spec := "crcExact", apart := false }
def CrcExactSaid : Prop := crcExactRow.holds Try.pinned (OpenSpec.ofChange crcExactSpec)

/-- ITS FALSE NEIGHBOUR: 'it returns false'. Refute it at one input. -/
def crcExactWrong : ChangeSpec := { name := "crcExact", fn := fun _ => fun
  | [d] => { results := [.lit (.bool false)], args := [d] }
  | _ => none }
def CrcExactWrongFalsely : Prop := crcExactRow.holds Try.pinned (OpenSpec.ofChange crcExactWrong)

/-- 'cellarerlaw02.CrcParts': WHATEVER THE INPUT: true; the input reads as it did. -/
def crcPartsSpec : ChangeSpec := { name := "crcParts", fn := fun _ => fun
  | [d1, d2] => { results := [.lit (.bool true)], args := [d1, d2] }
  | _ => none }
def crcPartsRow : OpenClaim := { program := "ytobgiapfehffcaa", sum := "4443375363bb858b19f250bd3c30fbcb12c72af9356a47cd1932eb5469636dbd", func := "cellarer/cellarerlaw02.CrcParts", spec := "crcParts", apart := false }
def CrcPartsSaid : Prop := crcPartsRow.holds Try.pinned (OpenSpec.ofChange crcPartsSpec)

/-- ITS FALSE NEIGHBOUR: 'it returns false'. Refute it at one input. -/
def crcPartsWrong : ChangeSpec := { name := "crcParts", fn := fun _ => fun
  | [d1, d2] => { results := [.lit (.bool false)], args := [d1, d2] }
  | _ => none }
def CrcPartsWrongFalsely : Prop := crcPartsRow.holds Try.pinned (OpenSpec.ofChange crcPartsWrong)

/-- 'cellarerlaw02.CrcBytes': WHATEVER THE INPUT: true; the input reads as it did. -/
def crcBytesSpec : ChangeSpec := { name := "crcBytes", fn := fun _ => fun
  | [d] => { results := [.lit (.bool true)], args := [d] }
  | _ => none }
def crcBytesRow : OpenClaim := { program := "ytobgiapfehffcaa", sum := "4443375363bb858b19f250bd3c30fbcb12c72af9356a47cd1932eb5469636dbd", func := "cellarer/cellarerlaw02.CrcBytes", spec := "crcBytes", apart := false }
def CrcBytesSaid : Prop := crcBytesRow.holds Try.pinned (OpenSpec.ofChange crcBytesSpec)

/-- ITS FALSE NEIGHBOUR: 'it returns false'. Refute it at one input. -/
def crcBytesWrong : ChangeSpec := { name := "crcBytes", fn := fun _ => fun
  | [d] => { results := [.lit (.bool false)], args := [d] }
  | _ => none }
def CrcBytesWrongFalsely : Prop := crcBytesRow.holds Try.pinned (OpenSpec.ofChange crcBytesWrong)

/-- 'cellarerlaw01.BinOrder': WHATEVER THE INPUT: true; the input reads as it did. -/
def binOrderSpec : ChangeSpec := { name := "binOrder", fn := fun _ => fun
  | [d1, d2, d3] => { results := [.lit (.bool true)], args := [d1, d2, d3] }
  | _ => none }
def binOrderRow : OpenClaim := { program := "ytobgiapfehffcaa", sum := "4443375363bb858b19f250bd3c30fbcb12c72af9356a47cd1932eb5469636dbd", func := "cellarer/cellarerlaw01.BinOrder", spec := "binOrder", apart := false }
def BinOrderSaid : Prop := binOrderRow.holds Try.pinned (OpenSpec.ofChange binOrderSpec)

/-- ITS FALSE NEIGHBOUR: 'it returns false'. Refute it at one input. -/
def binOrderWrong : ChangeSpec := { name := "binOrder", fn := fun _ => fun
  | [d1, d2, d3] => { results := [.lit (.bool false)], args := [d1, d2, d3] }
  | _ => none }
def BinOrderWrongFalsely : Prop := binOrderRow.holds Try.pinned (OpenSpec.ofChange binOrderWrong)

/-- 'cellarerlaw01.BinSizes': WHATEVER THE INPUT: true; the input reads as it did. -/
def binSizesSpec : ChangeSpec := { name := "binSizes", fn := fun _ => fun
  | [d1, d2, d3, d4] => { results := [.lit (.bool true)], args := [d1, d2, d3, d4] }
  | _ => none }
def binSizesRow : OpenClaim := { program := "ytobgiapfehffcaa", sum := "4443375363bb858b19f250bd3c30fbcb12c72af9356a47cd1932eb5469636dbd", func := "cellarer/cellarerlaw01.BinSizes", spec := "binSizes", apart := false }
def BinSizesSaid : Prop := binSizesRow.holds Try.pinned (OpenSpec.ofChange binSizesSpec)

/-- ITS FALSE NEIGHBOUR: 'it returns false'. Refute it at one input. -/
def binSizesWrong : ChangeSpec := { name := "binSizes", fn := fun _ => fun
  | [d1, d2, d3, d4] => { results := [.lit (.bool false)], args := [d1, d2, d3, d4] }
  | _ => none }
def BinSizesWrongFalsely : Prop := binSizesRow.holds Try.pinned (OpenSpec.ofChange binSizesWrong)

/-- 'cellarerlaw01.BinExact': WHATEVER THE INPUT: true; the input reads as it did. -/
def binExactSpec : ChangeSpec := { name := "binExact", fn := fun _ => fun
  | [d1, d2, d3, d4, d5] => { results := [.lit (.bool true)], args := [d1, d2, d3, d4, d5] }
  | _ => none }
def binExactRow : OpenClaim := { program := "ytobgiapfehffcaa", sum := "4443375363bb858b19f250bd3c30fbcb12c72af9356a47cd1932eb5469636dbd", func := "cellarer/cellarerlaw01.BinExact", spec := "binExact", apart := false }
def BinExactSaid : Prop := binExactRow.holds Try.pinned (OpenSpec.ofChange binExactSpec)

/-- ITS FALSE NEIGHBOUR: 'it returns false'. Refute it at one input. -/
def binExactWrong : ChangeSpec := { name := "binExact", fn := fun _ => fun
  | [d1, d2, d3, d4, d5] => { results := [.lit (.bool false)], args := [d1, d2, d3, d4, d5] }
  | _ => none }
def BinExactWrongFalsely : Prop := binExactRow.holds Try.pinned (OpenSpec.ofChange binExactWrong)

/-- 'cellarerlaw01.BinBack': WHATEVER THE INPUT: true; the input reads as it did. -/
def binBackSpec : ChangeSpec := { name := "binBack", fn := fun _ => fun
  | [d1, d2, d3] => { results := [.lit (.bool true)], args := [d1, d2, d3] }
  | _ => none }
def binBackRow : OpenClaim := { program := "ytobgiapfehffcaa", sum := "4443375363bb858b19f250bd3c30fbcb12c72af9356a47cd1932eb5469636dbd", func := "cellarer/cellarerlaw01.BinBack", spec := "binBack", apart := false }
def BinBackSaid : Prop := binBackRow.holds Try.pinned (OpenSpec.ofChange binBackSpec)

/-- ITS FALSE NEIGHBOUR: 'it returns false'. Refute it at one input. -/
def binBackWrong : ChangeSpec := { name := "binBack", fn := fun _ => fun
  | [d1, d2, d3] => { results := [.lit (.bool false)], args := [d1, d2, d3] }
  | _ => none }
def BinBackWrongFalsely : Prop := binBackRow.holds Try.pinned (OpenSpec.ofChange binBackWrong)

/-- 'cellarerlaw01.BinEnds': WHATEVER THE INPUT: true; the input reads as it did. -/
def binEndsSpec : ChangeSpec := { name := "binEnds", fn := fun _ => fun
  | [d1, d2, d3] => { results := [.lit (.bool true)], args := [d1, d2, d3] }
  | _ => none }
def binEndsRow : OpenClaim := { program := "ytobgiapfehffcaa", sum := "4443375363bb858b19f250bd3c30fbcb12c72af9356a47cd1932eb5469636dbd", func := "cellarer/cellarerlaw01.BinEnds", spec := "binEnds", apart := false }
def BinEndsSaid : Prop := binEndsRow.holds Try.pinned (OpenSpec.ofChange binEndsSpec)

/-- ITS FALSE NEIGHBOUR: 'it returns false'. Refute it at one input. -/
def binEndsWrong : ChangeSpec := { name := "binEnds", fn := fun _ => fun
  | [d1, d2, d3] => { results := [.lit (.bool false)], args := [d1, d2, d3] }
  | _ => none }
def BinEndsWrongFalsely : Prop := binEndsRow.holds Try.pinned (OpenSpec.ofChange binEndsWrong)

/-- 'cellarerlaw01.BinParts': WHATEVER THE INPUT: true; the input reads as it did. -/
def binPartsSpec : ChangeSpec := { name := "binParts", fn := fun _ => fun
  | [d1, d2] => { results := [.lit (.bool true)], args := [d1, d2] }
  | _ => none }
def binPartsRow : OpenClaim := { program := "ytobgiapfehffcaa", sum := "4443375363bb858b19f250bd3c30fbcb12c72af9356a47cd1932eb5469636dbd", func := "cellarer/cellarerlaw01.BinParts", spec := "binParts", apart := false }
def BinPartsSaid : Prop := binPartsRow.holds Try.pinned (OpenSpec.ofChange binPartsSpec)

/-- ITS FALSE NEIGHBOUR: 'it returns false'. Refute it at one input. -/
def binPartsWrong : ChangeSpec := { name := "binParts", fn := fun _ => fun
  | [d1, d2] => { results := [.lit (.bool false)], args := [d1, d2] }
  | _ => none }
def BinPartsWrongFalsely : Prop := binPartsRow.holds Try.pinned (OpenSpec.ofChange binPartsWrong)

/- THE SECOND FORM. 'bulk': how many values and letters a reading holds, each counted each time it is reached (what is shared counts as often as it is met; a slice's spare places count too). A statement '..UptoSaid' is the law's where the arguments, and the package variables that the reading takes, are together of bulk at most 1048576: NARROWER than '..Said'. Prove '..Said' where nothing that the law and all that it calls make is longer than what came in: it says more and counts as full. Else prove '..UptoSaid'. A law counts once. -/
mutual
def uptoBulk {H : Type} : DataW H → Nat
  | .lit (.string bytes) => bytes.length + 1
  | .lit _ => 1
  | .nil => 1
  | .ptr d => uptoBulk d + 1
  | .slice elems spare => uptoBulkAll elems + uptoBulkAll spare + 1
  | .agg parts => uptoBulkAll parts + 1
  | .iface _ d => uptoBulk d + 1
  | .map entries => uptoBulkEntries entries + 1
  | .held _ => 1
def uptoBulkAll {H : Type} : List (DataW H) → Nat
  | [] => 0
  | d :: r => uptoBulk d + uptoBulkAll r
def uptoBulkEntries {H : Type} : List (Lit × DataW H) → Nat
  | [] => 0
  | x :: r => uptoBulkEntry x + uptoBulkEntries r
def uptoBulkEntry {H : Type} : Lit × DataW H → Nat
  | (.string bytes, d) => bytes.length + uptoBulk d + 1
  | (_, d) => uptoBulk d + 1
 end
def uptoSmall : (H : Type) → List (DataW H) → Bool := fun _ ds => decide (uptoBulkAll ds ≤ 1048576)
def OpenSpec.upto (s : _root_.Go.ChangeSpec) : _root_.Go.OpenSpec := { _root_.Go.OpenSpec.ofChange s with cond := some uptoSmall }

/-- 'cellarerlaw02.CrcUnlike', WHERE WHAT IT READS IS OF BULK AT MOST 1048576: true; the input reads as it did. -/
def crcUnlikeUptoRow : OpenClaim := { program := "ytobgiapfehffcaa", sum := "4443375363bb858b19f250bd3c30fbcb12c72af9356a47cd1932eb5469636dbd", func := "cellarer/cellarerlaw02.CrcUnlike", spec := "crcUnlike", apart := false, narrowed := true }
def CrcUnlikeUptoSaid : Prop := crcUnlikeUptoRow.holds Try.pinned (OpenSpec.upto crcUnlikeSpec)

/-- 'cellarerlaw02.CrcLinear', WHERE WHAT IT READS IS OF BULK AT MOST 1048576: true; the input reads as it did. -/
def crcLinearUptoRow : OpenClaim := { program := "ytobgiapfehffcaa", sum := "4443375363bb858b19f250bd3c30fbcb12c72af9356a47cd1932eb5469636dbd", func := "cellarer/cellarerlaw02.CrcLinear", spec := "crcLinear", apart := false, narrowed := true }
def CrcLinearUptoSaid : Prop := crcLinearUptoRow.holds Try.pinned (OpenSpec.upto crcLinearSpec)

/-- 'cellarerlaw02.CrcExact', WHERE WHAT IT READS IS OF BULK AT MOST 1048576: true; the input reads as it did. -/
def crcExactUptoRow : OpenClaim := { program := "ytobgiapfehffcaa", sum := "4443375363bb858b19f250bd3c30fbcb12c72af9356a47cd1932eb5469636dbd", func := "cellarer/cellarerlaw02.CrcExact", spec := "crcExact", apart := false, narrowed := true }
def CrcExactUptoSaid : Prop := crcExactUptoRow.holds Try.pinned (OpenSpec.upto crcExactSpec)

/-- 'cellarerlaw02.CrcParts', WHERE WHAT IT READS IS OF BULK AT MOST 1048576: true; the input reads as it did. -/
def crcPartsUptoRow : OpenClaim := { program := "ytobgiapfehffcaa", sum := "4443375363bb858b19f250bd3c30fbcb12c72af9356a47cd1932eb5469636dbd", func := "cellarer/cellarerlaw02.CrcParts", spec := "crcParts", apart := false, narrowed := true }
def CrcPartsUptoSaid : Prop := crcPartsUptoRow.holds Try.pinned (OpenSpec.upto crcPartsSpec)

/-- 'cellarerlaw02.CrcBytes', WHERE WHAT IT READS IS OF BULK AT MOST 1048576: true; the input reads as it did. -/
def crcBytesUptoRow : OpenClaim := { program := "ytobgiapfehffcaa", sum := "4443375363bb858b19f250bd3c30fbcb12c72af9356a47cd1932eb5469636dbd", func := "cellarer/cellarerlaw02.CrcBytes", spec := "crcBytes", apart := false, narrowed := true }
def CrcBytesUptoSaid : Prop := crcBytesUptoRow.holds Try.pinned (OpenSpec.upto crcBytesSpec)

/-- 'cellarerlaw01.BinOrder', WHERE WHAT IT READS IS OF BULK AT MOST 1048576: true; the input reads as it did. -/
def binOrderUptoRow : OpenClaim := { program := "ytobgiapfehffcaa", sum := "4443375363bb858b19f250bd3c30fbcb12c72af9356a47cd1932eb5469636dbd", func := "cellarer/cellarerlaw01.BinOrder", spec := "binOrder", apart := false, narrowed := true }
def BinOrderUptoSaid : Prop := binOrderUptoRow.holds Try.pinned (OpenSpec.upto binOrderSpec)

/-- 'cellarerlaw01.BinSizes', WHERE WHAT IT READS IS OF BULK AT MOST 1048576: true; the input reads as it did. -/
def binSizesUptoRow : OpenClaim := { program := "ytobgiapfehffcaa", sum := "4443375363bb858b19f250bd3c30fbcb12c72af9356a47cd1932eb5469636dbd", func := "cellarer/cellarerlaw01.BinSizes", spec := "binSizes", apart := false, narrowed := true }
def BinSizesUptoSaid : Prop := binSizesUptoRow.holds Try.pinned (OpenSpec.upto binSizesSpec)

/-- 'cellarerlaw01.BinExact', WHERE WHAT IT READS IS OF BULK AT MOST 1048576: true; the input reads as it did. -/
def binExactUptoRow : OpenClaim := { program := "ytobgiapfehffcaa", sum := "4443375363bb858b19f250bd3c30fbcb12c72af9356a47cd1932eb5469636dbd", func := "cellarer/cellarerlaw01.BinExact", spec := "binExact", apart := false, narrowed := true }
def BinExactUptoSaid : Prop := binExactUptoRow.holds Try.pinned (OpenSpec.upto binExactSpec)

/-- 'cellarerlaw01.BinBack', WHERE WHAT IT READS IS OF BULK AT MOST 1048576: true; the input reads as it did. -/
def binBackUptoRow : OpenClaim := { program := "ytobgiapfehffcaa", sum := "4443375363bb858b19f250bd3c30fbcb12c72af9356a47cd1932eb5469636dbd", func := "cellarer/cellarerlaw01.BinBack", spec := "binBack", apart := false, narrowed := true }
def BinBackUptoSaid : Prop := binBackUptoRow.holds Try.pinned (OpenSpec.upto binBackSpec)

/-- 'cellarerlaw01.BinEnds', WHERE WHAT IT READS IS OF BULK AT MOST 1048576: true; the input reads as it did. -/
def binEndsUptoRow : OpenClaim := { program := "ytobgiapfehffcaa", sum := "4443375363bb858b19f250bd3c30fbcb12c72af9356a47cd1932eb5469636dbd", func := "cellarer/cellarerlaw01.BinEnds", spec := "binEnds", apart := false, narrowed := true }
def BinEndsUptoSaid : Prop := binEndsUptoRow.holds Try.pinned (OpenSpec.upto binEndsSpec)

/-- 'cellarerlaw01.BinParts', WHERE WHAT IT READS IS OF BULK AT MOST 1048576: true; the input reads as it did. -/
def binPartsUptoRow : OpenClaim := { program := "ytobgiapfehffcaa", sum := "4443375363bb858b19f250bd3c30fbcb12c72af9356a47cd1932eb5469636dbd", func := "cellarer/cellarerlaw01.BinParts", spec := "binParts", apart := false, narrowed := true }
def BinPartsUptoSaid : Prop := binPartsUptoRow.holds Try.pinned (OpenSpec.upto binPartsSpec)

end Rows
end Go.Proofs.Ytobgiapfehffcaa
