/-
  No cell of these rows narrows 'for every input' (looked for: loops, veiled, ifaces, maps, wideKeys, modest, calm, conditions, laid).
  DERIVED. THE GIVEN ROWS OF THIS SEAT. 10 by the template 'for every input the law returns true; each argument reads behind the call as it read before'; 0 by the template 'total and deterministic' (their statements: YtogcejmnhiphgaaTotals.lean).
  GIVEN WITH THE SEED: the statements are not yours to turn. If you find one false, say at which input.
  Laid BY PROGRAM, IN A SANDBOX (cutbox-rows.mjs): the forced cells as the released guide's own fill.sh prints them over the translation 6f534237804d2c48… (all of the seat's roots in one cut). By AI agents, Wed Nov 11 2026. No macro, syntax, notation, axiom, sorry.
-/
import Derived.Test.YtogcejmnhiphgaaChecked
import GoSem.Claim
import GoSem.ClaimJoined
import GoSem.ClaimMapViews
import Derived.JoinedTies
import Derived.KernelRfl
namespace Go.Proofs.Ytogcejmnhiphgaa
/- THE CELL 'sum', in the pinned program and in every row, IS THE sha256 OF THE DUMP (.gsa) THAT YtogcejmnhiphgaaProg.lean LOADS. Nothing in Lean hashes anything: it is a label: what it is worth is what the hold of that sum in a sandbox is worth. -/
noncomputable def Try.pinned : Pinned := { name := "ytogcejmnhiphgaa", sum := "6f534237804d2c484fac7522825e3eec37f0b3070c7c633d4f38b401637efad3", checked := Try.checked }
namespace Rows
def none {H : Type} : Left H := { results := [], args := [] }

/-- 'cellarerlaw15.AggrSizes': WHATEVER THE INPUT: true; the input reads as it did. -/
def aggrSizesSpec : ChangeSpec := { name := "aggrSizes", fn := fun _ => fun
  | [d1, d2, d3] => { results := [.lit (.bool true)], args := [d1, d2, d3] }
  | _ => none }
def aggrSizesRow : OpenClaim := { program := "ytogcejmnhiphgaa", sum := "6f534237804d2c484fac7522825e3eec37f0b3070c7c633d4f38b401637efad3", func := "cellarer/cellarerlaw15.AggrSizes", spec := "aggrSizes", unfollowed := true, recurses := true, apart := false }
def AggrSizesSaid : Prop := aggrSizesRow.holds Try.pinned (OpenSpec.ofChange aggrSizesSpec)

/-- ITS FALSE NEIGHBOUR: 'it returns false'. Refute it at one input. -/
def aggrSizesWrong : ChangeSpec := { name := "aggrSizes", fn := fun _ => fun
  | [d1, d2, d3] => { results := [.lit (.bool false)], args := [d1, d2, d3] }
  | _ => none }
def AggrSizesWrongFalsely : Prop := aggrSizesRow.holds Try.pinned (OpenSpec.ofChange aggrSizesWrong)

/-- 'cellarerlaw15.AggrBounds': WHATEVER THE INPUT: true; the input reads as it did. -/
def aggrBoundsSpec : ChangeSpec := { name := "aggrBounds", fn := fun _ => fun
  | [d1, d2, d3] => { results := [.lit (.bool true)], args := [d1, d2, d3] }
  | _ => none }
def aggrBoundsRow : OpenClaim := { program := "ytogcejmnhiphgaa", sum := "6f534237804d2c484fac7522825e3eec37f0b3070c7c633d4f38b401637efad3", func := "cellarer/cellarerlaw15.AggrBounds", spec := "aggrBounds", unfollowed := true, recurses := true, apart := false }
def AggrBoundsSaid : Prop := aggrBoundsRow.holds Try.pinned (OpenSpec.ofChange aggrBoundsSpec)

/-- ITS FALSE NEIGHBOUR: 'it returns false'. Refute it at one input. -/
def aggrBoundsWrong : ChangeSpec := { name := "aggrBounds", fn := fun _ => fun
  | [d1, d2, d3] => { results := [.lit (.bool false)], args := [d1, d2, d3] }
  | _ => none }
def AggrBoundsWrongFalsely : Prop := aggrBoundsRow.holds Try.pinned (OpenSpec.ofChange aggrBoundsWrong)

/-- 'cellarerlaw15.AggrExact': WHATEVER THE INPUT: true; the input reads as it did. -/
def aggrExactSpec : ChangeSpec := { name := "aggrExact", fn := fun _ => fun
  | [d1, d2] => { results := [.lit (.bool true)], args := [d1, d2] }
  | _ => none }
def aggrExactRow : OpenClaim := { program := "ytogcejmnhiphgaa", sum := "6f534237804d2c484fac7522825e3eec37f0b3070c7c633d4f38b401637efad3", func := "cellarer/cellarerlaw15.AggrExact", spec := "aggrExact", unfollowed := true, recurses := true, apart := false }
def AggrExactSaid : Prop := aggrExactRow.holds Try.pinned (OpenSpec.ofChange aggrExactSpec)

/-- ITS FALSE NEIGHBOUR: 'it returns false'. Refute it at one input. -/
def aggrExactWrong : ChangeSpec := { name := "aggrExact", fn := fun _ => fun
  | [d1, d2] => { results := [.lit (.bool false)], args := [d1, d2] }
  | _ => none }
def AggrExactWrongFalsely : Prop := aggrExactRow.holds Try.pinned (OpenSpec.ofChange aggrExactWrong)

/-- 'cellarerlaw15.AggrCut': WHATEVER THE INPUT: true; the input reads as it did. -/
def aggrCutSpec : ChangeSpec := { name := "aggrCut", fn := fun _ => fun
  | [d1, d2, d3] => { results := [.lit (.bool true)], args := [d1, d2, d3] }
  | _ => none }
def aggrCutRow : OpenClaim := { program := "ytogcejmnhiphgaa", sum := "6f534237804d2c484fac7522825e3eec37f0b3070c7c633d4f38b401637efad3", func := "cellarer/cellarerlaw15.AggrCut", spec := "aggrCut", unfollowed := true, recurses := true, apart := false }
def AggrCutSaid : Prop := aggrCutRow.holds Try.pinned (OpenSpec.ofChange aggrCutSpec)

/-- ITS FALSE NEIGHBOUR: 'it returns false'. Refute it at one input. -/
def aggrCutWrong : ChangeSpec := { name := "aggrCut", fn := fun _ => fun
  | [d1, d2, d3] => { results := [.lit (.bool false)], args := [d1, d2, d3] }
  | _ => none }
def AggrCutWrongFalsely : Prop := aggrCutRow.holds Try.pinned (OpenSpec.ofChange aggrCutWrong)

/-- 'cellarerlaw15.AggrMore': WHATEVER THE INPUT: true; the input reads as it did. -/
def aggrMoreSpec : ChangeSpec := { name := "aggrMore", fn := fun _ => fun
  | [d1, d2, d3, d4] => { results := [.lit (.bool true)], args := [d1, d2, d3, d4] }
  | _ => none }
def aggrMoreRow : OpenClaim := { program := "ytogcejmnhiphgaa", sum := "6f534237804d2c484fac7522825e3eec37f0b3070c7c633d4f38b401637efad3", func := "cellarer/cellarerlaw15.AggrMore", spec := "aggrMore", unfollowed := true, recurses := true, apart := false }
def AggrMoreSaid : Prop := aggrMoreRow.holds Try.pinned (OpenSpec.ofChange aggrMoreSpec)

/-- ITS FALSE NEIGHBOUR: 'it returns false'. Refute it at one input. -/
def aggrMoreWrong : ChangeSpec := { name := "aggrMore", fn := fun _ => fun
  | [d1, d2, d3, d4] => { results := [.lit (.bool false)], args := [d1, d2, d3, d4] }
  | _ => none }
def AggrMoreWrongFalsely : Prop := aggrMoreRow.holds Try.pinned (OpenSpec.ofChange aggrMoreWrong)

/-- 'cellarerlaw10.StoreBounds': WHATEVER THE INPUT: true; the input reads as it did. -/
def storeBoundsSpec : ChangeSpec := { name := "storeBounds", fn := fun _ => fun
  | [d1, d2, d3] => { results := [.lit (.bool true)], args := [d1, d2, d3] }
  | _ => none }
def storeBoundsRow : OpenClaim := { program := "ytogcejmnhiphgaa", sum := "6f534237804d2c484fac7522825e3eec37f0b3070c7c633d4f38b401637efad3", func := "cellarer/cellarerlaw10.StoreBounds", spec := "storeBounds", unfollowed := true, recurses := true, apart := false }
def StoreBoundsSaid : Prop := storeBoundsRow.holds Try.pinned (OpenSpec.ofChange storeBoundsSpec)

/-- ITS FALSE NEIGHBOUR: 'it returns false'. Refute it at one input. -/
def storeBoundsWrong : ChangeSpec := { name := "storeBounds", fn := fun _ => fun
  | [d1, d2, d3] => { results := [.lit (.bool false)], args := [d1, d2, d3] }
  | _ => none }
def StoreBoundsWrongFalsely : Prop := storeBoundsRow.holds Try.pinned (OpenSpec.ofChange storeBoundsWrong)

/-- 'cellarerlaw10.StoreRow': WHATEVER THE INPUT: true; the input reads as it did. -/
def storeRowSpec : ChangeSpec := { name := "storeRow", fn := fun _ => fun
  | [d1, d2] => { results := [.lit (.bool true)], args := [d1, d2] }
  | _ => none }
def storeRowRow : OpenClaim := { program := "ytogcejmnhiphgaa", sum := "6f534237804d2c484fac7522825e3eec37f0b3070c7c633d4f38b401637efad3", func := "cellarer/cellarerlaw10.StoreRow", spec := "storeRow", unfollowed := true, recurses := true, apart := false }
def StoreRowSaid : Prop := storeRowRow.holds Try.pinned (OpenSpec.ofChange storeRowSpec)

/-- ITS FALSE NEIGHBOUR: 'it returns false'. Refute it at one input. -/
def storeRowWrong : ChangeSpec := { name := "storeRow", fn := fun _ => fun
  | [d1, d2] => { results := [.lit (.bool false)], args := [d1, d2] }
  | _ => none }
def StoreRowWrongFalsely : Prop := storeRowRow.holds Try.pinned (OpenSpec.ofChange storeRowWrong)

/-- 'cellarerlaw10.StoreErased': WHATEVER THE INPUT: true; the input reads as it did. -/
def storeErasedSpec : ChangeSpec := { name := "storeErased", fn := fun _ => fun
  | [d1, d2] => { results := [.lit (.bool true)], args := [d1, d2] }
  | _ => none }
def storeErasedRow : OpenClaim := { program := "ytogcejmnhiphgaa", sum := "6f534237804d2c484fac7522825e3eec37f0b3070c7c633d4f38b401637efad3", func := "cellarer/cellarerlaw10.StoreErased", spec := "storeErased", unfollowed := true, recurses := true, apart := false }
def StoreErasedSaid : Prop := storeErasedRow.holds Try.pinned (OpenSpec.ofChange storeErasedSpec)

/-- ITS FALSE NEIGHBOUR: 'it returns false'. Refute it at one input. -/
def storeErasedWrong : ChangeSpec := { name := "storeErased", fn := fun _ => fun
  | [d1, d2] => { results := [.lit (.bool false)], args := [d1, d2] }
  | _ => none }
def StoreErasedWrongFalsely : Prop := storeErasedRow.holds Try.pinned (OpenSpec.ofChange storeErasedWrong)

/-- 'cellarerlaw10.StoreLasts': WHATEVER THE INPUT: true; the input reads as it did. -/
def storeLastsSpec : ChangeSpec := { name := "storeLasts", fn := fun _ => fun
  | [d] => { results := [.lit (.bool true)], args := [d] }
  | _ => none }
def storeLastsRow : OpenClaim := { program := "ytogcejmnhiphgaa", sum := "6f534237804d2c484fac7522825e3eec37f0b3070c7c633d4f38b401637efad3", func := "cellarer/cellarerlaw10.StoreLasts", spec := "storeLasts", unfollowed := true, recurses := true, apart := false }
def StoreLastsSaid : Prop := storeLastsRow.holds Try.pinned (OpenSpec.ofChange storeLastsSpec)

/-- ITS FALSE NEIGHBOUR: 'it returns false'. Refute it at one input. -/
def storeLastsWrong : ChangeSpec := { name := "storeLasts", fn := fun _ => fun
  | [d] => { results := [.lit (.bool false)], args := [d] }
  | _ => none }
def StoreLastsWrongFalsely : Prop := storeLastsRow.holds Try.pinned (OpenSpec.ofChange storeLastsWrong)

/-- 'cellarerlaw10.StoreEach': WHATEVER THE INPUT: true; the input reads as it did. -/
def storeEachSpec : ChangeSpec := { name := "storeEach", fn := fun _ => fun
  | [d1, d2, d3] => { results := [.lit (.bool true)], args := [d1, d2, d3] }
  | _ => none }
def storeEachRow : OpenClaim := { program := "ytogcejmnhiphgaa", sum := "6f534237804d2c484fac7522825e3eec37f0b3070c7c633d4f38b401637efad3", func := "cellarer/cellarerlaw10.StoreEach", spec := "storeEach", unfollowed := true, recurses := true, apart := false }
def StoreEachSaid : Prop := storeEachRow.holds Try.pinned (OpenSpec.ofChange storeEachSpec)

/-- ITS FALSE NEIGHBOUR: 'it returns false'. Refute it at one input. -/
def storeEachWrong : ChangeSpec := { name := "storeEach", fn := fun _ => fun
  | [d1, d2, d3] => { results := [.lit (.bool false)], args := [d1, d2, d3] }
  | _ => none }
def StoreEachWrongFalsely : Prop := storeEachRow.holds Try.pinned (OpenSpec.ofChange storeEachWrong)

/- THE SECOND FORM. 'bulk': how many values and letters a reading holds, each counted each time it is reached (what is shared counts as often as it is met; a slice's spare places count too). A statement '..UptoSaid' is the law's where the arguments, and the package variables that the reading takes, are together of bulk at most 1048576: NARROWER than '..Said'. Prove '..Said' where nothing that the law and all that it calls make is longer than what came in: it says more and counts as full. Else prove '..UptoSaid'. A law counts once. -/
mutual
def uptoBulk {H : Type} : DataW H → Nat
  | .lit (.string bytes) => bytes.length + 1
  | .lit _ => 1
  | .nil => 1
  | .ptr d => uptoBulk d + 1
  | .slice elems spare => uptoBulkAll elems + uptoBulkAll spare + 1
  | .agg parts => uptoBulkAll parts + 1
  | .iface _ d => uptoBulk d + 1
  | .map entries => uptoBulkEntries entries + 1
  | .held _ => 1
def uptoBulkAll {H : Type} : List (DataW H) → Nat
  | [] => 0
  | d :: r => uptoBulk d + uptoBulkAll r
def uptoBulkEntries {H : Type} : List (Lit × DataW H) → Nat
  | [] => 0
  | x :: r => uptoBulkEntry x + uptoBulkEntries r
def uptoBulkEntry {H : Type} : Lit × DataW H → Nat
  | (.string bytes, d) => bytes.length + uptoBulk d + 1
  | (_, d) => uptoBulk d + 1
 end
def uptoSmall : (H : Type) → List (DataW H) → Bool := fun _ ds => decide (uptoBulkAll ds ≤ 1048576)
def OpenSpec.upto (s : _root_.Go.ChangeSpec) : _root_.Go.OpenSpec := { _root_.Go.OpenSpec.ofChange s with cond := some uptoSmall }

/-- 'cellarerlaw15.AggrSizes', WHERE WHAT IT READS IS OF BULK AT MOST 1048576: true; the input reads as it did. -/
def aggrSizesUptoRow : OpenClaim := { program := "ytogcejmnhiphgaa", sum := "6f534237804d2c484fac7522825e3eec37f0b3070c7c633d4f38b401637efad3", func := "cellarer/cellarerlaw15.AggrSizes", spec := "aggrSizes", unfollowed := true, recurses := true, apart := false, narrowed := true }
def AggrSizesUptoSaid : Prop := aggrSizesUptoRow.holds Try.pinned (OpenSpec.upto aggrSizesSpec)

/-- 'cellarerlaw15.AggrBounds', WHERE WHAT IT READS IS OF BULK AT MOST 1048576: true; the input reads as it did. -/
def aggrBoundsUptoRow : OpenClaim := { program := "ytogcejmnhiphgaa", sum := "6f534237804d2c484fac7522825e3eec37f0b3070c7c633d4f38b401637efad3", func := "cellarer/cellarerlaw15.AggrBounds", spec := "aggrBounds", unfollowed := true, recurses := true, apart := false, narrowed := true }
def AggrBoundsUptoSaid : Prop := aggrBoundsUptoRow.holds Try.pinned (OpenSpec.upto aggrBoundsSpec)

/-- 'cellarerlaw15.AggrExact', WHERE WHAT IT READS IS OF BULK AT MOST 1048576: true; the input reads as it did. -/
def aggrExactUptoRow : OpenClaim := { program := "ytogcejmnhiphgaa", sum := "6f534237804d2c484fac7522825e3eec37f0b3070c7c633d4f38b401637efad3", func := "cellarer/cellarerlaw15.AggrExact", spec := "aggrExact", unfollowed := true, recurses := true, apart := false, narrowed := true }
def AggrExactUptoSaid : Prop := aggrExactUptoRow.holds Try.pinned (OpenSpec.upto aggrExactSpec)

/-- 'cellarerlaw15.AggrCut', WHERE WHAT IT READS IS OF BULK AT MOST 1048576: true; the input reads as it did. -/
def aggrCutUptoRow : OpenClaim := { program := "ytogcejmnhiphgaa", sum := "6f534237804d2c484fac7522825e3eec37f0b3070c7c633d4f38b401637efad3", func := "cellarer/cellarerlaw15.AggrCut", spec := "aggrCut", unfollowed := true, recurses := true, apart := false, narrowed := true }
def AggrCutUptoSaid : Prop := aggrCutUptoRow.holds Try.pinned (OpenSpec.upto aggrCutSpec)

/-- 'cellarerlaw15.AggrMore', WHERE WHAT IT READS IS OF BULK AT MOST 1048576: true; the input reads as it did. -/
def aggrMoreUptoRow : OpenClaim := { program := "ytogcejmnhiphgaa", sum := "6f534237804d2c484fac7522825e3eec37f0b3070c7c633d4f38b401637efad3", func := "cellarer/cellarerlaw15.AggrMore", spec := "aggrMore", unfollowed := true, recurses := true, apart := false, narrowed := true }
def AggrMoreUptoSaid : Prop := aggrMoreUptoRow.holds Try.pinned (OpenSpec.upto aggrMoreSpec)

/-- 'cellarerlaw10.StoreBounds', WHERE WHAT IT READS IS OF BULK AT MOST 1048576: true; the input reads as it did. -/
def storeBoundsUptoRow : OpenClaim := { program := "ytogcejmnhiphgaa", sum := "6f534237804d2c484fac7522825e3eec37f0b3070c7c633d4f38b401637efad3", func := "cellarer/cellarerlaw10.StoreBounds", spec := "storeBounds", unfollowed := true, recurses := true, apart := false, narrowed := true }
def StoreBoundsUptoSaid : Prop := storeBoundsUptoRow.holds Try.pinned (OpenSpec.upto storeBoundsSpec)

/-- 'cellarerlaw10.StoreRow', WHERE WHAT IT READS IS OF BULK AT MOST 1048576: true; the input reads as it did. -/
def storeRowUptoRow : OpenClaim := { program := "ytogcejmnhiphgaa", sum := "6f534237804d2c484fac7522825e3eec37f0b3070c7c633d4f38b401637efad3", func := "cellarer/cellarerlaw10.StoreRow", spec := "storeRow", unfollowed := true, recurses := true, apart := false, narrowed := true }
def StoreRowUptoSaid : Prop := storeRowUptoRow.holds Try.pinned (OpenSpec.upto storeRowSpec)

/-- 'cellarerlaw10.StoreErased', WHERE WHAT IT READS IS OF BULK AT MOST 1048576: true; the input reads as it did. -/
def storeErasedUptoRow : OpenClaim := { program := "ytogcejmnhiphgaa", sum := "6f534237804d2c484fac7522825e3eec37f0b3070c7c633d4f38b401637efad3", func := "cellarer/cellarerlaw10.StoreErased", spec := "storeErased", unfollowed := true, recurses := true, apart := false, narrowed := true }
def StoreErasedUptoSaid : Prop := storeErasedUptoRow.holds Try.pinned (OpenSpec.upto storeErasedSpec)

/-- 'cellarerlaw10.StoreLasts', WHERE WHAT IT READS IS OF BULK AT MOST 1048576: true; the input reads as it did. -/
def storeLastsUptoRow : OpenClaim := { program := "ytogcejmnhiphgaa", sum := "6f534237804d2c484fac7522825e3eec37f0b3070c7c633d4f38b401637efad3", func := "cellarer/cellarerlaw10.StoreLasts", spec := "storeLasts", unfollowed := true, recurses := true, apart := false, narrowed := true }
def StoreLastsUptoSaid : Prop := storeLastsUptoRow.holds Try.pinned (OpenSpec.upto storeLastsSpec)

/-- 'cellarerlaw10.StoreEach', WHERE WHAT IT READS IS OF BULK AT MOST 1048576: true; the input reads as it did. -/
def storeEachUptoRow : OpenClaim := { program := "ytogcejmnhiphgaa", sum := "6f534237804d2c484fac7522825e3eec37f0b3070c7c633d4f38b401637efad3", func := "cellarer/cellarerlaw10.StoreEach", spec := "storeEach", unfollowed := true, recurses := true, apart := false, narrowed := true }
def StoreEachUptoSaid : Prop := storeEachUptoRow.holds Try.pinned (OpenSpec.upto storeEachSpec)

end Rows
end Go.Proofs.Ytogcejmnhiphgaa
