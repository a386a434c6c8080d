/-
  No cell of these rows narrows 'for every input' (looked for: loops, veiled, ifaces, maps, wideKeys, modest, calm, conditions, laid).
  DERIVED. THE GIVEN ROWS OF THIS SEAT. 10 by the template 'for every input the law returns true; each argument reads behind the call as it read before'; 0 by the template 'total and deterministic' (their statements: YtfbbejdbofkpaaaTotals.lean).
  GIVEN WITH THE SEED: the statements are not yours to turn. If you find one false, say at which input.
  Laid BY PROGRAM, IN A SANDBOX (cutbox-rows.mjs): the forced cells as the released guide's own fill.sh prints them over the translation f9c32d360e83e0be… (all of the seat's roots in one cut). By AI agents, Wed Nov 11 2026. No macro, syntax, notation, axiom, sorry.
-/
import Derived.Test.YtfbbejdbofkpaaaChecked
import GoSem.Claim
import GoSem.ClaimJoined
import GoSem.ClaimMapViews
import Derived.JoinedTies
import Derived.KernelRfl
namespace Go.Proofs.Ytfbbejdbofkpaaa
/- THE CELL 'sum', in the pinned program and in every row, IS THE sha256 OF THE DUMP (.gsa) THAT YtfbbejdbofkpaaaProg.lean LOADS. Nothing in Lean hashes anything: it is a label: what it is worth is what the hold of that sum in a sandbox is worth. -/
noncomputable def Try.pinned : Pinned := { name := "ytfbbejdbofkpaaa", sum := "f9c32d360e83e0be3d96ce4b45594ffe6392cb546b189ce54ed831eb8fc3367c", checked := Try.checked }
namespace Rows
def none {H : Type} : Left H := { results := [], args := [] }

/-- 'cellarerlaw09.DiskReads': WHATEVER THE INPUT: true; the input reads as it did. -/
def diskReadsSpec : ChangeSpec := { name := "diskReads", fn := fun _ => fun
  | [d1, d2, d3] => { results := [.lit (.bool true)], args := [d1, d2, d3] }
  | _ => none }
def diskReadsRow : OpenClaim := { program := "ytfbbejdbofkpaaa", sum := "f9c32d360e83e0be3d96ce4b45594ffe6392cb546b189ce54ed831eb8fc3367c", func := "cellarer/cellarerlaw09.DiskReads", spec := "diskReads", apart := false }
def DiskReadsSaid : Prop := diskReadsRow.holds Try.pinned (OpenSpec.ofChange diskReadsSpec)

/-- ITS FALSE NEIGHBOUR: 'it returns false'. Refute it at one input. -/
def diskReadsWrong : ChangeSpec := { name := "diskReads", fn := fun _ => fun
  | [d1, d2, d3] => { results := [.lit (.bool false)], args := [d1, d2, d3] }
  | _ => none }
def DiskReadsWrongFalsely : Prop := diskReadsRow.holds Try.pinned (OpenSpec.ofChange diskReadsWrong)

/-- 'cellarerlaw09.DiskSafe': WHATEVER THE INPUT: true; the input reads as it did. -/
def diskSafeSpec : ChangeSpec := { name := "diskSafe", fn := fun _ => fun
  | [d1, d2] => { results := [.lit (.bool true)], args := [d1, d2] }
  | _ => none }
def diskSafeRow : OpenClaim := { program := "ytfbbejdbofkpaaa", sum := "f9c32d360e83e0be3d96ce4b45594ffe6392cb546b189ce54ed831eb8fc3367c", func := "cellarer/cellarerlaw09.DiskSafe", spec := "diskSafe", apart := false }
def DiskSafeSaid : Prop := diskSafeRow.holds Try.pinned (OpenSpec.ofChange diskSafeSpec)

/-- ITS FALSE NEIGHBOUR: 'it returns false'. Refute it at one input. -/
def diskSafeWrong : ChangeSpec := { name := "diskSafe", fn := fun _ => fun
  | [d1, d2] => { results := [.lit (.bool false)], args := [d1, d2] }
  | _ => none }
def DiskSafeWrongFalsely : Prop := diskSafeRow.holds Try.pinned (OpenSpec.ofChange diskSafeWrong)

/-- 'cellarerlaw09.DiskErases': WHATEVER THE INPUT: true; the input reads as it did. -/
def diskErasesSpec : ChangeSpec := { name := "diskErases", fn := fun _ => fun
  | [d1, d2, d3, d4] => { results := [.lit (.bool true)], args := [d1, d2, d3, d4] }
  | _ => none }
def diskErasesRow : OpenClaim := { program := "ytfbbejdbofkpaaa", sum := "f9c32d360e83e0be3d96ce4b45594ffe6392cb546b189ce54ed831eb8fc3367c", func := "cellarer/cellarerlaw09.DiskErases", spec := "diskErases", apart := false }
def DiskErasesSaid : Prop := diskErasesRow.holds Try.pinned (OpenSpec.ofChange diskErasesSpec)

/-- ITS FALSE NEIGHBOUR: 'it returns false'. Refute it at one input. -/
def diskErasesWrong : ChangeSpec := { name := "diskErases", fn := fun _ => fun
  | [d1, d2, d3, d4] => { results := [.lit (.bool false)], args := [d1, d2, d3, d4] }
  | _ => none }
def DiskErasesWrongFalsely : Prop := diskErasesRow.holds Try.pinned (OpenSpec.ofChange diskErasesWrong)

/-- 'cellarerlaw09.DiskExact': WHATEVER THE INPUT: true; the input reads as it did. -/
def diskExactSpec : ChangeSpec := { name := "diskExact", fn := fun _ => fun
  | [d1, d2] => { results := [.lit (.bool true)], args := [d1, d2] }
  | _ => none }
def diskExactRow : OpenClaim := { program := "ytfbbejdbofkpaaa", sum := "f9c32d360e83e0be3d96ce4b45594ffe6392cb546b189ce54ed831eb8fc3367c", func := "cellarer/cellarerlaw09.DiskExact", spec := "diskExact", apart := false }
def DiskExactSaid : Prop := diskExactRow.holds Try.pinned (OpenSpec.ofChange diskExactSpec)

/-- ITS FALSE NEIGHBOUR: 'it returns false'. Refute it at one input. -/
def diskExactWrong : ChangeSpec := { name := "diskExact", fn := fun _ => fun
  | [d1, d2] => { results := [.lit (.bool false)], args := [d1, d2] }
  | _ => none }
def DiskExactWrongFalsely : Prop := diskExactRow.holds Try.pinned (OpenSpec.ofChange diskExactWrong)

/-- 'cellarerlaw07.MediumFiles': WHATEVER THE INPUT: true; the input reads as it did. -/
def mediumFilesSpec : ChangeSpec := { name := "mediumFiles", fn := fun _ => fun
  | [d] => { results := [.lit (.bool true)], args := [d] }
  | _ => none }
def mediumFilesRow : OpenClaim := { program := "ytfbbejdbofkpaaa", sum := "f9c32d360e83e0be3d96ce4b45594ffe6392cb546b189ce54ed831eb8fc3367c", func := "cellarer/cellarerlaw07.MediumFiles", spec := "mediumFiles", unfollowed := true, recurses := true, apart := false }
def MediumFilesSaid : Prop := mediumFilesRow.holds Try.pinned (OpenSpec.ofChange mediumFilesSpec)

/-- ITS FALSE NEIGHBOUR: 'it returns false'. Refute it at one input. -/
def mediumFilesWrong : ChangeSpec := { name := "mediumFiles", fn := fun _ => fun
  | [d] => { results := [.lit (.bool false)], args := [d] }
  | _ => none }
def MediumFilesWrongFalsely : Prop := mediumFilesRow.holds Try.pinned (OpenSpec.ofChange mediumFilesWrong)

/-- 'cellarerlaw07.MediumEnds': WHATEVER THE INPUT: true; the input reads as it did. -/
def mediumEndsSpec : ChangeSpec := { name := "mediumEnds", fn := fun _ => fun
  | [d1, d2, d3] => { results := [.lit (.bool true)], args := [d1, d2, d3] }
  | _ => none }
def mediumEndsRow : OpenClaim := { program := "ytfbbejdbofkpaaa", sum := "f9c32d360e83e0be3d96ce4b45594ffe6392cb546b189ce54ed831eb8fc3367c", func := "cellarer/cellarerlaw07.MediumEnds", spec := "mediumEnds", unfollowed := true, recurses := true, apart := false }
def MediumEndsSaid : Prop := mediumEndsRow.holds Try.pinned (OpenSpec.ofChange mediumEndsSpec)

/-- ITS FALSE NEIGHBOUR: 'it returns false'. Refute it at one input. -/
def mediumEndsWrong : ChangeSpec := { name := "mediumEnds", fn := fun _ => fun
  | [d1, d2, d3] => { results := [.lit (.bool false)], args := [d1, d2, d3] }
  | _ => none }
def MediumEndsWrongFalsely : Prop := mediumEndsRow.holds Try.pinned (OpenSpec.ofChange mediumEndsWrong)

/-- 'cellarerlaw07.MediumStays': WHATEVER THE INPUT: true; the input reads as it did. -/
def mediumStaysSpec : ChangeSpec := { name := "mediumStays", fn := fun _ => fun
  | [d1, d2, d3] => { results := [.lit (.bool true)], args := [d1, d2, d3] }
  | _ => none }
def mediumStaysRow : OpenClaim := { program := "ytfbbejdbofkpaaa", sum := "f9c32d360e83e0be3d96ce4b45594ffe6392cb546b189ce54ed831eb8fc3367c", func := "cellarer/cellarerlaw07.MediumStays", spec := "mediumStays", unfollowed := true, recurses := true, apart := false }
def MediumStaysSaid : Prop := mediumStaysRow.holds Try.pinned (OpenSpec.ofChange mediumStaysSpec)

/-- ITS FALSE NEIGHBOUR: 'it returns false'. Refute it at one input. -/
def mediumStaysWrong : ChangeSpec := { name := "mediumStays", fn := fun _ => fun
  | [d1, d2, d3] => { results := [.lit (.bool false)], args := [d1, d2, d3] }
  | _ => none }
def MediumStaysWrongFalsely : Prop := mediumStaysRow.holds Try.pinned (OpenSpec.ofChange mediumStaysWrong)

/-- 'cellarerlaw07.MediumGrows': WHATEVER THE INPUT: true; the input reads as it did. -/
def mediumGrowsSpec : ChangeSpec := { name := "mediumGrows", fn := fun _ => fun
  | [d1, d2, d3] => { results := [.lit (.bool true)], args := [d1, d2, d3] }
  | _ => none }
def mediumGrowsRow : OpenClaim := { program := "ytfbbejdbofkpaaa", sum := "f9c32d360e83e0be3d96ce4b45594ffe6392cb546b189ce54ed831eb8fc3367c", func := "cellarer/cellarerlaw07.MediumGrows", spec := "mediumGrows", unfollowed := true, recurses := true, apart := false }
def MediumGrowsSaid : Prop := mediumGrowsRow.holds Try.pinned (OpenSpec.ofChange mediumGrowsSpec)

/-- ITS FALSE NEIGHBOUR: 'it returns false'. Refute it at one input. -/
def mediumGrowsWrong : ChangeSpec := { name := "mediumGrows", fn := fun _ => fun
  | [d1, d2, d3] => { results := [.lit (.bool false)], args := [d1, d2, d3] }
  | _ => none }
def MediumGrowsWrongFalsely : Prop := mediumGrowsRow.holds Try.pinned (OpenSpec.ofChange mediumGrowsWrong)

/-- 'cellarerlaw07.MediumSpoils': WHATEVER THE INPUT: true; the input reads as it did. -/
def mediumSpoilsSpec : ChangeSpec := { name := "mediumSpoils", fn := fun _ => fun
  | [d1, d2, d3] => { results := [.lit (.bool true)], args := [d1, d2, d3] }
  | _ => none }
def mediumSpoilsRow : OpenClaim := { program := "ytfbbejdbofkpaaa", sum := "f9c32d360e83e0be3d96ce4b45594ffe6392cb546b189ce54ed831eb8fc3367c", func := "cellarer/cellarerlaw07.MediumSpoils", spec := "mediumSpoils", unfollowed := true, recurses := true, apart := false }
def MediumSpoilsSaid : Prop := mediumSpoilsRow.holds Try.pinned (OpenSpec.ofChange mediumSpoilsSpec)

/-- ITS FALSE NEIGHBOUR: 'it returns false'. Refute it at one input. -/
def mediumSpoilsWrong : ChangeSpec := { name := "mediumSpoils", fn := fun _ => fun
  | [d1, d2, d3] => { results := [.lit (.bool false)], args := [d1, d2, d3] }
  | _ => none }
def MediumSpoilsWrongFalsely : Prop := mediumSpoilsRow.holds Try.pinned (OpenSpec.ofChange mediumSpoilsWrong)

/-- 'cellarerlaw07.MediumExact': WHATEVER THE INPUT: true; the input reads as it did. -/
def mediumExactSpec : ChangeSpec := { name := "mediumExact", fn := fun _ => fun
  | [d1, d2, d3, d4, d5, d6] => { results := [.lit (.bool true)], args := [d1, d2, d3, d4, d5, d6] }
  | _ => none }
def mediumExactRow : OpenClaim := { program := "ytfbbejdbofkpaaa", sum := "f9c32d360e83e0be3d96ce4b45594ffe6392cb546b189ce54ed831eb8fc3367c", func := "cellarer/cellarerlaw07.MediumExact", spec := "mediumExact", unfollowed := true, recurses := true, apart := false }
def MediumExactSaid : Prop := mediumExactRow.holds Try.pinned (OpenSpec.ofChange mediumExactSpec)

/-- ITS FALSE NEIGHBOUR: 'it returns false'. Refute it at one input. -/
def mediumExactWrong : ChangeSpec := { name := "mediumExact", fn := fun _ => fun
  | [d1, d2, d3, d4, d5, d6] => { results := [.lit (.bool false)], args := [d1, d2, d3, d4, d5, d6] }
  | _ => none }
def MediumExactWrongFalsely : Prop := mediumExactRow.holds Try.pinned (OpenSpec.ofChange mediumExactWrong)

/- THE SECOND FORM. 'bulk': how many values and letters a reading holds, each counted each time it is reached (what is shared counts as often as it is met; a slice's spare places count too). A statement '..UptoSaid' is the law's where the arguments, and the package variables that the reading takes, are together of bulk at most 1048576: NARROWER than '..Said'. Prove '..Said' where nothing that the law and all that it calls make is longer than what came in: it says more and counts as full. Else prove '..UptoSaid'. A law counts once. -/
mutual
def uptoBulk {H : Type} : DataW H → Nat
  | .lit (.string bytes) => bytes.length + 1
  | .lit _ => 1
  | .nil => 1
  | .ptr d => uptoBulk d + 1
  | .slice elems spare => uptoBulkAll elems + uptoBulkAll spare + 1
  | .agg parts => uptoBulkAll parts + 1
  | .iface _ d => uptoBulk d + 1
  | .map entries => uptoBulkEntries entries + 1
  | .held _ => 1
def uptoBulkAll {H : Type} : List (DataW H) → Nat
  | [] => 0
  | d :: r => uptoBulk d + uptoBulkAll r
def uptoBulkEntries {H : Type} : List (Lit × DataW H) → Nat
  | [] => 0
  | x :: r => uptoBulkEntry x + uptoBulkEntries r
def uptoBulkEntry {H : Type} : Lit × DataW H → Nat
  | (.string bytes, d) => bytes.length + uptoBulk d + 1
  | (_, d) => uptoBulk d + 1
 end
def uptoSmall : (H : Type) → List (DataW H) → Bool := fun _ ds => decide (uptoBulkAll ds ≤ 1048576)
def OpenSpec.upto (s : _root_.Go.ChangeSpec) : _root_.Go.OpenSpec := { _root_.Go.OpenSpec.ofChange s with cond := some uptoSmall }

/-- 'cellarerlaw09.DiskReads', WHERE WHAT IT READS IS OF BULK AT MOST 1048576: true; the input reads as it did. -/
def diskReadsUptoRow : OpenClaim := { program := "ytfbbejdbofkpaaa", sum := "f9c32d360e83e0be3d96ce4b45594ffe6392cb546b189ce54ed831eb8fc3367c", func := "cellarer/cellarerlaw09.DiskReads", spec := "diskReads", apart := false, narrowed := true }
def DiskReadsUptoSaid : Prop := diskReadsUptoRow.holds Try.pinned (OpenSpec.upto diskReadsSpec)

/-- 'cellarerlaw09.DiskSafe', WHERE WHAT IT READS IS OF BULK AT MOST 1048576: true; the input reads as it did. -/
def diskSafeUptoRow : OpenClaim := { program := "ytfbbejdbofkpaaa", sum := "f9c32d360e83e0be3d96ce4b45594ffe6392cb546b189ce54ed831eb8fc3367c", func := "cellarer/cellarerlaw09.DiskSafe", spec := "diskSafe", apart := false, narrowed := true }
def DiskSafeUptoSaid : Prop := diskSafeUptoRow.holds Try.pinned (OpenSpec.upto diskSafeSpec)

/-- 'cellarerlaw09.DiskErases', WHERE WHAT IT READS IS OF BULK AT MOST 1048576: true; the input reads as it did. -/
def diskErasesUptoRow : OpenClaim := { program := "ytfbbejdbofkpaaa", sum := "f9c32d360e83e0be3d96ce4b45594ffe6392cb546b189ce54ed831eb8fc3367c", func := "cellarer/cellarerlaw09.DiskErases", spec := "diskErases", apart := false, narrowed := true }
def DiskErasesUptoSaid : Prop := diskErasesUptoRow.holds Try.pinned (OpenSpec.upto diskErasesSpec)

/-- 'cellarerlaw09.DiskExact', WHERE WHAT IT READS IS OF BULK AT MOST 1048576: true; the input reads as it did. -/
def diskExactUptoRow : OpenClaim := { program := "ytfbbejdbofkpaaa", sum := "f9c32d360e83e0be3d96ce4b45594ffe6392cb546b189ce54ed831eb8fc3367c", func := "cellarer/cellarerlaw09.DiskExact", spec := "diskExact", apart := false, narrowed := true }
def DiskExactUptoSaid : Prop := diskExactUptoRow.holds Try.pinned (OpenSpec.upto diskExactSpec)

/-- 'cellarerlaw07.MediumFiles', WHERE WHAT IT READS IS OF BULK AT MOST 1048576: true; the input reads as it did. -/
def mediumFilesUptoRow : OpenClaim := { program := "ytfbbejdbofkpaaa", sum := "f9c32d360e83e0be3d96ce4b45594ffe6392cb546b189ce54ed831eb8fc3367c", func := "cellarer/cellarerlaw07.MediumFiles", spec := "mediumFiles", unfollowed := true, recurses := true, apart := false, narrowed := true }
def MediumFilesUptoSaid : Prop := mediumFilesUptoRow.holds Try.pinned (OpenSpec.upto mediumFilesSpec)

/-- 'cellarerlaw07.MediumEnds', WHERE WHAT IT READS IS OF BULK AT MOST 1048576: true; the input reads as it did. -/
def mediumEndsUptoRow : OpenClaim := { program := "ytfbbejdbofkpaaa", sum := "f9c32d360e83e0be3d96ce4b45594ffe6392cb546b189ce54ed831eb8fc3367c", func := "cellarer/cellarerlaw07.MediumEnds", spec := "mediumEnds", unfollowed := true, recurses := true, apart := false, narrowed := true }
def MediumEndsUptoSaid : Prop := mediumEndsUptoRow.holds Try.pinned (OpenSpec.upto mediumEndsSpec)

/-- 'cellarerlaw07.MediumStays', WHERE WHAT IT READS IS OF BULK AT MOST 1048576: true; the input reads as it did. -/
def mediumStaysUptoRow : OpenClaim := { program := "ytfbbejdbofkpaaa", sum := "f9c32d360e83e0be3d96ce4b45594ffe6392cb546b189ce54ed831eb8fc3367c", func := "cellarer/cellarerlaw07.MediumStays", spec := "mediumStays", unfollowed := true, recurses := true, apart := false, narrowed := true }
def MediumStaysUptoSaid : Prop := mediumStaysUptoRow.holds Try.pinned (OpenSpec.upto mediumStaysSpec)

/-- 'cellarerlaw07.MediumGrows', WHERE WHAT IT READS IS OF BULK AT MOST 1048576: true; the input reads as it did. -/
def mediumGrowsUptoRow : OpenClaim := { program := "ytfbbejdbofkpaaa", sum := "f9c32d360e83e0be3d96ce4b45594ffe6392cb546b189ce54ed831eb8fc3367c", func := "cellarer/cellarerlaw07.MediumGrows", spec := "mediumGrows", unfollowed := true, recurses := true, apart := false, narrowed := true }
def MediumGrowsUptoSaid : Prop := mediumGrowsUptoRow.holds Try.pinned (OpenSpec.upto mediumGrowsSpec)

/-- 'cellarerlaw07.MediumSpoils', WHERE WHAT IT READS IS OF BULK AT MOST 1048576: true; the input reads as it did. -/
def mediumSpoilsUptoRow : OpenClaim := { program := "ytfbbejdbofkpaaa", sum := "f9c32d360e83e0be3d96ce4b45594ffe6392cb546b189ce54ed831eb8fc3367c", func := "cellarer/cellarerlaw07.MediumSpoils", spec := "mediumSpoils", unfollowed := true, recurses := true, apart := false, narrowed := true }
def MediumSpoilsUptoSaid : Prop := mediumSpoilsUptoRow.holds Try.pinned (OpenSpec.upto mediumSpoilsSpec)

/-- 'cellarerlaw07.MediumExact', WHERE WHAT IT READS IS OF BULK AT MOST 1048576: true; the input reads as it did. -/
def mediumExactUptoRow : OpenClaim := { program := "ytfbbejdbofkpaaa", sum := "f9c32d360e83e0be3d96ce4b45594ffe6392cb546b189ce54ed831eb8fc3367c", func := "cellarer/cellarerlaw07.MediumExact", spec := "mediumExact", unfollowed := true, recurses := true, apart := false, narrowed := true }
def MediumExactUptoSaid : Prop := mediumExactUptoRow.holds Try.pinned (OpenSpec.upto mediumExactSpec)

end Rows
end Go.Proofs.Ytfbbejdbofkpaaa
