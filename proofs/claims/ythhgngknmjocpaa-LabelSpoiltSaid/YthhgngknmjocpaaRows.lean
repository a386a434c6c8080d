/-
  No cell of these rows narrows 'for every input' (looked for: loops, veiled, ifaces, maps, wideKeys, modest, calm, conditions, laid).
  DERIVED. THE GIVEN ROWS OF THIS SEAT. 11 by the template 'for every input the law returns true; each argument reads behind the call as it read before'; 0 by the template 'total and deterministic' (their statements: YthhgngknmjocpaaTotals.lean).
  GIVEN WITH THE SEED: the statements are not yours to turn. If you find one false, say at which input.
  Laid BY PROGRAM, IN A SANDBOX (cutbox-rows.mjs): the forced cells as the released guide's own fill.sh prints them over the translation 2e0ccf257fb7cb29… (all of the seat's roots in one cut). By AI agents, Wed Nov 11 2026. No macro, syntax, notation, axiom, sorry.
-/
import Derived.Test.YthhgngknmjocpaaChecked
import GoSem.Claim
import GoSem.ClaimJoined
import GoSem.ClaimMapViews
import Derived.JoinedTies
import Derived.KernelRfl
namespace Go.Proofs.Ythhgngknmjocpaa
/- THE CELL 'sum', in the pinned program and in every row, IS THE sha256 OF THE DUMP (.gsa) THAT YthhgngknmjocpaaProg.lean LOADS. Nothing in Lean hashes anything: it is a label: what it is worth is what the hold of that sum in a sandbox is worth. -/
noncomputable def Try.pinned : Pinned := { name := "ythhgngknmjocpaa", sum := "2e0ccf257fb7cb2985f1387dc1324a37a2c8a17a183d61c314fd0618cb5b2d7d", checked := Try.checked }
namespace Rows
def none {H : Type} : Left H := { results := [], args := [] }

/-- 'cellarerlaw08.PowerTrips': WHATEVER THE INPUT: true; the input reads as it did. -/
def powerTripsSpec : ChangeSpec := { name := "powerTrips", fn := fun _ => fun
  | [d1, d2] => { results := [.lit (.bool true)], args := [d1, d2] }
  | _ => none }
def powerTripsRow : OpenClaim := { program := "ythhgngknmjocpaa", sum := "2e0ccf257fb7cb2985f1387dc1324a37a2c8a17a183d61c314fd0618cb5b2d7d", func := "cellarer/cellarerlaw08.PowerTrips", spec := "powerTrips", apart := false }
def PowerTripsSaid : Prop := powerTripsRow.holds Try.pinned (OpenSpec.ofChange powerTripsSpec)

/-- ITS FALSE NEIGHBOUR: 'it returns false'. Refute it at one input. -/
def powerTripsWrong : ChangeSpec := { name := "powerTrips", fn := fun _ => fun
  | [d1, d2] => { results := [.lit (.bool false)], args := [d1, d2] }
  | _ => none }
def PowerTripsWrongFalsely : Prop := powerTripsRow.holds Try.pinned (OpenSpec.ofChange powerTripsWrong)

/-- 'cellarerlaw08.PowerLives': WHATEVER THE INPUT: true; the input reads as it did. -/
def powerLivesSpec : ChangeSpec := { name := "powerLives", fn := fun _ => fun
  | [d1, d2, d3] => { results := [.lit (.bool true)], args := [d1, d2, d3] }
  | _ => none }
def powerLivesRow : OpenClaim := { program := "ythhgngknmjocpaa", sum := "2e0ccf257fb7cb2985f1387dc1324a37a2c8a17a183d61c314fd0618cb5b2d7d", func := "cellarer/cellarerlaw08.PowerLives", spec := "powerLives", apart := false }
def PowerLivesSaid : Prop := powerLivesRow.holds Try.pinned (OpenSpec.ofChange powerLivesSpec)

/-- ITS FALSE NEIGHBOUR: 'it returns false'. Refute it at one input. -/
def powerLivesWrong : ChangeSpec := { name := "powerLives", fn := fun _ => fun
  | [d1, d2, d3] => { results := [.lit (.bool false)], args := [d1, d2, d3] }
  | _ => none }
def PowerLivesWrongFalsely : Prop := powerLivesRow.holds Try.pinned (OpenSpec.ofChange powerLivesWrong)

/-- 'cellarerlaw08.PowerArms': WHATEVER THE INPUT: true; the input reads as it did. -/
def powerArmsSpec : ChangeSpec := { name := "powerArms", fn := fun _ => fun
  | [d1, d2, d3] => { results := [.lit (.bool true)], args := [d1, d2, d3] }
  | _ => none }
def powerArmsRow : OpenClaim := { program := "ythhgngknmjocpaa", sum := "2e0ccf257fb7cb2985f1387dc1324a37a2c8a17a183d61c314fd0618cb5b2d7d", func := "cellarer/cellarerlaw08.PowerArms", spec := "powerArms", apart := false }
def PowerArmsSaid : Prop := powerArmsRow.holds Try.pinned (OpenSpec.ofChange powerArmsSpec)

/-- ITS FALSE NEIGHBOUR: 'it returns false'. Refute it at one input. -/
def powerArmsWrong : ChangeSpec := { name := "powerArms", fn := fun _ => fun
  | [d1, d2, d3] => { results := [.lit (.bool false)], args := [d1, d2, d3] }
  | _ => none }
def PowerArmsWrongFalsely : Prop := powerArmsRow.holds Try.pinned (OpenSpec.ofChange powerArmsWrong)

/-- 'cellarerlaw14.LabelExact': WHATEVER THE INPUT: true; the input reads as it did. -/
def labelExactSpec : ChangeSpec := { name := "labelExact", fn := fun _ => fun
  | [d] => { results := [.lit (.bool true)], args := [d] }
  | _ => none }
def labelExactRow : OpenClaim := { program := "ythhgngknmjocpaa", sum := "2e0ccf257fb7cb2985f1387dc1324a37a2c8a17a183d61c314fd0618cb5b2d7d", func := "cellarer/cellarerlaw14.LabelExact", spec := "labelExact", apart := false }
def LabelExactSaid : Prop := labelExactRow.holds Try.pinned (OpenSpec.ofChange labelExactSpec)

/-- ITS FALSE NEIGHBOUR: 'it returns false'. Refute it at one input. -/
def labelExactWrong : ChangeSpec := { name := "labelExact", fn := fun _ => fun
  | [d] => { results := [.lit (.bool false)], args := [d] }
  | _ => none }
def LabelExactWrongFalsely : Prop := labelExactRow.holds Try.pinned (OpenSpec.ofChange labelExactWrong)

/-- 'cellarerlaw14.LabelReads': WHATEVER THE INPUT: true; the input reads as it did. -/
def labelReadsSpec : ChangeSpec := { name := "labelReads", fn := fun _ => fun
  | [d] => { results := [.lit (.bool true)], args := [d] }
  | _ => none }
def labelReadsRow : OpenClaim := { program := "ythhgngknmjocpaa", sum := "2e0ccf257fb7cb2985f1387dc1324a37a2c8a17a183d61c314fd0618cb5b2d7d", func := "cellarer/cellarerlaw14.LabelReads", spec := "labelReads", apart := false }
def LabelReadsSaid : Prop := labelReadsRow.holds Try.pinned (OpenSpec.ofChange labelReadsSpec)

/-- ITS FALSE NEIGHBOUR: 'it returns false'. Refute it at one input. -/
def labelReadsWrong : ChangeSpec := { name := "labelReads", fn := fun _ => fun
  | [d] => { results := [.lit (.bool false)], args := [d] }
  | _ => none }
def LabelReadsWrongFalsely : Prop := labelReadsRow.holds Try.pinned (OpenSpec.ofChange labelReadsWrong)

/-- 'cellarerlaw14.LabelSpoilt': WHATEVER THE INPUT: true; the input reads as it did. -/
def labelSpoiltSpec : ChangeSpec := { name := "labelSpoilt", fn := fun _ => fun
  | [d1, d2, d3, d4] => { results := [.lit (.bool true)], args := [d1, d2, d3, d4] }
  | _ => none }
def labelSpoiltRow : OpenClaim := { program := "ythhgngknmjocpaa", sum := "2e0ccf257fb7cb2985f1387dc1324a37a2c8a17a183d61c314fd0618cb5b2d7d", func := "cellarer/cellarerlaw14.LabelSpoilt", spec := "labelSpoilt", apart := false }
def LabelSpoiltSaid : Prop := labelSpoiltRow.holds Try.pinned (OpenSpec.ofChange labelSpoiltSpec)

/-- ITS FALSE NEIGHBOUR: 'it returns false'. Refute it at one input. -/
def labelSpoiltWrong : ChangeSpec := { name := "labelSpoilt", fn := fun _ => fun
  | [d1, d2, d3, d4] => { results := [.lit (.bool false)], args := [d1, d2, d3, d4] }
  | _ => none }
def LabelSpoiltWrongFalsely : Prop := labelSpoiltRow.holds Try.pinned (OpenSpec.ofChange labelSpoiltWrong)

/-- 'cellarerlaw14.LabelUnlike': WHATEVER THE INPUT: true; the input reads as it did. -/
def labelUnlikeSpec : ChangeSpec := { name := "labelUnlike", fn := fun _ => fun
  | [d1, d2] => { results := [.lit (.bool true)], args := [d1, d2] }
  | _ => none }
def labelUnlikeRow : OpenClaim := { program := "ythhgngknmjocpaa", sum := "2e0ccf257fb7cb2985f1387dc1324a37a2c8a17a183d61c314fd0618cb5b2d7d", func := "cellarer/cellarerlaw14.LabelUnlike", spec := "labelUnlike", apart := false }
def LabelUnlikeSaid : Prop := labelUnlikeRow.holds Try.pinned (OpenSpec.ofChange labelUnlikeSpec)

/-- ITS FALSE NEIGHBOUR: 'it returns false'. Refute it at one input. -/
def labelUnlikeWrong : ChangeSpec := { name := "labelUnlike", fn := fun _ => fun
  | [d1, d2] => { results := [.lit (.bool false)], args := [d1, d2] }
  | _ => none }
def LabelUnlikeWrongFalsely : Prop := labelUnlikeRow.holds Try.pinned (OpenSpec.ofChange labelUnlikeWrong)

/-- 'cellarerlaw09.DiskReads': WHATEVER THE INPUT: true; the input reads as it did. -/
def diskReadsSpec : ChangeSpec := { name := "diskReads", fn := fun _ => fun
  | [d1, d2, d3] => { results := [.lit (.bool true)], args := [d1, d2, d3] }
  | _ => none }
def diskReadsRow : OpenClaim := { program := "ythhgngknmjocpaa", sum := "2e0ccf257fb7cb2985f1387dc1324a37a2c8a17a183d61c314fd0618cb5b2d7d", func := "cellarer/cellarerlaw09.DiskReads", spec := "diskReads", apart := false }
def DiskReadsSaid : Prop := diskReadsRow.holds Try.pinned (OpenSpec.ofChange diskReadsSpec)

/-- ITS FALSE NEIGHBOUR: 'it returns false'. Refute it at one input. -/
def diskReadsWrong : ChangeSpec := { name := "diskReads", fn := fun _ => fun
  | [d1, d2, d3] => { results := [.lit (.bool false)], args := [d1, d2, d3] }
  | _ => none }
def DiskReadsWrongFalsely : Prop := diskReadsRow.holds Try.pinned (OpenSpec.ofChange diskReadsWrong)

/-- 'cellarerlaw09.DiskSafe': WHATEVER THE INPUT: true; the input reads as it did. -/
def diskSafeSpec : ChangeSpec := { name := "diskSafe", fn := fun _ => fun
  | [d1, d2] => { results := [.lit (.bool true)], args := [d1, d2] }
  | _ => none }
def diskSafeRow : OpenClaim := { program := "ythhgngknmjocpaa", sum := "2e0ccf257fb7cb2985f1387dc1324a37a2c8a17a183d61c314fd0618cb5b2d7d", func := "cellarer/cellarerlaw09.DiskSafe", spec := "diskSafe", apart := false }
def DiskSafeSaid : Prop := diskSafeRow.holds Try.pinned (OpenSpec.ofChange diskSafeSpec)

/-- ITS FALSE NEIGHBOUR: 'it returns false'. Refute it at one input. -/
def diskSafeWrong : ChangeSpec := { name := "diskSafe", fn := fun _ => fun
  | [d1, d2] => { results := [.lit (.bool false)], args := [d1, d2] }
  | _ => none }
def DiskSafeWrongFalsely : Prop := diskSafeRow.holds Try.pinned (OpenSpec.ofChange diskSafeWrong)

/-- 'cellarerlaw09.DiskErases': WHATEVER THE INPUT: true; the input reads as it did. -/
def diskErasesSpec : ChangeSpec := { name := "diskErases", fn := fun _ => fun
  | [d1, d2, d3, d4] => { results := [.lit (.bool true)], args := [d1, d2, d3, d4] }
  | _ => none }
def diskErasesRow : OpenClaim := { program := "ythhgngknmjocpaa", sum := "2e0ccf257fb7cb2985f1387dc1324a37a2c8a17a183d61c314fd0618cb5b2d7d", func := "cellarer/cellarerlaw09.DiskErases", spec := "diskErases", apart := false }
def DiskErasesSaid : Prop := diskErasesRow.holds Try.pinned (OpenSpec.ofChange diskErasesSpec)

/-- ITS FALSE NEIGHBOUR: 'it returns false'. Refute it at one input. -/
def diskErasesWrong : ChangeSpec := { name := "diskErases", fn := fun _ => fun
  | [d1, d2, d3, d4] => { results := [.lit (.bool false)], args := [d1, d2, d3, d4] }
  | _ => none }
def DiskErasesWrongFalsely : Prop := diskErasesRow.holds Try.pinned (OpenSpec.ofChange diskErasesWrong)

/-- 'cellarerlaw09.DiskExact': WHATEVER THE INPUT: true; the input reads as it did. -/
def diskExactSpec : ChangeSpec := { name := "diskExact", fn := fun _ => fun
  | [d1, d2] => { results := [.lit (.bool true)], args := [d1, d2] }
  | _ => none }
def diskExactRow : OpenClaim := { program := "ythhgngknmjocpaa", sum := "2e0ccf257fb7cb2985f1387dc1324a37a2c8a17a183d61c314fd0618cb5b2d7d", func := "cellarer/cellarerlaw09.DiskExact", spec := "diskExact", apart := false }
def DiskExactSaid : Prop := diskExactRow.holds Try.pinned (OpenSpec.ofChange diskExactSpec)

/-- ITS FALSE NEIGHBOUR: 'it returns false'. Refute it at one input. -/
def diskExactWrong : ChangeSpec := { name := "diskExact", fn := fun _ => fun
  | [d1, d2] => { results := [.lit (.bool false)], args := [d1, d2] }
  | _ => none }
def DiskExactWrongFalsely : Prop := diskExactRow.holds Try.pinned (OpenSpec.ofChange diskExactWrong)

/- THE SECOND FORM. 'bulk': how many values and letters a reading holds, each counted each time it is reached (what is shared counts as often as it is met; a slice's spare places count too). A statement '..UptoSaid' is the law's where the arguments, and the package variables that the reading takes, are together of bulk at most 1048576: NARROWER than '..Said'. Prove '..Said' where nothing that the law and all that it calls make is longer than what came in: it says more and counts as full. Else prove '..UptoSaid'. A law counts once. -/
mutual
def uptoBulk {H : Type} : DataW H → Nat
  | .lit (.string bytes) => bytes.length + 1
  | .lit _ => 1
  | .nil => 1
  | .ptr d => uptoBulk d + 1
  | .slice elems spare => uptoBulkAll elems + uptoBulkAll spare + 1
  | .agg parts => uptoBulkAll parts + 1
  | .iface _ d => uptoBulk d + 1
  | .map entries => uptoBulkEntries entries + 1
  | .held _ => 1
def uptoBulkAll {H : Type} : List (DataW H) → Nat
  | [] => 0
  | d :: r => uptoBulk d + uptoBulkAll r
def uptoBulkEntries {H : Type} : List (Lit × DataW H) → Nat
  | [] => 0
  | x :: r => uptoBulkEntry x + uptoBulkEntries r
def uptoBulkEntry {H : Type} : Lit × DataW H → Nat
  | (.string bytes, d) => bytes.length + uptoBulk d + 1
  | (_, d) => uptoBulk d + 1
 end
def uptoSmall : (H : Type) → List (DataW H) → Bool := fun _ ds => decide (uptoBulkAll ds ≤ 1048576)
def OpenSpec.upto (s : _root_.Go.ChangeSpec) : _root_.Go.OpenSpec := { _root_.Go.OpenSpec.ofChange s with cond := some uptoSmall }

/-- 'cellarerlaw08.PowerTrips', WHERE WHAT IT READS IS OF BULK AT MOST 1048576: true; the input reads as it did. -/
def powerTripsUptoRow : OpenClaim := { program := "ythhgngknmjocpaa", sum := "2e0ccf257fb7cb2985f1387dc1324a37a2c8a17a183d61c314fd0618cb5b2d7d", func := "cellarer/cellarerlaw08.PowerTrips", spec := "powerTrips", apart := false, narrowed := true }
def PowerTripsUptoSaid : Prop := powerTripsUptoRow.holds Try.pinned (OpenSpec.upto powerTripsSpec)

/-- 'cellarerlaw08.PowerLives', WHERE WHAT IT READS IS OF BULK AT MOST 1048576: true; the input reads as it did. -/
def powerLivesUptoRow : OpenClaim := { program := "ythhgngknmjocpaa", sum := "2e0ccf257fb7cb2985f1387dc1324a37a2c8a17a183d61c314fd0618cb5b2d7d", func := "cellarer/cellarerlaw08.PowerLives", spec := "powerLives", apart := false, narrowed := true }
def PowerLivesUptoSaid : Prop := powerLivesUptoRow.holds Try.pinned (OpenSpec.upto powerLivesSpec)

/-- 'cellarerlaw08.PowerArms', WHERE WHAT IT READS IS OF BULK AT MOST 1048576: true; the input reads as it did. -/
def powerArmsUptoRow : OpenClaim := { program := "ythhgngknmjocpaa", sum := "2e0ccf257fb7cb2985f1387dc1324a37a2c8a17a183d61c314fd0618cb5b2d7d", func := "cellarer/cellarerlaw08.PowerArms", spec := "powerArms", apart := false, narrowed := true }
def PowerArmsUptoSaid : Prop := powerArmsUptoRow.holds Try.pinned (OpenSpec.upto powerArmsSpec)

/-- 'cellarerlaw14.LabelExact', WHERE WHAT IT READS IS OF BULK AT MOST 1048576: true; the input reads as it did. -/
def labelExactUptoRow : OpenClaim := { program := "ythhgngknmjocpaa", sum := "2e0ccf257fb7cb2985f1387dc1324a37a2c8a17a183d61c314fd0618cb5b2d7d", func := "cellarer/cellarerlaw14.LabelExact", spec := "labelExact", apart := false, narrowed := true }
def LabelExactUptoSaid : Prop := labelExactUptoRow.holds Try.pinned (OpenSpec.upto labelExactSpec)

/-- 'cellarerlaw14.LabelReads', WHERE WHAT IT READS IS OF BULK AT MOST 1048576: true; the input reads as it did. -/
def labelReadsUptoRow : OpenClaim := { program := "ythhgngknmjocpaa", sum := "2e0ccf257fb7cb2985f1387dc1324a37a2c8a17a183d61c314fd0618cb5b2d7d", func := "cellarer/cellarerlaw14.LabelReads", spec := "labelReads", apart := false, narrowed := true }
def LabelReadsUptoSaid : Prop := labelReadsUptoRow.holds Try.pinned (OpenSpec.upto labelReadsSpec)

/-- 'cellarerlaw14.LabelSpoilt', WHERE WHAT IT READS IS OF BULK AT MOST 1048576: true; the input reads as it did. -/
def labelSpoiltUptoRow : OpenClaim := { program := "ythhgngknmjocpaa", sum := "2e0ccf257fb7cb2985f1387dc1324a37a2c8a17a183d61c314fd0618cb5b2d7d", func := "cellarer/cellarerlaw14.LabelSpoilt", spec := "labelSpoilt", apart := false, narrowed := true }
def LabelSpoiltUptoSaid : Prop := labelSpoiltUptoRow.holds Try.pinned (OpenSpec.upto labelSpoiltSpec)

/-- 'cellarerlaw14.LabelUnlike', WHERE WHAT IT READS IS OF BULK AT MOST 1048576: true; the input reads as it did. -/
def labelUnlikeUptoRow : OpenClaim := { program := "ythhgngknmjocpaa", sum := "2e0ccf257fb7cb2985f1387dc1324a37a2c8a17a183d61c314fd0618cb5b2d7d", func := "cellarer/cellarerlaw14.LabelUnlike", spec := "labelUnlike", apart := false, narrowed := true }
def LabelUnlikeUptoSaid : Prop := labelUnlikeUptoRow.holds Try.pinned (OpenSpec.upto labelUnlikeSpec)

/-- 'cellarerlaw09.DiskReads', WHERE WHAT IT READS IS OF BULK AT MOST 1048576: true; the input reads as it did. -/
def diskReadsUptoRow : OpenClaim := { program := "ythhgngknmjocpaa", sum := "2e0ccf257fb7cb2985f1387dc1324a37a2c8a17a183d61c314fd0618cb5b2d7d", func := "cellarer/cellarerlaw09.DiskReads", spec := "diskReads", apart := false, narrowed := true }
def DiskReadsUptoSaid : Prop := diskReadsUptoRow.holds Try.pinned (OpenSpec.upto diskReadsSpec)

/-- 'cellarerlaw09.DiskSafe', WHERE WHAT IT READS IS OF BULK AT MOST 1048576: true; the input reads as it did. -/
def diskSafeUptoRow : OpenClaim := { program := "ythhgngknmjocpaa", sum := "2e0ccf257fb7cb2985f1387dc1324a37a2c8a17a183d61c314fd0618cb5b2d7d", func := "cellarer/cellarerlaw09.DiskSafe", spec := "diskSafe", apart := false, narrowed := true }
def DiskSafeUptoSaid : Prop := diskSafeUptoRow.holds Try.pinned (OpenSpec.upto diskSafeSpec)

/-- 'cellarerlaw09.DiskErases', WHERE WHAT IT READS IS OF BULK AT MOST 1048576: true; the input reads as it did. -/
def diskErasesUptoRow : OpenClaim := { program := "ythhgngknmjocpaa", sum := "2e0ccf257fb7cb2985f1387dc1324a37a2c8a17a183d61c314fd0618cb5b2d7d", func := "cellarer/cellarerlaw09.DiskErases", spec := "diskErases", apart := false, narrowed := true }
def DiskErasesUptoSaid : Prop := diskErasesUptoRow.holds Try.pinned (OpenSpec.upto diskErasesSpec)

/-- 'cellarerlaw09.DiskExact', WHERE WHAT IT READS IS OF BULK AT MOST 1048576: true; the input reads as it did. -/
def diskExactUptoRow : OpenClaim := { program := "ythhgngknmjocpaa", sum := "2e0ccf257fb7cb2985f1387dc1324a37a2c8a17a183d61c314fd0618cb5b2d7d", func := "cellarer/cellarerlaw09.DiskExact", spec := "diskExact", apart := false, narrowed := true }
def DiskExactUptoSaid : Prop := diskExactUptoRow.holds Try.pinned (OpenSpec.upto diskExactSpec)

end Rows
end Go.Proofs.Ythhgngknmjocpaa
