/-
  No cell of these rows narrows 'for every input' (looked for: loops, veiled, ifaces, maps, wideKeys, modest, calm, conditions, laid).
  DERIVED. THE GIVEN ROWS OF THIS SEAT. 6 by the template 'for every input the law returns true; each argument reads behind the call as it read before'; 0 by the template 'total and deterministic' (their statements: YtjngfkkbfkoedaaTotals.lean).
  GIVEN WITH THE SEED: the statements are not yours to turn. If you find one false, say at which input.
  Laid BY PROGRAM, IN A SANDBOX (cutbox-rows.mjs): the forced cells as the released guide's own fill.sh prints them over the translation bc42f18bb46b2045… (all of the seat's roots in one cut). By AI agents, Wed Nov 11 2026. No macro, syntax, notation, axiom, sorry.
-/
import Derived.Test.YtjngfkkbfkoedaaChecked
import GoSem.Claim
import GoSem.ClaimJoined
import GoSem.ClaimMapViews
import Derived.JoinedTies
import Derived.KernelRfl
namespace Go.Proofs.Ytjngfkkbfkoedaa
/- THE CELL 'sum', in the pinned program and in every row, IS THE sha256 OF THE DUMP (.gsa) THAT YtjngfkkbfkoedaaProg.lean LOADS. Nothing in Lean hashes anything: it is a label: what it is worth is what the hold of that sum in a sandbox is worth. -/
noncomputable def Try.pinned : Pinned := { name := "ytjngfkkbfkoedaa", sum := "bc42f18bb46b2045e7d228f26ae1ee213cd48c8c01885bce949c6ff5c2ad92d9", checked := Try.checked }
namespace Rows
def none {H : Type} : Left H := { results := [], args := [] }

/-- 'cellarerlaw16.VolumeFormats': WHATEVER THE INPUT: true; the input reads as it did. -/
def volumeFormatsSpec : ChangeSpec := { name := "volumeFormats", fn := fun _ => fun
  | [d1, d2, d3] => { results := [.lit (.bool true)], args := [d1, d2, d3] }
  | _ => none }
def volumeFormatsRow : OpenClaim := { program := "ytjngfkkbfkoedaa", sum := "bc42f18bb46b2045e7d228f26ae1ee213cd48c8c01885bce949c6ff5c2ad92d9", func := "cellarer/cellarerlaw16.VolumeFormats", spec := "volumeFormats", unfollowed := true, recurses := true, apart := false }
def VolumeFormatsSaid : Prop := volumeFormatsRow.holds Try.pinned (OpenSpec.ofChange volumeFormatsSpec)

/-- ITS FALSE NEIGHBOUR: 'it returns false'. Refute it at one input. -/
def volumeFormatsWrong : ChangeSpec := { name := "volumeFormats", fn := fun _ => fun
  | [d1, d2, d3] => { results := [.lit (.bool false)], args := [d1, d2, d3] }
  | _ => none }
def VolumeFormatsWrongFalsely : Prop := volumeFormatsRow.holds Try.pinned (OpenSpec.ofChange volumeFormatsWrong)

/-- 'cellarerlaw16.VolumeFull': WHATEVER THE INPUT: true; the input reads as it did. -/
def volumeFullSpec : ChangeSpec := { name := "volumeFull", fn := fun _ => fun
  | [d1, d2, d3] => { results := [.lit (.bool true)], args := [d1, d2, d3] }
  | _ => none }
def volumeFullRow : OpenClaim := { program := "ytjngfkkbfkoedaa", sum := "bc42f18bb46b2045e7d228f26ae1ee213cd48c8c01885bce949c6ff5c2ad92d9", func := "cellarer/cellarerlaw16.VolumeFull", spec := "volumeFull", unfollowed := true, recurses := true, apart := false }
def VolumeFullSaid : Prop := volumeFullRow.holds Try.pinned (OpenSpec.ofChange volumeFullSpec)

/-- ITS FALSE NEIGHBOUR: 'it returns false'. Refute it at one input. -/
def volumeFullWrong : ChangeSpec := { name := "volumeFull", fn := fun _ => fun
  | [d1, d2, d3] => { results := [.lit (.bool false)], args := [d1, d2, d3] }
  | _ => none }
def VolumeFullWrongFalsely : Prop := volumeFullRow.holds Try.pinned (OpenSpec.ofChange volumeFullWrong)

/-- 'cellarerlaw16.VolumeReads': WHATEVER THE INPUT: true; the input reads as it did. -/
def volumeReadsSpec : ChangeSpec := { name := "volumeReads", fn := fun _ => fun
  | [d1, d2, d3, d4] => { results := [.lit (.bool true)], args := [d1, d2, d3, d4] }
  | _ => none }
def volumeReadsRow : OpenClaim := { program := "ytjngfkkbfkoedaa", sum := "bc42f18bb46b2045e7d228f26ae1ee213cd48c8c01885bce949c6ff5c2ad92d9", func := "cellarer/cellarerlaw16.VolumeReads", spec := "volumeReads", unfollowed := true, recurses := true, apart := false }
def VolumeReadsSaid : Prop := volumeReadsRow.holds Try.pinned (OpenSpec.ofChange volumeReadsSpec)

/-- ITS FALSE NEIGHBOUR: 'it returns false'. Refute it at one input. -/
def volumeReadsWrong : ChangeSpec := { name := "volumeReads", fn := fun _ => fun
  | [d1, d2, d3, d4] => { results := [.lit (.bool false)], args := [d1, d2, d3, d4] }
  | _ => none }
def VolumeReadsWrongFalsely : Prop := volumeReadsRow.holds Try.pinned (OpenSpec.ofChange volumeReadsWrong)

/-- 'cellarerlaw16.VolumeCrash': WHATEVER THE INPUT: true; the input reads as it did. -/
def volumeCrashSpec : ChangeSpec := { name := "volumeCrash", fn := fun _ => fun
  | [d1, d2, d3, d4, d5] => { results := [.lit (.bool true)], args := [d1, d2, d3, d4, d5] }
  | _ => none }
def volumeCrashRow : OpenClaim := { program := "ytjngfkkbfkoedaa", sum := "bc42f18bb46b2045e7d228f26ae1ee213cd48c8c01885bce949c6ff5c2ad92d9", func := "cellarer/cellarerlaw16.VolumeCrash", spec := "volumeCrash", unfollowed := true, recurses := true, apart := false }
def VolumeCrashSaid : Prop := volumeCrashRow.holds Try.pinned (OpenSpec.ofChange volumeCrashSpec)

/-- ITS FALSE NEIGHBOUR: 'it returns false'. Refute it at one input. -/
def volumeCrashWrong : ChangeSpec := { name := "volumeCrash", fn := fun _ => fun
  | [d1, d2, d3, d4, d5] => { results := [.lit (.bool false)], args := [d1, d2, d3, d4, d5] }
  | _ => none }
def VolumeCrashWrongFalsely : Prop := volumeCrashRow.holds Try.pinned (OpenSpec.ofChange volumeCrashWrong)

/-- 'cellarerlaw16.VolumeSpoilt': WHATEVER THE INPUT: true; the input reads as it did. -/
def volumeSpoiltSpec : ChangeSpec := { name := "volumeSpoilt", fn := fun _ => fun
  | [d1, d2, d3, d4, d5] => { results := [.lit (.bool true)], args := [d1, d2, d3, d4, d5] }
  | _ => none }
def volumeSpoiltRow : OpenClaim := { program := "ytjngfkkbfkoedaa", sum := "bc42f18bb46b2045e7d228f26ae1ee213cd48c8c01885bce949c6ff5c2ad92d9", func := "cellarer/cellarerlaw16.VolumeSpoilt", spec := "volumeSpoilt", unfollowed := true, recurses := true, apart := false }
def VolumeSpoiltSaid : Prop := volumeSpoiltRow.holds Try.pinned (OpenSpec.ofChange volumeSpoiltSpec)

/-- ITS FALSE NEIGHBOUR: 'it returns false'. Refute it at one input. -/
def volumeSpoiltWrong : ChangeSpec := { name := "volumeSpoilt", fn := fun _ => fun
  | [d1, d2, d3, d4, d5] => { results := [.lit (.bool false)], args := [d1, d2, d3, d4, d5] }
  | _ => none }
def VolumeSpoiltWrongFalsely : Prop := volumeSpoiltRow.holds Try.pinned (OpenSpec.ofChange volumeSpoiltWrong)

/-- 'cellarerlaw16.VolumeBack': WHATEVER THE INPUT: true; the input reads as it did. -/
def volumeBackSpec : ChangeSpec := { name := "volumeBack", fn := fun _ => fun
  | [d1, d2, d3] => { results := [.lit (.bool true)], args := [d1, d2, d3] }
  | _ => none }
def volumeBackRow : OpenClaim := { program := "ytjngfkkbfkoedaa", sum := "bc42f18bb46b2045e7d228f26ae1ee213cd48c8c01885bce949c6ff5c2ad92d9", func := "cellarer/cellarerlaw16.VolumeBack", spec := "volumeBack", unfollowed := true, recurses := true, apart := false }
def VolumeBackSaid : Prop := volumeBackRow.holds Try.pinned (OpenSpec.ofChange volumeBackSpec)

/-- ITS FALSE NEIGHBOUR: 'it returns false'. Refute it at one input. -/
def volumeBackWrong : ChangeSpec := { name := "volumeBack", fn := fun _ => fun
  | [d1, d2, d3] => { results := [.lit (.bool false)], args := [d1, d2, d3] }
  | _ => none }
def VolumeBackWrongFalsely : Prop := volumeBackRow.holds Try.pinned (OpenSpec.ofChange volumeBackWrong)

/- THE SECOND FORM. 'bulk': how many values and letters a reading holds, each counted each time it is reached (what is shared counts as often as it is met; a slice's spare places count too). A statement '..UptoSaid' is the law's where the arguments, and the package variables that the reading takes, are together of bulk at most 1048576: NARROWER than '..Said'. Prove '..Said' where nothing that the law and all that it calls make is longer than what came in: it says more and counts as full. Else prove '..UptoSaid'. A law counts once. -/
mutual
def uptoBulk {H : Type} : DataW H → Nat
  | .lit (.string bytes) => bytes.length + 1
  | .lit _ => 1
  | .nil => 1
  | .ptr d => uptoBulk d + 1
  | .slice elems spare => uptoBulkAll elems + uptoBulkAll spare + 1
  | .agg parts => uptoBulkAll parts + 1
  | .iface _ d => uptoBulk d + 1
  | .map entries => uptoBulkEntries entries + 1
  | .held _ => 1
def uptoBulkAll {H : Type} : List (DataW H) → Nat
  | [] => 0
  | d :: r => uptoBulk d + uptoBulkAll r
def uptoBulkEntries {H : Type} : List (Lit × DataW H) → Nat
  | [] => 0
  | x :: r => uptoBulkEntry x + uptoBulkEntries r
def uptoBulkEntry {H : Type} : Lit × DataW H → Nat
  | (.string bytes, d) => bytes.length + uptoBulk d + 1
  | (_, d) => uptoBulk d + 1
 end
def uptoSmall : (H : Type) → List (DataW H) → Bool := fun _ ds => decide (uptoBulkAll ds ≤ 1048576)
def OpenSpec.upto (s : _root_.Go.ChangeSpec) : _root_.Go.OpenSpec := { _root_.Go.OpenSpec.ofChange s with cond := some uptoSmall }

/-- 'cellarerlaw16.VolumeFormats', WHERE WHAT IT READS IS OF BULK AT MOST 1048576: true; the input reads as it did. -/
def volumeFormatsUptoRow : OpenClaim := { program := "ytjngfkkbfkoedaa", sum := "bc42f18bb46b2045e7d228f26ae1ee213cd48c8c01885bce949c6ff5c2ad92d9", func := "cellarer/cellarerlaw16.VolumeFormats", spec := "volumeFormats", unfollowed := true, recurses := true, apart := false, narrowed := true }
def VolumeFormatsUptoSaid : Prop := volumeFormatsUptoRow.holds Try.pinned (OpenSpec.upto volumeFormatsSpec)

/-- 'cellarerlaw16.VolumeFull', WHERE WHAT IT READS IS OF BULK AT MOST 1048576: true; the input reads as it did. -/
def volumeFullUptoRow : OpenClaim := { program := "ytjngfkkbfkoedaa", sum := "bc42f18bb46b2045e7d228f26ae1ee213cd48c8c01885bce949c6ff5c2ad92d9", func := "cellarer/cellarerlaw16.VolumeFull", spec := "volumeFull", unfollowed := true, recurses := true, apart := false, narrowed := true }
def VolumeFullUptoSaid : Prop := volumeFullUptoRow.holds Try.pinned (OpenSpec.upto volumeFullSpec)

/-- 'cellarerlaw16.VolumeReads', WHERE WHAT IT READS IS OF BULK AT MOST 1048576: true; the input reads as it did. -/
def volumeReadsUptoRow : OpenClaim := { program := "ytjngfkkbfkoedaa", sum := "bc42f18bb46b2045e7d228f26ae1ee213cd48c8c01885bce949c6ff5c2ad92d9", func := "cellarer/cellarerlaw16.VolumeReads", spec := "volumeReads", unfollowed := true, recurses := true, apart := false, narrowed := true }
def VolumeReadsUptoSaid : Prop := volumeReadsUptoRow.holds Try.pinned (OpenSpec.upto volumeReadsSpec)

/-- 'cellarerlaw16.VolumeCrash', WHERE WHAT IT READS IS OF BULK AT MOST 1048576: true; the input reads as it did. -/
def volumeCrashUptoRow : OpenClaim := { program := "ytjngfkkbfkoedaa", sum := "bc42f18bb46b2045e7d228f26ae1ee213cd48c8c01885bce949c6ff5c2ad92d9", func := "cellarer/cellarerlaw16.VolumeCrash", spec := "volumeCrash", unfollowed := true, recurses := true, apart := false, narrowed := true }
def VolumeCrashUptoSaid : Prop := volumeCrashUptoRow.holds Try.pinned (OpenSpec.upto volumeCrashSpec)

/-- 'cellarerlaw16.VolumeSpoilt', WHERE WHAT IT READS IS OF BULK AT MOST 1048576: true; the input reads as it did. -/
def volumeSpoiltUptoRow : OpenClaim := { program := "ytjngfkkbfkoedaa", sum := "bc42f18bb46b2045e7d228f26ae1ee213cd48c8c01885bce949c6ff5c2ad92d9", func := "cellarer/cellarerlaw16.VolumeSpoilt", spec := "volumeSpoilt", unfollowed := true, recurses := true, apart := false, narrowed := true }
def VolumeSpoiltUptoSaid : Prop := volumeSpoiltUptoRow.holds Try.pinned (OpenSpec.upto volumeSpoiltSpec)

/-- 'cellarerlaw16.VolumeBack', WHERE WHAT IT READS IS OF BULK AT MOST 1048576: true; the input reads as it did. -/
def volumeBackUptoRow : OpenClaim := { program := "ytjngfkkbfkoedaa", sum := "bc42f18bb46b2045e7d228f26ae1ee213cd48c8c01885bce949c6ff5c2ad92d9", func := "cellarer/cellarerlaw16.VolumeBack", spec := "volumeBack", unfollowed := true, recurses := true, apart := false, narrowed := true }
def VolumeBackUptoSaid : Prop := volumeBackUptoRow.holds Try.pinned (OpenSpec.upto volumeBackSpec)

end Rows
end Go.Proofs.Ytjngfkkbfkoedaa
