/-
  No cell of these rows narrows 'for every input' (looked for: loops, veiled, ifaces, maps, wideKeys, modest, calm, conditions, laid).
  DERIVED. THE GIVEN ROWS OF THIS SEAT. 6 by the template 'for every input the law returns true; each argument reads behind the call as it read before'; 0 by the template 'total and deterministic' (their statements: YtnbpcdnpdcfiiaaTotals.lean).
  GIVEN WITH THE SEED: the statements are not yours to turn. If you find one false, say at which input.
  Laid BY PROGRAM, IN A SANDBOX (cutbox-rows.mjs): the forced cells as the released guide's own fill.sh prints them over the translation 4877d2817ee086bb… (all of the seat's roots in one cut). By AI agents, Wed Nov 11 2026. No macro, syntax, notation, axiom, sorry.
-/
import Derived.Test.YtnbpcdnpdcfiiaaChecked
import GoSem.Claim
import GoSem.ClaimJoined
import GoSem.ClaimMapViews
import Derived.JoinedTies
import Derived.KernelRfl
namespace Go.Proofs.Ytnbpcdnpdcfiiaa
/- THE CELL 'sum', in the pinned program and in every row, IS THE sha256 OF THE DUMP (.gsa) THAT YtnbpcdnpdcfiiaaProg.lean LOADS. Nothing in Lean hashes anything: it is a label: what it is worth is what the hold of that sum in a sandbox is worth. -/
noncomputable def Try.pinned : Pinned := { name := "ytnbpcdnpdcfiiaa", sum := "4877d2817ee086bba90a1d84ad20e1845796c93af28adf1516f2107ee22be9ae", checked := Try.checked }
namespace Rows
def none {H : Type} : Left H := { results := [], args := [] }

/-- 'cellarerlaw12.DriveExact': WHATEVER THE INPUT: true; the input reads as it did. -/
def driveExactSpec : ChangeSpec := { name := "driveExact", fn := fun _ => fun
  | [d1, d2] => { results := [.lit (.bool true)], args := [d1, d2] }
  | _ => none }
def driveExactRow : OpenClaim := { program := "ytnbpcdnpdcfiiaa", sum := "4877d2817ee086bba90a1d84ad20e1845796c93af28adf1516f2107ee22be9ae", func := "cellarer/cellarerlaw12.DriveExact", spec := "driveExact", unfollowed := true, recurses := true, apart := false }
def DriveExactSaid : Prop := driveExactRow.holds Try.pinned (OpenSpec.ofChange driveExactSpec)

/-- ITS FALSE NEIGHBOUR: 'it returns false'. Refute it at one input. -/
def driveExactWrong : ChangeSpec := { name := "driveExact", fn := fun _ => fun
  | [d1, d2] => { results := [.lit (.bool false)], args := [d1, d2] }
  | _ => none }
def DriveExactWrongFalsely : Prop := driveExactRow.holds Try.pinned (OpenSpec.ofChange driveExactWrong)

/-- 'cellarerlaw13.RobotRoom': WHATEVER THE INPUT: true; the input reads as it did. -/
def robotRoomSpec : ChangeSpec := { name := "robotRoom", fn := fun _ => fun
  | [d1, d2] => { results := [.lit (.bool true)], args := [d1, d2] }
  | _ => none }
def robotRoomRow : OpenClaim := { program := "ytnbpcdnpdcfiiaa", sum := "4877d2817ee086bba90a1d84ad20e1845796c93af28adf1516f2107ee22be9ae", func := "cellarer/cellarerlaw13.RobotRoom", spec := "robotRoom", unfollowed := true, recurses := true, apart := false }
def RobotRoomSaid : Prop := robotRoomRow.holds Try.pinned (OpenSpec.ofChange robotRoomSpec)

/-- ITS FALSE NEIGHBOUR: 'it returns false'. Refute it at one input. -/
def robotRoomWrong : ChangeSpec := { name := "robotRoom", fn := fun _ => fun
  | [d1, d2] => { results := [.lit (.bool false)], args := [d1, d2] }
  | _ => none }
def RobotRoomWrongFalsely : Prop := robotRoomRow.holds Try.pinned (OpenSpec.ofChange robotRoomWrong)

/-- 'cellarerlaw13.RobotPuts': WHATEVER THE INPUT: true; the input reads as it did. -/
def robotPutsSpec : ChangeSpec := { name := "robotPuts", fn := fun _ => fun
  | [d1, d2, d3, d4] => { results := [.lit (.bool true)], args := [d1, d2, d3, d4] }
  | _ => none }
def robotPutsRow : OpenClaim := { program := "ytnbpcdnpdcfiiaa", sum := "4877d2817ee086bba90a1d84ad20e1845796c93af28adf1516f2107ee22be9ae", func := "cellarer/cellarerlaw13.RobotPuts", spec := "robotPuts", unfollowed := true, recurses := true, apart := false }
def RobotPutsSaid : Prop := robotPutsRow.holds Try.pinned (OpenSpec.ofChange robotPutsSpec)

/-- ITS FALSE NEIGHBOUR: 'it returns false'. Refute it at one input. -/
def robotPutsWrong : ChangeSpec := { name := "robotPuts", fn := fun _ => fun
  | [d1, d2, d3, d4] => { results := [.lit (.bool false)], args := [d1, d2, d3, d4] }
  | _ => none }
def RobotPutsWrongFalsely : Prop := robotPutsRow.holds Try.pinned (OpenSpec.ofChange robotPutsWrong)

/-- 'cellarerlaw13.RobotHolds': WHATEVER THE INPUT: true; the input reads as it did. -/
def robotHoldsSpec : ChangeSpec := { name := "robotHolds", fn := fun _ => fun
  | [d1, d2, d3] => { results := [.lit (.bool true)], args := [d1, d2, d3] }
  | _ => none }
def robotHoldsRow : OpenClaim := { program := "ytnbpcdnpdcfiiaa", sum := "4877d2817ee086bba90a1d84ad20e1845796c93af28adf1516f2107ee22be9ae", func := "cellarer/cellarerlaw13.RobotHolds", spec := "robotHolds", unfollowed := true, recurses := true, apart := false }
def RobotHoldsSaid : Prop := robotHoldsRow.holds Try.pinned (OpenSpec.ofChange robotHoldsSpec)

/-- ITS FALSE NEIGHBOUR: 'it returns false'. Refute it at one input. -/
def robotHoldsWrong : ChangeSpec := { name := "robotHolds", fn := fun _ => fun
  | [d1, d2, d3] => { results := [.lit (.bool false)], args := [d1, d2, d3] }
  | _ => none }
def RobotHoldsWrongFalsely : Prop := robotHoldsRow.holds Try.pinned (OpenSpec.ofChange robotHoldsWrong)

/-- 'cellarerlaw13.RobotExact': WHATEVER THE INPUT: true; the input reads as it did. -/
def robotExactSpec : ChangeSpec := { name := "robotExact", fn := fun _ => fun
  | [d1, d2, d3, d4] => { results := [.lit (.bool true)], args := [d1, d2, d3, d4] }
  | _ => none }
def robotExactRow : OpenClaim := { program := "ytnbpcdnpdcfiiaa", sum := "4877d2817ee086bba90a1d84ad20e1845796c93af28adf1516f2107ee22be9ae", func := "cellarer/cellarerlaw13.RobotExact", spec := "robotExact", unfollowed := true, recurses := true, apart := false }
def RobotExactSaid : Prop := robotExactRow.holds Try.pinned (OpenSpec.ofChange robotExactSpec)

/-- ITS FALSE NEIGHBOUR: 'it returns false'. Refute it at one input. -/
def robotExactWrong : ChangeSpec := { name := "robotExact", fn := fun _ => fun
  | [d1, d2, d3, d4] => { results := [.lit (.bool false)], args := [d1, d2, d3, d4] }
  | _ => none }
def RobotExactWrongFalsely : Prop := robotExactRow.holds Try.pinned (OpenSpec.ofChange robotExactWrong)

/-- 'cellarerlaw09.DiskExact': WHATEVER THE INPUT: true; the input reads as it did. -/
def diskExactSpec : ChangeSpec := { name := "diskExact", fn := fun _ => fun
  | [d1, d2] => { results := [.lit (.bool true)], args := [d1, d2] }
  | _ => none }
def diskExactRow : OpenClaim := { program := "ytnbpcdnpdcfiiaa", sum := "4877d2817ee086bba90a1d84ad20e1845796c93af28adf1516f2107ee22be9ae", func := "cellarer/cellarerlaw09.DiskExact", spec := "diskExact", apart := false }
def DiskExactSaid : Prop := diskExactRow.holds Try.pinned (OpenSpec.ofChange diskExactSpec)

/-- ITS FALSE NEIGHBOUR: 'it returns false'. Refute it at one input. -/
def diskExactWrong : ChangeSpec := { name := "diskExact", fn := fun _ => fun
  | [d1, d2] => { results := [.lit (.bool false)], args := [d1, d2] }
  | _ => none }
def DiskExactWrongFalsely : Prop := diskExactRow.holds Try.pinned (OpenSpec.ofChange diskExactWrong)

/- THE SECOND FORM. 'bulk': how many values and letters a reading holds, each counted each time it is reached (what is shared counts as often as it is met; a slice's spare places count too). A statement '..UptoSaid' is the law's where the arguments, and the package variables that the reading takes, are together of bulk at most 1048576: NARROWER than '..Said'. Prove '..Said' where nothing that the law and all that it calls make is longer than what came in: it says more and counts as full. Else prove '..UptoSaid'. A law counts once. -/
mutual
def uptoBulk {H : Type} : DataW H → Nat
  | .lit (.string bytes) => bytes.length + 1
  | .lit _ => 1
  | .nil => 1
  | .ptr d => uptoBulk d + 1
  | .slice elems spare => uptoBulkAll elems + uptoBulkAll spare + 1
  | .agg parts => uptoBulkAll parts + 1
  | .iface _ d => uptoBulk d + 1
  | .map entries => uptoBulkEntries entries + 1
  | .held _ => 1
def uptoBulkAll {H : Type} : List (DataW H) → Nat
  | [] => 0
  | d :: r => uptoBulk d + uptoBulkAll r
def uptoBulkEntries {H : Type} : List (Lit × DataW H) → Nat
  | [] => 0
  | x :: r => uptoBulkEntry x + uptoBulkEntries r
def uptoBulkEntry {H : Type} : Lit × DataW H → Nat
  | (.string bytes, d) => bytes.length + uptoBulk d + 1
  | (_, d) => uptoBulk d + 1
 end
def uptoSmall : (H : Type) → List (DataW H) → Bool := fun _ ds => decide (uptoBulkAll ds ≤ 1048576)
def OpenSpec.upto (s : _root_.Go.ChangeSpec) : _root_.Go.OpenSpec := { _root_.Go.OpenSpec.ofChange s with cond := some uptoSmall }

/-- 'cellarerlaw12.DriveExact', WHERE WHAT IT READS IS OF BULK AT MOST 1048576: true; the input reads as it did. -/
def driveExactUptoRow : OpenClaim := { program := "ytnbpcdnpdcfiiaa", sum := "4877d2817ee086bba90a1d84ad20e1845796c93af28adf1516f2107ee22be9ae", func := "cellarer/cellarerlaw12.DriveExact", spec := "driveExact", unfollowed := true, recurses := true, apart := false, narrowed := true }
def DriveExactUptoSaid : Prop := driveExactUptoRow.holds Try.pinned (OpenSpec.upto driveExactSpec)

/-- 'cellarerlaw13.RobotRoom', WHERE WHAT IT READS IS OF BULK AT MOST 1048576: true; the input reads as it did. -/
def robotRoomUptoRow : OpenClaim := { program := "ytnbpcdnpdcfiiaa", sum := "4877d2817ee086bba90a1d84ad20e1845796c93af28adf1516f2107ee22be9ae", func := "cellarer/cellarerlaw13.RobotRoom", spec := "robotRoom", unfollowed := true, recurses := true, apart := false, narrowed := true }
def RobotRoomUptoSaid : Prop := robotRoomUptoRow.holds Try.pinned (OpenSpec.upto robotRoomSpec)

/-- 'cellarerlaw13.RobotPuts', WHERE WHAT IT READS IS OF BULK AT MOST 1048576: true; the input reads as it did. -/
def robotPutsUptoRow : OpenClaim := { program := "ytnbpcdnpdcfiiaa", sum := "4877d2817ee086bba90a1d84ad20e1845796c93af28adf1516f2107ee22be9ae", func := "cellarer/cellarerlaw13.RobotPuts", spec := "robotPuts", unfollowed := true, recurses := true, apart := false, narrowed := true }
def RobotPutsUptoSaid : Prop := robotPutsUptoRow.holds Try.pinned (OpenSpec.upto robotPutsSpec)

/-- 'cellarerlaw13.RobotHolds', WHERE WHAT IT READS IS OF BULK AT MOST 1048576: true; the input reads as it did. -/
def robotHoldsUptoRow : OpenClaim := { program := "ytnbpcdnpdcfiiaa", sum := "4877d2817ee086bba90a1d84ad20e1845796c93af28adf1516f2107ee22be9ae", func := "cellarer/cellarerlaw13.RobotHolds", spec := "robotHolds", unfollowed := true, recurses := true, apart := false, narrowed := true }
def RobotHoldsUptoSaid : Prop := robotHoldsUptoRow.holds Try.pinned (OpenSpec.upto robotHoldsSpec)

/-- 'cellarerlaw13.RobotExact', WHERE WHAT IT READS IS OF BULK AT MOST 1048576: true; the input reads as it did. -/
def robotExactUptoRow : OpenClaim := { program := "ytnbpcdnpdcfiiaa", sum := "4877d2817ee086bba90a1d84ad20e1845796c93af28adf1516f2107ee22be9ae", func := "cellarer/cellarerlaw13.RobotExact", spec := "robotExact", unfollowed := true, recurses := true, apart := false, narrowed := true }
def RobotExactUptoSaid : Prop := robotExactUptoRow.holds Try.pinned (OpenSpec.upto robotExactSpec)

/-- 'cellarerlaw09.DiskExact', WHERE WHAT IT READS IS OF BULK AT MOST 1048576: true; the input reads as it did. -/
def diskExactUptoRow : OpenClaim := { program := "ytnbpcdnpdcfiiaa", sum := "4877d2817ee086bba90a1d84ad20e1845796c93af28adf1516f2107ee22be9ae", func := "cellarer/cellarerlaw09.DiskExact", spec := "diskExact", apart := false, narrowed := true }
def DiskExactUptoSaid : Prop := diskExactUptoRow.holds Try.pinned (OpenSpec.upto diskExactSpec)

end Rows
end Go.Proofs.Ytnbpcdnpdcfiiaa
