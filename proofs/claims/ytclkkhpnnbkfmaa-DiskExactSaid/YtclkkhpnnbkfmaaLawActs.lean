/- Slices of cellarerlaw09.Act as arguments. -/
import Derived.Test.YtclkkhpnnbkfmaaLawFlt
import Derived.Test.YtclkkhpnnbkfmaaActs
namespace Go.Proofs.Ytclkkhpnnbkfmaa
open Go.ChangeShapes Go.WideShapes Go.ChangeAt Go.RowKit
section
variable {H : Type} {enc : TypeId × Value → H} {P : Program} {w : World} {base : Nat} {held : Bool}
theorem act_dec {e u ub : TypeId} {f0 f1 f2 f3 f4 f5 f6 : Field} {n : Nat} {cs : List Value} {x : DataW H × List MemPlace} (he : P.underlying e = some (.struct #[f0, f1, f2, f3, f4, f5, f6])) (hone : Go.Deep.oneCellFields P #[f0, f1, f2, f3, f4, f5, f6] = true) (ce : P.cellsOf e = 7)
    (u0 : P.underlying f0.type = some (.int .i64)) (u1 : P.underlying f1.type = some (.int .i64)) (u2 : P.underlying f2.type = some (.int .i64)) (u3 : P.underlying f3.type = some (.slice u)) (u4 : P.underlying f4.type = some .bool) (u5 : P.underlying f5.type = some (.slice ub)) (u6 : P.underlying f6.type = some (.int .i64))
    (uu : P.underlying u = some (.int .u8)) (cu : P.cellsOf u = 1) (uub : P.underlying ub = some .bool) (cub : P.cellsOf ub = 1)
    (h : DataW.trod enc P w base (fun _ => true) held n e cs = some x) : ∃ y : ActV, cs = y.cells ∧ y.ok w := by
  obtain ⟨hl, hf⟩ := struct_cells he hone ce h
  match cs, hl with
  | [c0, c1, c2, c3, c4, c5, c6], _ =>
    obtain ⟨_, _, h0⟩ := hf 0 f0 c0 rfl rfl
    obtain ⟨_, _, h1⟩ := hf 1 f1 c1 rfl rfl
    obtain ⟨_, _, h2⟩ := hf 2 f2 c2 rfl rfl
    obtain ⟨_, _, h3⟩ := hf 3 f3 c3 rfl rfl
    obtain ⟨_, _, h4⟩ := hf 4 f4 c4 rfl rfl
    obtain ⟨_, _, h5⟩ := hf 5 f5 c5 rfl rfl
    obtain ⟨_, _, h6⟩ := hf 6 f6 c6 rfl rfl
    obtain ⟨z0, rfl, w0⟩ := trod_intv u0 h0
    obtain ⟨z1, rfl, w1⟩ := trod_intv u1 h1
    obtain ⟨z2, rfl, w2⟩ := trod_intv u2 h2
    obtain ⟨a3, n3, l3, rfl, s3, b3, _⟩ := open_bytes u3 uu cu h3
    obtain ⟨z4, rfl⟩ := trod_boolv u4 h4
    obtain ⟨a5, n5, l5, rfl, s5, b5⟩ := open_boolsv u5 uub cub h5
    obtain ⟨z6, rfl, w6⟩ := trod_intv u6 h6
    exact ⟨⟨z0, z1, z2, ⟨a3, n3, l3⟩, z4, a5, n5, l5, z6⟩, rfl, ⟨s3, b3⟩, s5, b5, w2⟩
end
end Go.Proofs.Ytclkkhpnnbkfmaa
