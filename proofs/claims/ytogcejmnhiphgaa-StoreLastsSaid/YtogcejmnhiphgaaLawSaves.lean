/- Slices of cellarerlaw10.Save as arguments. -/
import Derived.Test.YtogcejmnhiphgaaLawFlt
import Derived.Test.YtogcejmnhiphgaaSaves
namespace Go.Proofs.Ytogcejmnhiphgaa
open Go.ChangeShapes Go.WideShapes Go.ChangeAt Go.RowKit
section
variable {H : Type} {enc : TypeId × Value → H} {P : Program} {w : World} {base : Nat} {held : Bool}
theorem save_dec {e u ub ui : TypeId} {f0 f1 f2 f3 f4 f5 : Field} {n : Nat} {cs : List Value} {x : DataW H × List MemPlace} (he : P.underlying e = some (.struct #[f0, f1, f2, f3, f4, f5])) (hone : Go.Deep.oneCellFields P #[f0, f1, f2, f3, f4, f5] = true) (ce : P.cellsOf e = 6)
    (u0 : P.underlying f0.type = some (.slice u)) (u1 : P.underlying f1.type = some (.int .i64)) (u2 : P.underlying f2.type = some (.int .i64)) (u3 : P.underlying f3.type = some (.slice ub)) (u4 : P.underlying f4.type = some (.int .i64)) (u5 : P.underlying f5.type = some (.slice ui))
    (uu : P.underlying u = some (.int .u8)) (cu : P.cellsOf u = 1) (uub : P.underlying ub = some .bool) (cub : P.cellsOf ub = 1) (uui : P.underlying ui = some (.int .i64)) (cui : P.cellsOf ui = 1)
    (h : DataW.trod enc P w base (fun _ => true) held n e cs = some x) : ∃ y : SaveV, cs = y.cells ∧ y.ok w := by
  obtain ⟨hl, hf⟩ := struct_cells he hone ce h
  match cs, hl with
  | [c0, c1, c2, c3, c4, c5], _ =>
    obtain ⟨_, _, h0⟩ := hf 0 f0 c0 rfl rfl
    obtain ⟨_, _, h1⟩ := hf 1 f1 c1 rfl rfl
    obtain ⟨_, _, h2⟩ := hf 2 f2 c2 rfl rfl
    obtain ⟨_, _, h3⟩ := hf 3 f3 c3 rfl rfl
    obtain ⟨_, _, h4⟩ := hf 4 f4 c4 rfl rfl
    obtain ⟨_, _, h5⟩ := hf 5 f5 c5 rfl rfl
    obtain ⟨a0, n0, l0, rfl, s0, b0, _⟩ := open_bytes u0 uu cu h0
    obtain ⟨z1, rfl, w1⟩ := trod_intv u1 h1
    obtain ⟨z2, rfl, w2⟩ := trod_intv u2 h2
    obtain ⟨a3, n3, l3, rfl, s3, b3⟩ := open_boolsv u3 uub cub h3
    obtain ⟨z4, rfl, w4⟩ := trod_intv u4 h4
    obtain ⟨a5, n5, l5, rfl, s5, b5, _⟩ := open_intsv u5 uui cui h5
    exact ⟨⟨⟨a0, n0, l0⟩, z1, z2, a3, n3, l3, z4, a5, n5, l5⟩, rfl, ⟨s0, b0⟩, s3, s5⟩
end
end Go.Proofs.Ytogcejmnhiphgaa
