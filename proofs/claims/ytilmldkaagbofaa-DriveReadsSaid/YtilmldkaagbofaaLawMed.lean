/- api.Medium as an argument. -/
import Derived.Test.YtilmldkaagbofaaLawFlt
import Derived.Test.YtilmldkaagbofaaMed
namespace Go.Proofs.Ytilmldkaagbofaa
open Go.ChangeShapes Go.WideShapes Go.ChangeAt Go.RowKit
section
variable {H : Type} {enc : TypeId × Value → H} {P : Program} {w : World} {base : Nat} {spare : Nat → Bool} {held : Bool}
theorem cell_dec {e u : TypeId} {f0 f1 f2 : Field} {n : Nat} {cs : List Value} {x : DataW H × List MemPlace} (he : P.underlying e = some (.struct #[f0, f1, f2])) (hone : Go.Deep.oneCellFields P #[f0, f1, f2] = true) (ce : P.cellsOf e = 3)
    (u0 : P.underlying f0.type = some (.int .i64)) (u1 : P.underlying f1.type = some (.slice u)) (u2 : P.underlying f2.type = some .bool) (uu : P.underlying u = some (.int .u8)) (cu : P.cellsOf u = 1)
    (h : DataW.trod enc P w base spare held n e cs = some x) : ∃ y : CellV, cs = y.cells ∧ y.d.ok w := by
  obtain ⟨hl, hf⟩ := struct_cells he hone ce h
  match cs, hl with
  | [c0, c1, c2], _ =>
    obtain ⟨_, _, h0⟩ := hf 0 f0 c0 rfl rfl
    obtain ⟨_, _, h1⟩ := hf 1 f1 c1 rfl rfl
    obtain ⟨_, _, h2⟩ := hf 2 f2 c2 rfl rfl
    obtain ⟨z0, rfl, w0⟩ := trod_intv u0 h0
    obtain ⟨a1, n1, l1, rfl, s1, b1, _⟩ := open_bytes u1 uu cu h1
    obtain ⟨z2, rfl⟩ := trod_boolv u2 h2
    exact ⟨⟨z0, ⟨a1, n1, l1⟩, z2⟩, rfl, s1, b1⟩
theorem open_med {r : Reach} {b0 : Nat} {t ec u : TypeId} {f0 f1 g0 g1 g2 : Field} {v : Value} {d : DataW H} {p : List MemPlace}
    (hs : P.underlying t = some (.struct #[f0, f1])) (hone : Go.Deep.oneCellFields P #[f0, f1] = true) (hC : P.cellsOf t = 2) (u0 : P.underlying f0.type = some (.int .i64)) (u1 : P.underlying f1.type = some (.slice ec))
    (he : P.underlying ec = some (.struct #[g0, g1, g2])) (hone2 : Go.Deep.oneCellFields P #[g0, g1, g2] = true) (ce : P.cellsOf ec = 3) (k0 : P.underlying g0.type = some (.int .i64)) (k1 : P.underlying g1.type = some (.slice u)) (k2 : P.underlying g2.type = some .bool) (uu : P.underlying u = some (.int .u8)) (cu : P.cellsOf u = 1)
    (hv : Value.okWide P w r b0 t v) (h : DataW.Trod enc P w base spare held t v d p) : ∃ cap a c cs, v = .agg #[.int .i64 cap, .slice a cs.length c] ∧ CMat w a cs ∧ cs.length ≤ 9223372036854775807 ∧ cs.length ≤ c ∧ (Lit.int .i64 cap).wf = true := by
  obtain ⟨v0, v1, y0, y1, n, rfl, _, _, h0, h1⟩ := Go.Joins.open_agg2 hs hone hC hv h
  obtain ⟨z0, rfl, w0⟩ := trod_intv u0 h0
  obtain ⟨a, c, l, rfl, s, o, b, k⟩ := open_flt CellV.cells (fun x => x.d.ok w) CellV.len (by decide) u1 ce (fun n cs y h => cell_dec he hone2 ce k0 k1 k2 uu cu h) h1
  exact ⟨z0, a, c, l, rfl, ⟨s, o⟩, b, k, w0⟩
end
end Go.Proofs.Ytilmldkaagbofaa
