/- Several texts of this claim, one behind the other: LawRecs, LawRecss. -/
import Derived.Test.YtjngfkkbfkoedaaVolumeCrashPartV
import Derived.Test.YtjngfkkbfkoedaaVolumeCrashPartM
import Derived.Deep.SlicePairs
import Derived.Deep.Strs
import Derived.Lib.SmallJoins
import Derived.Test.YtjngfkkbfkoedaaVolumeCrashPartU
/- Records, and slices of records, as arguments. -/
namespace Go.Proofs.Ytjngfkkbfkoedaa
open Go.ChangeShapes Go.WideShapes Go.ChangeAt Go.RowKit

section
variable {H : Type} {enc : TypeId × Value → H} {P : Program} {w : World} {base : Nat} {spare : Nat → Bool} {held : Bool}

theorem trod_int1' {n : Nat} {t : TypeId} {k : IntKind} {v : Value} {y : DataW H × List MemPlace}
    (ht : P.underlying t = some (.int k)) (h : DataW.trod enc P w base spare held n t [v] = some y) : ∃ z, v = .int k z ∧ (Lit.int k z).wf = true := by
  obtain ⟨z, hz, _, hw⟩ := DataW.trod_int ht h
  simp at hz
  exact ⟨z, hz, hw⟩

/-- The three cells of a record. -/
theorem rec_of_cells {e u : TypeId} {f0 f1 f2 : Field} {n : Nat} {cs : List Value} {x : DataW H × List MemPlace} (he : P.underlying e = some (.struct #[f0, f1, f2])) (hone : Go.Deep.oneCellFields P #[f0, f1, f2] = true) (ce : P.cellsOf e = 3)
    (u0 : P.underlying f0.type = some (.int .i64)) (u1 : P.underlying f1.type = some (.int .i64)) (u2 : P.underlying f2.type = some (.slice u)) (u3 : P.underlying u = some (.int .u8)) (cu : P.cellsOf u = 1)
    (h : DataW.trod enc P w base spare held n e cs = some x) : ∃ r : RecV, cs = r.cells ∧ r.d.ok w := by
  obtain ⟨y0, y1, y2, m, _, hl, h0, h1, h2⟩ := Go.Deep.trod_struct3 he h
  obtain ⟨o0, k0⟩ := Go.Deep.hone_of hone 0 f0 rfl
  obtain ⟨o1, k1⟩ := Go.Deep.hone_of hone 1 f1 rfl
  obtain ⟨o2, k2⟩ := Go.Deep.hone_of hone 2 f2 rfl
  rw [ce] at hl
  match cs, hl with
  | [c0, c1, c2], _ =>
    simp [o0, k0] at h0
    simp [o1, k1] at h1
    simp [o2, k2] at h2
    obtain ⟨z0, rfl, _⟩ := trod_int1' u0 h0
    obtain ⟨z1, rfl, _⟩ := trod_int1' u1 h1
    obtain ⟨a, c, l, rfl, hs, hb, _⟩ := open_bytes u2 u3 cu h2
    exact ⟨⟨z0, z1, ⟨a, c, l⟩⟩, rfl, hs, hb⟩

theorem rvs_index (rs : List RecV) (i : Nat) (hi : i < (rvs rs).length) (w : World) (b : Addr) (h : ∀ j (hj : j < rs.length), w.cell? (b.add (j * 3)) = some (.int .i64 rs[j].kind) ∧ w.cell? (b.add (j * 3 + 1)) = some (.int .i64 rs[j].seq) ∧ w.cell? (b.add (j * 3 + 2)) = some (.slice rs[j].d.a rs[j].d.l.length rs[j].d.c)) :
    w.cell? (b.add i) = some (rvs rs)[i] := by
  have hl := rvs_length rs
  have hj : i / 3 < rs.length := by omega
  obtain ⟨g0, g1, g2⟩ := rvs_get rs (i / 3) hj
  obtain ⟨h0, h1, h2⟩ := h (i / 3) hj
  have e : (rvs rs)[i]? = some (rvs rs)[i] := List.getElem?_eq_getElem hi
  rw [← e]
  rcases (show i = i / 3 * 3 ∨ i = i / 3 * 3 + 1 ∨ i = i / 3 * 3 + 2 by omega) with hh | hh | hh
  · rw [hh]; exact h0.trans g0.symm
  · rw [hh]; exact h1.trans g1.symm
  · rw [hh]; exact h2.trans g2.symm

/-- '[]api.Record'. -/
theorem open_recs {t e u : TypeId} {f0 f1 f2 : Field} {fuel : Nat} {v : Value} {x : DataW H × List MemPlace} (ht : P.underlying t = some (.slice e)) (he : P.underlying e = some (.struct #[f0, f1, f2])) (hone : Go.Deep.oneCellFields P #[f0, f1, f2] = true) (ce : P.cellsOf e = 3)
    (u0 : P.underlying f0.type = some (.int .i64)) (u1 : P.underlying f1.type = some (.int .i64)) (u2 : P.underlying f2.type = some (.slice u)) (u3 : P.underlying u = some (.int .u8)) (cu : P.cellsOf u = 1)
    (h : DataW.trod enc P w base spare held fuel t [v] = some x) : ∃ a c rs, v = .slice a rs.length c ∧ RMat w a rs ∧ rs.length ≤ 9223372036854775807 ∧ rs.length ≤ c := by
  rcases Go.Deep.open_slice ht h with ⟨hcs, _⟩ | ⟨a, len, cap, m, n, D, Pl, hcs, _, hl, hm, hmm, _, hx⟩
  · simp at hcs
    exact ⟨none, 0, [], hcs, RMat.nil _ _, by simp, by simp⟩
  · simp at hcs
    have hlm : len ≤ m := by rw [hmm]; split <;> omega
    have key : ∀ i, i < m → ∃ r : RecV, w.cell? (a.add (i * 3)) = some (.int .i64 r.kind) ∧ w.cell? (a.add (i * 3 + 1)) = some (.int .i64 r.seq) ∧ w.cell? (a.add (i * 3 + 2)) = some (.slice r.d.a r.d.l.length r.d.c) ∧ r.d.ok w := by
      intro i hi
      obtain ⟨cs', h1, h2⟩ := hx i hi
      rw [ce] at h1
      obtain ⟨_, hlen, hcell⟩ := World.cells?_some h1
      obtain ⟨r, rfl, hok⟩ := rec_of_cells he hone ce u0 u1 u2 u3 cu h2
      have e0 := hcell 0 (by omega)
      have e1 := hcell 1 (by omega)
      have e2 := hcell 2 (by omega)
      rw [Go.Deep.add_add] at e0 e1 e2
      exact ⟨r, by simpa [RecV.cells] using e0, by simpa [RecV.cells] using e1, by simpa [RecV.cells] using e2, hok⟩
    have : ∀ n, n ≤ m → ∃ rs : List RecV, rs.length = n ∧ (∀ i (hi : i < rs.length), w.cell? (a.add (i * 3)) = some (.int .i64 rs[i].kind) ∧ w.cell? (a.add (i * 3 + 1)) = some (.int .i64 rs[i].seq) ∧ w.cell? (a.add (i * 3 + 2)) = some (.slice rs[i].d.a rs[i].d.l.length rs[i].d.c)) ∧ ∀ r ∈ rs, r.d.ok w := by
      intro n
      induction n with
      | zero => intro _; exact ⟨[], rfl, by simp, by simp⟩
      | succ n ih =>
        intro hn
        obtain ⟨rs, h1, h2, h3⟩ := ih (by omega)
        obtain ⟨r, hr0, hr1, hr2, hr3⟩ := key n (by omega)
        refine ⟨rs ++ [r], by simp [h1], fun i hi => ?_, fun q hq => ?_⟩
        · by_cases hi' : i < rs.length
          · rw [List.getElem_append_left hi']; exact h2 i hi'
          · have : i = rs.length := by simp at hi; omega
            subst this
            simp only [List.getElem_concat_length]
            rw [h1]
            exact ⟨hr0, hr1, hr2⟩
        · rcases List.mem_append.1 hq with h | h
          · exact h3 q h
          · simp at h; subst h; exact hr3
    obtain ⟨rs, h1, h2, h3⟩ := this len hlm
    exact ⟨some a, cap, rs, by rw [hcs, h1], ⟨src_of_cells fun i hi => rvs_index rs i hi w a h2, h3⟩, by rw [h1]; simp [maxLen] at hm; omega, by omega⟩

/-- 'api.Record'. -/
theorem open_rec {r : Reach} {b0 : Nat} {t u : TypeId} {f0 f1 f2 : Field} {v : Value} {d : DataW H} {p : List MemPlace}
    (hs : P.underlying t = some (.struct #[f0, f1, f2])) (hone : Go.Deep.oneCellFields P #[f0, f1, f2] = true) (hC : P.cellsOf t = 3)
    (u0 : P.underlying f0.type = some (.int .i64)) (u1 : P.underlying f1.type = some (.int .i64)) (u2 : P.underlying f2.type = some (.slice u)) (u3 : P.underlying u = some (.int .u8)) (cu : P.cellsOf u = 1)
    (hv : Value.okWide P w r b0 t v) (h : DataW.Trod enc P w base spare held t v d p) : ∃ x : RecV, v = x.val ∧ x.d.ok w := by
  obtain ⟨v0, v1, v2, y0, y1, y2, n, rfl, _, _, h0, h1, h2⟩ := Go.Joins.open_agg3 hs hone hC hv h
  obtain ⟨z0, rfl, _⟩ := trod_int1' u0 h0
  obtain ⟨z1, rfl, _⟩ := trod_int1' u1 h1
  obtain ⟨a, c, l, rfl, hs, hb, _⟩ := open_bytes u2 u3 cu h2
  exact ⟨⟨z0, z1, ⟨a, c, l⟩⟩, rfl, hs, hb⟩
end
end Go.Proofs.Ytjngfkkbfkoedaa

/- Slices of slices of records, as arguments. -/
namespace Go.Proofs.Ytjngfkkbfkoedaa
open Go.ChangeShapes Go.WideShapes Go.ChangeAt Go.RowKit
section
variable {H : Type} {enc : TypeId × Value → H} {P : Program} {w : World} {base : Nat} {spare : Nat → Bool} {held : Bool}
theorem rrow_dec {t e u : TypeId} {f0 f1 f2 : Field} {n : Nat} {cs : List Value} {x : DataW H × List MemPlace} (ht : P.underlying t = some (.slice e)) (he : P.underlying e = some (.struct #[f0, f1, f2])) (hone : Go.Deep.oneCellFields P #[f0, f1, f2] = true) (ce : P.cellsOf e = 3)
    (u0 : P.underlying f0.type = some (.int .i64)) (u1 : P.underlying f1.type = some (.int .i64)) (u2 : P.underlying f2.type = some (.slice u)) (u3 : P.underlying u = some (.int .u8)) (cu : P.cellsOf u = 1)
    (h : DataW.trod enc P w base spare held n t cs = some x) : ∃ y : RRow, cs = y.cells ∧ y.ok w := by
  have hv : ∃ v, cs = [v] := by
    rcases Go.Deep.open_slice ht h with ⟨hcs, _⟩ | ⟨a, len, cap, m, n, D, Pl, hcs, _⟩
    · exact ⟨_, hcs⟩
    · exact ⟨_, hcs⟩
  obtain ⟨v, rfl⟩ := hv
  obtain ⟨a, c, rs, rfl, hm, hl, hc⟩ := open_recs ht he hone ce u0 u1 u2 u3 cu h
  exact ⟨⟨a, c, rs⟩, rfl, hm, hl, hc⟩
end
end Go.Proofs.Ytjngfkkbfkoedaa
