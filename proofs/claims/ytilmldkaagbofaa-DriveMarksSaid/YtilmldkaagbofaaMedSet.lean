/- Cells of a tape of one's own are written: plain lemmas. -/
import Derived.Test.YtilmldkaagbofaaMedTear
import Derived.Test.YtilmldkaagbofaaFlip
namespace Go.Proofs.Ytilmldkaagbofaa
open Go.RowKit

/-- A cell at a place, in place of another. -/
def Med.put (m : Med) (p : Nat) (c : CellP) : Med := ⟨m.cap, m.cells.set p c⟩
def Med.spoil (m : Med) (p : Int) : Med × Int :=
  if m.ok = false then (Med.none, 1) else if p < 0 ∨ (m.cells.length : Int) ≤ p then (Med.none, 8) else
    match m.cells[p.toNat]? with
    | Option.none => (Med.none, 8)
    | some c => (m.put p.toNat ⟨c.kind, c.data, true⟩, 0)
def Med.flip (m : Med) (p bit : Int) : Med × Int :=
  if m.ok = false then (Med.none, 1) else if p < 0 ∨ (m.cells.length : Int) ≤ p then (Med.none, 8) else
    match m.cells[p.toNat]? with
    | Option.none => (Med.none, 8)
    | some c => if c.kind ≠ 1 then (Med.none, 8) else if bit < 0 ∨ (8 * c.data.length : Int) ≤ bit then (Med.none, 1) else (m.put p.toNat ⟨c.kind, flipBit c.data bit.toNat, c.bad⟩, 0)
theorem pls_set (cs : List CellV) (i : Nat) (y : CellV) : pls (cs.set i y) = (pls cs).set i y.pl := by unfold pls; rw [List.map_set]
theorem pls_get {cs : List CellV} {i : Nat} (hi : i < cs.length) : (pls cs)[i]? = some cs[i].pl := by unfold pls; rw [List.getElem?_map, List.getElem?_eq_getElem hi]; rfl

theorem apart_key {cs : List CellV} : Apart cs ↔ (cs.map fun x => (x.d.a, x.d.l.length)).Pairwise fun u v => u.2 ≠ 0 → v.2 ≠ 0 → u.1 ≠ v.1 := by
  rw [List.pairwise_map]
  have key : ∀ l : List Byte, l ≠ [] ↔ l.length ≠ 0 := fun l => by rw [ne_eq, ne_eq, List.length_eq_zero_iff]
  unfold Apart
  constructor <;> intro h <;> refine h.imp ?_ <;> intro x y k
  · exact fun h1 h2 => k ((key _).2 h1) ((key _).2 h2)
  · exact fun h1 h2 => k ((key _).1 h1) ((key _).1 h2)
theorem Apart.set {cs : List CellV} (h : Apart cs) {i : Nat} (hi : i < cs.length) {y : CellV} (ha : y.d.a = cs[i].d.a) (hl : y.d.l.length = cs[i].d.l.length) : Apart (cs.set i y) := by
  rw [apart_key] at h ⊢
  have e : (cs.set i y).map (fun x => (x.d.a, x.d.l.length)) = cs.map fun x => (x.d.a, x.d.l.length) := by
    rw [List.map_set, ha, hl]
    have e2 : (cs.map fun x => (x.d.a, x.d.l.length))[i]'(by simpa using hi) = (cs[i].d.a, cs[i].d.l.length) := by simp
    rw [← e2]
    exact List.set_getElem_self _
  rw [e]
  exact h
theorem Apart.ne {cs : List CellV} (h : Apart cs) {i j : Nat} (hi : i < cs.length) (hj : j < cs.length) (hij : i ≠ j) (h1 : cs[i].d.l ≠ []) (h2 : cs[j].d.l ≠ []) : cs[i].d.a ≠ cs[j].d.a := by
  unfold Apart at h
  rw [List.pairwise_iff_getElem] at h
  by_cases hlt : i < j
  · exact h i j hi hj hlt h1 h2
  · exact fun e => h j i hj hi (by omega) h2 h1 e.symm
/-- A row of nothing stays one, whatever cell is written. -/
theorem Own.empty {w : World} {B : Nat} {e : TypeId} {k c : Nat} {a : Option Addr} {xs : List Value} (h : Own w B e k a 0 c xs) {g : Nat} {cs : Array Value} {T : TypeId} (hg : w.heap[g]? = some (.cells cs T (0, 0))) (i : Nat) (v : Value) : Own (w.setCell ⟨g, i, none⟩ v) B e k a 0 c xs := by
  obtain ⟨hl, ⟨_, rfl⟩ | ⟨g', cur, ha, hb, hh, hn, hm, hs, ht⟩⟩ := h
  · exact ⟨hl, .inl ⟨rfl, rfl⟩⟩
  · by_cases hgg : g' = g
    · subst hgg
      rw [hh] at hg
      simp only [Option.some.injEq, Obj.cells.injEq, and_true] at hg
      obtain ⟨rfl, rfl⟩ := hg
      exact ⟨hl, .inr ⟨g', _, ha, hb, heap_setCell_same w g' i _ _ v hh, hn, hm, by simpa using hs, by simpa using hl⟩⟩
    · exact ⟨hl, .inr ⟨g', cur, ha, hb, (Below.heap_setCell w ⟨g, i, none⟩ _ _ hgg).trans hh, hn, hm, hs, ht⟩⟩
/-- A cell of the tape's own row is written. -/
theorem OwnM.setCell {w : World} {B x c : Nat} {cs : List CellV} (h : OwnM w B (some ⟨x, 0, none⟩) c cs) {i : Nat} (hi : i < cs.length) {j : Nat} (hj : j < 3) {y : CellV} (v : Value) (hy : CellV.cells y = (CellV.cells cs[i]).set j v) (hd : y.d = cs[i].d) : OwnM (w.setCell ⟨x, i * 3 + j, none⟩ v) B (some ⟨x, 0, none⟩) c (cs.set i y) := by
  obtain ⟨_, _, cur, hcur⟩ := h.row.blk (by omega)
  have hm := (Mod.refl (fun b T => b = x ∧ T = 46) w).setCell hcur ⟨rfl, rfl⟩ (i * 3 + j) v
  refine ⟨?_, fun z hz => ?_, h.apart.set hi (by rw [hd]) (by rw [hd])⟩
  · have := h.row.setAt (i * 3 + j) v (by omega)
    rw [flt_set1 CellV.len cs i j hi hj y v hy] at this
    rw [List.length_set]
    exact this
  · have key : ∃ z' ∈ cs, z.d = z'.d := by
      rcases List.mem_or_eq_of_mem_set hz with hz | rfl
      · exact ⟨z, hz, rfl⟩
      · exact ⟨cs[i], List.getElem_mem hi, hd⟩
    obtain ⟨z', hz', e⟩ := key
    rw [e]
    exact (h.dat z' hz').mod hm fun _ _ _ hf => absurd hf.2 (by decide)
theorem OwnM.setCell_mod {w : World} {B x c : Nat} {cs : List CellV} (h : OwnM w B (some ⟨x, 0, none⟩) c cs) {i : Nat} (hi : i < cs.length) (j : Nat) (v : Value) : Below B w (w.setCell ⟨x, j, none⟩ v) := by
  obtain ⟨hB, _⟩ := h.row.blk (by omega)
  exact (Below.refl B w).setCell (p := ⟨x, j, none⟩) hB v
/-- A byte of one of its rows is written. -/
theorem OwnM.setByte {w : World} {B c g : Nat} {a : Option Addr} {cs : List CellV} (h : OwnM w B a c cs) {i : Nat} (hi : i < cs.length) (hg : cs[i].d.a = some ⟨g, 0, none⟩) {j : Nat} (hj : j < cs[i].d.l.length) (b : Byte) : OwnM (w.setCell ⟨g, j, none⟩ (.int .u8 b.toNat)) B a c (cs.set i ⟨cs[i].kind, ⟨cs[i].d.a, cs[i].d.c, cs[i].d.l.set j b⟩, cs[i].bad⟩) ∧ Below B w (w.setCell ⟨g, j, none⟩ (.int .u8 b.toNat)) := by
  have hd := h.dat _ (List.getElem_mem hi)
  rw [hg] at hd
  obtain ⟨hB, _, cur, hcur⟩ := hd.blk (by omega)
  have hm := (Mod.refl (fun b T => b = g ∧ T = 5) w).setCell hcur ⟨rfl, rfl⟩ j (.int .u8 b.toNat)
  refine ⟨⟨?_, fun z hz => ?_, h.apart.set hi rfl (by simp)⟩, (Below.refl B w).setCell (p := ⟨g, j, none⟩) hB _⟩
  · rw [List.length_set]
    have e : flt CellV.cells (cs.set i ⟨cs[i].kind, ⟨cs[i].d.a, cs[i].d.c, cs[i].d.l.set j b⟩, cs[i].bad⟩) = flt CellV.cells cs := by
      unfold flt
      rw [List.map_set]
      have e2 : (cs.map CellV.cells)[i]'(by simpa using hi) = CellV.cells ⟨cs[i].kind, ⟨cs[i].d.a, cs[i].d.c, cs[i].d.l.set j b⟩, cs[i].bad⟩ := by simp [CellV.cells]
      rw [← e2, List.set_getElem_self]
    rw [e]
    exact h.row.mod hm fun _ _ _ hf => absurd hf.2 (by decide)
  · obtain ⟨k, hk, rfl⟩ := List.getElem_of_mem hz
    rw [List.length_set] at hk
    by_cases hki : k = i
    · subst hki
      rw [List.getElem_set_self]
      dsimp only
      rw [hg, List.length_set, ← bvs_set]
      exact hd.setAt j _ (by omega)
    · rw [List.getElem_set_ne (fun e => hki e.symm)]
      have hdk := h.dat _ (List.getElem_mem hk)
      by_cases h0 : cs[k].d.l = []
      · rw [h0] at hdk ⊢
        exact hdk.empty hcur _ _
      · refine hdk.mod hm fun g' ha' _ hf => ?_
        have hne := h.apart.ne hk hi hki h0 (fun e => by rw [e] at hj; simp at hj)
        exact hne (by rw [ha', hg, hf.1])
end Go.Proofs.Ytilmldkaagbofaa
