/- Slices of records (three cells each) as they lie. -/
import Derived.Test.YtogcejmnhiphgaaBase
import Derived.Test.YtogcejmnhiphgaaFramePlain
namespace Go.Proofs.Ytogcejmnhiphgaa
open Go.RowKit

/-- A record as it lies. -/
structure RecV where
  kind : Int
  seq : Int
  d : Bsl
def RecV.cells (r : RecV) : List Value := [.int .i64 r.kind, .int .i64 r.seq, .slice r.d.a r.d.l.length r.d.c]
def RecV.val (r : RecV) : Value := .agg #[.int .i64 r.kind, .int .i64 r.seq, .slice r.d.a r.d.l.length r.d.c]
def RecV.pl (r : RecV) : Rec := ⟨r.kind, r.seq, r.d.l⟩
def rvs (rs : List RecV) : List Value := (rs.map RecV.cells).flatten
def recs (rs : List RecV) : List Rec := rs.map RecV.pl
@[simp] theorem recs_length (rs : List RecV) : (recs rs).length = rs.length := by simp [recs]
theorem rvs_length (rs : List RecV) : (rvs rs).length = rs.length * 3 := by
  induction rs with
  | nil => rfl
  | cons r rs ih => simp only [rvs, List.map_cons, List.flatten_cons, List.length_append] at ih ⊢; rw [ih]; simp [RecV.cells]; omega
theorem rvs_append (l m : List RecV) : rvs (l ++ m) = rvs l ++ rvs m := by simp [rvs]
theorem rvs_cons (r : RecV) (m : List RecV) : rvs (r :: m) = r.cells ++ rvs m := by simp [rvs]
theorem rvs_one (rs : List RecV) : ∀ u ∈ rvs rs, u.oneCell' = true := by
  intro u hu
  simp only [rvs, List.mem_flatten, List.mem_map] at hu
  obtain ⟨_, ⟨r, _, rfl⟩, hu⟩ := hu
  simp only [RecV.cells, List.mem_cons, List.not_mem_nil, or_false] at hu
  rcases hu with rfl | rfl | rfl <;> rfl
theorem rvs_get : ∀ (rs : List RecV) (i : Nat) (hi : i < rs.length), (rvs rs)[i * 3]? = some (.int .i64 rs[i].kind) ∧ (rvs rs)[i * 3 + 1]? = some (.int .i64 rs[i].seq) ∧ (rvs rs)[i * 3 + 2]? = some (.slice rs[i].d.a rs[i].d.l.length rs[i].d.c)
  | r :: rs, 0, _ => by simp [rvs, RecV.cells]
  | r :: rs, i + 1, hi => by
    have h := rvs_get rs i (by simpa using hi)
    have hl : r.cells.length = 3 := rfl
    rw [rvs_cons]
    refine ⟨?_, ?_, ?_⟩
    · rw [List.getElem?_append_right (by omega), hl, show (i + 1) * 3 - 3 = i * 3 by omega]; exact h.1
    · rw [List.getElem?_append_right (by omega), hl, show (i + 1) * 3 + 1 - 3 = i * 3 + 1 by omega]; exact h.2.1
    · rw [List.getElem?_append_right (by omega), hl, show (i + 1) * 3 + 2 - 3 = i * 3 + 2 by omega]; exact h.2.2
theorem rvs_take (rs : List RecV) (n : Nat) : rvs (rs.take n) = (rvs rs).take (n * 3) := by
  by_cases hn : n ≤ rs.length
  · have h : rvs rs = rvs (rs.take n) ++ rvs (rs.drop n) := by rw [← rvs_append, List.take_append_drop]
    rw [h, List.take_left' (by rw [rvs_length]; simp; omega)]
  · rw [List.take_of_length_le (by omega), List.take_of_length_le (by rw [rvs_length]; omega)]

/-- A slice of records. -/
structure RMat (w : World) (a : Option Addr) (rs : List RecV) : Prop where
  src : Src w a (rvs rs)
  row : ∀ r ∈ rs, r.d.ok w
theorem RMat.ext {w w' : World} {a : Option Addr} {rs : List RecV} (h : RMat w a rs) (hb : Below w.heap.size w w') : RMat w' a rs :=
  ⟨h.src.ext hb, fun r hr => (h.row r hr).ext hb⟩
theorem RMat.nil (w : World) (a : Option Addr) : RMat w a [] := ⟨Src.nil _ _, by simp⟩
theorem RMat.take {w : World} {a : Option Addr} {rs : List RecV} (h : RMat w a rs) (n : Nat) : RMat w a (rs.take n) :=
  ⟨by rw [rvs_take]; exact h.src.take _, fun r hr => h.row r (List.mem_of_mem_take hr)⟩
theorem RMat.at {w : World} {a : Option Addr} {rs : List RecV} (h : RMat w a rs) {i : Nat} (hi : i < rs.length) :
    ∃ b o, a = some ⟨b, o, none⟩ ∧ b < w.heap.size ∧ ∀ j (hj : j < rs.length), w.cell? ⟨b, o + j * 3, none⟩ = some (.int .i64 rs[j].kind) ∧ w.cell? ⟨b, o + j * 3 + 1, none⟩ = some (.int .i64 rs[j].seq) ∧ w.cell? ⟨b, o + j * 3 + 2, none⟩ = some (.slice rs[j].d.a rs[j].d.l.length rs[j].d.c) := by
  have hl := rvs_length rs
  obtain ⟨b, o, ha, hb, hat⟩ := h.src.at (i := i * 3) (by rw [hl]; omega)
  refine ⟨b, o, ha, hb, fun j hj => ?_⟩
  obtain ⟨h0, h1, h2⟩ := rvs_get rs j hj
  have key : ∀ k v, (rvs rs)[k]? = some v → w.cell? ⟨b, o + k, none⟩ = some v := by
    intro k v hk
    have hkl := (List.getElem?_eq_some_iff.1 hk).1
    rw [hat k hkl, ← List.getElem?_eq_getElem hkl, hk]
  exact ⟨key _ _ h0, key _ _ h1, key _ _ h2⟩

/-- In block g stands a record. -/
def RecAt (w : World) (g : Nat) (r : RecV) : Prop := w.heap[g]? = some (.cells #[.int .i64 r.kind, .int .i64 r.seq, .slice r.d.a r.d.l.length r.d.c] 39)
theorem RecAt.new (w : World) (r : RecV) : RecAt (w.alloc (.cells #[.int .i64 r.kind, .int .i64 r.seq, .slice r.d.a r.d.l.length r.d.c] 39)) w.heap.size r := heap_alloc_new w _
theorem RecAt.cells {w : World} {g : Nat} {r : RecV} (h : RecAt w g r) : w.cell? ⟨g, 0, none⟩ = some (.int .i64 r.kind) ∧ w.cell? ⟨g, 1, none⟩ = some (.int .i64 r.seq) ∧ w.cell? ⟨g, 2, none⟩ = some (.slice r.d.a r.d.l.length r.d.c) :=
  ⟨cell_of_row w g 0 _ _ _ h, cell_of_row w g 1 _ _ _ h, cell_of_row w g 2 _ _ _ h⟩
theorem RecAt.ext {w w' : World} {g : Nat} {r : RecV} (h : RecAt w g r) (hb : Below w.heap.size w w') : RecAt w' g r := (hb.block g (heap_lt h)).trans h
theorem RecAt.drewN {w : World} {g : Nat} {r : RecV} (h : RecAt w g r) (n : Nat) : RecAt (w.drewN n) g r := h
theorem RecAt.put (w : World) (z : Array Value) (hz : z.size = 3) (r : RecV) : RecAt ((w.alloc (.cells z 39)).setRow w.heap.size #[.int .i64 r.kind, .int .i64 r.seq, .slice r.d.a r.d.l.length r.d.c]) w.heap.size r :=
  setRow_heap _ _ _ _ _ _ (heap_alloc_new w _)
theorem below_putr (w : World) (z : Array Value) (r : RecV) : Below w.heap.size w ((w.alloc (.cells z 39)).setRow w.heap.size #[.int .i64 r.kind, .int .i64 r.seq, .slice r.d.a r.d.l.length r.d.c]) :=
  bsetRow (ext_alloc w _) (Nat.le_refl _) _
end Go.Proofs.Ytogcejmnhiphgaa
