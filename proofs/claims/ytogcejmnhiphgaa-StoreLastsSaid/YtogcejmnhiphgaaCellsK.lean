/- Worlds in which every row of cells stays as it was (a range over a function writes none): what lies there stays. -/
import Derived.Test.YtogcejmnhiphgaaStoreState
import Derived.Test.YtogcejmnhiphgaaChunk
namespace Go.Proofs.Ytogcejmnhiphgaa
open Go.RowKit

structure CellsK (w w' : World) : Prop where
  size : w.heap.size ≤ w'.heap.size
  cells : ∀ (b : Nat) (cs : Array Value) (T : TypeId) (m : Nat × Nat), w.heap[b]? = some (.cells cs T m) → w'.heap[b]? = some (.cells cs T m)
theorem CellsK.of_grown {w w' : World} {row : Option Nat} (hg : w.grownBy w' row) (hr : ∀ r, row = some r → ∃ o : Obj, w.heap[r]? = some o ∧ o.isCells = false) : CellsK w w' := by
  refine ⟨hg.size, fun b cs T m hb => ?_⟩
  rw [hg.block b (heap_lt hb) (by
    rintro e
    obtain ⟨o, ho, hc⟩ := hr b e.symm
    rw [hb] at ho
    cases ho
    cases hc)]
  exact hb
theorem Own.ck {w w' : World} {B : Nat} {e : TypeId} {k : Nat} {a : Option Addr} {n c : Nat} {xs : List Value} (h : Own w B e k a n c xs) (hk : CellsK w w') : Own w' B e k a n c xs := by
  obtain ⟨hl, h0 | ⟨g, cur, ha, hb, hh, rest⟩⟩ := h
  · exact ⟨hl, .inl h0⟩
  · exact ⟨hl, .inr ⟨g, cur, ha, hb, hk.cells _ _ _ _ hh, rest⟩⟩
theorem Src.ck {w w' : World} {a : Option Addr} {xs : List Value} (h : Src w a xs) (hk : CellsK w w') : Src w' a xs := by
  rcases h with h | ⟨b, o, cs, T, m, ha, hh, ht⟩
  · exact .inl h
  · exact .inr ⟨b, o, cs, T, m, ha, hk.cells _ _ _ _ hh, ht⟩
theorem Held.ck {w w' : World} {K : Nat → Prop} {a : Option Addr} {c : Nat} {l : List Byte} (h : Held w K a c l) (hk : CellsK w w') : Held w' K a c l := ⟨h.1.ck hk, h.2⟩
theorem Pow.ck {B : Nat} {w w' : World} {g : Nat} {s : PS} (h : Pow B w g s) (hk : CellsK w w') : Pow B w' g s := by
  obtain ⟨ka, kc, tp, ⟨h1, h2⟩, ho, hk0, ht⟩ := h
  refine ⟨ka, kc, tp, ⟨h1, hk.cells _ _ _ _ h2⟩, ho.ck hk, hk0, ?_⟩
  generalize s.trip = t at *
  cases t with
  | none => exact ht
  | some t =>
    obtain ⟨n, l, t⟩ := t
    obtain ⟨h, a, c, rfl, ⟨h1, h2⟩, ho, rest⟩ := ht
    exact ⟨h, a, c, rfl, ⟨h1, hk.cells _ _ _ _ h2⟩, ho.ck hk, rest⟩
theorem DiskAt.ck {K : Nat → Prop} {B : Nat} {w w' : World} {g pg : Nat} {d : DS} (h : DiskAt K B w g pg d) (hk : CellsK w w') : DiskAt K B w' g pg d := by
  obtain ⟨sa, sc, ss, na, nc, ns, pa, pc, ps, hc, rest⟩ := h
  exact ⟨sa, sc, ss, na, nc, ns, pa, pc, ps, ⟨hc.low, hk.cells _ _ _ _ hc.obj, hc.safe.ck hk, hc.now.ck hk, hc.pend.ck hk, hc.apart, fun x hx => (hc.secs x hx).ck hk, fun x hx => (hc.wrs x hx).ck hk, hc.pnil⟩, rest⟩
theorem DW.ck {K : Nat → Prop} {B : Nat} {w w' : World} {g pg n : Nat} {d : DS} {p : PS} {m : Nat} (h : DW K B w g pg n d p m) (hk : CellsK w w') : DW K B w' g pg n d p m :=
  ⟨h.disk.ck hk, h.pow.ck hk, h.ok, Nat.le_trans h.base hk.size, h.pend⟩
theorem StA.ck {B : Nat} {w w' : World} {gs g : Nat} {s : List Byte} {cnt : Nat} (h : StA B w gs g s cnt) (hk : CellsK w w') : StA B w' gs g s cnt := by
  obtain ⟨⟨a, c, hh, ho⟩, hb, hl⟩ := h
  exact ⟨⟨a, c, hk.cells _ _ _ _ hh, ho.ck hk⟩, hb, hl⟩

/-- Rows, each filled up to a sector, written one behind the other from a sector on. -/
def wrP (at_ : Nat) : List (List Byte) → DS → PS → Int × DS × PS
  | [], d, p => (0, d, p)
  | r :: rs, d, p => if (d.write p (at_ : Int) (pad r)).1 ≠ 0 then d.write p (at_ : Int) (pad r) else wrP (at_ + 1) rs (d.write p (at_ : Int) (pad r)).2.1 (d.write p (at_ : Int) (pad r)).2.2
/-- One more: behind those that were written. -/
theorem wrP_snoc (r : List Byte) : ∀ (rs : List (List Byte)) (at_ : Nat) (d d' : DS) (p p' : PS), wrP at_ rs d p = (0, d', p') → wrP at_ (rs ++ [r]) d p = d'.write p' ((at_ + rs.length : Nat) : Int) (pad r)
  | [], at_, d, d', p, p', h => by
    simp only [wrP, Prod.mk.injEq, true_and] at h
    obtain ⟨rfl, rfl⟩ := h
    simp only [List.nil_append, wrP, List.length_nil, Nat.add_zero]
    split
    · rfl
    · rename_i h
      have h : (d.write p (at_ : Int) (pad r)).1 = 0 := by simpa using h
      rw [← h]
  | x :: rs, at_, d, d', p, p', h => by
    simp only [wrP] at h
    simp only [List.cons_append, wrP]
    split at h
    · rename_i hne
      rw [h] at hne
      exact absurd rfl hne
    · rename_i hne
      rw [if_neg hne, wrP_snoc r rs (at_ + 1) _ d' _ p' h, List.length_cons, show at_ + 1 + rs.length = at_ + (rs.length + 1) by omega]
/-- What stopped once is what it stays. -/
theorem wrP_stop (more : List (List Byte)) : ∀ (rs : List (List Byte)) (at_ : Nat) (d : DS) (p : PS), (wrP at_ rs d p).1 ≠ 0 → wrP at_ (rs ++ more) d p = wrP at_ rs d p
  | [], at_, d, p, h => absurd rfl h
  | x :: rs, at_, d, p, h => by
    simp only [wrP] at h
    simp only [List.cons_append, wrP]
    split at h
    · rename_i hne
      rw [if_pos hne, if_pos hne]
    · rename_i hne
      rw [if_neg hne, if_neg hne, wrP_stop more rs (at_ + 1) _ _ h]
/-- What Save does to a disk that is awake, and its power. -/
def saveP (d : DS) (p : PS) (cnt : Nat) (b : List Byte) (rows : List (List Byte)) : Int × DS × PS :=
  if (wrP (placeN (cnt + 1)) rows d p).1 ≠ 0 then wrP (placeN (cnt + 1)) rows d p else
  let q := wrP (placeN (cnt + 1)) rows d p
  let s := q.2.1.sync q.2.2
  if s.1 ≠ 0 then s else
  let t := s.2.1.write s.2.2 (((cnt + 1) % 2 : Nat) : Int) (markB (cnt + 1) b.length)
  if t.1 ≠ 0 then t else t.2.1.sync t.2.2
end Go.Proofs.Ytogcejmnhiphgaa
