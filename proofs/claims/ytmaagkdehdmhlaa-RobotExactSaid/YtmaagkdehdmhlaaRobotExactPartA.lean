/- Several texts of this claim, one behind the other: MedPlain, Mod. -/
import Derived.Test.YtmaagkdehdmhlaaBase
/- Tapes, plain. -/
namespace Go.Proofs.Ytmaagkdehdmhlaa

structure CellP where
  kind : Int
  data : List Byte
  bad : Bool
structure Med where
  cap : Int
  cells : List CellP
def rightC (k : Int) (n : Nat) : Bool := decide (k = 1 ∧ 1 ≤ n ∧ n ≤ 256 ∨ k = 2 ∧ n = 0 ∨ k = 3 ∧ n ≤ 256)
def CellP.right (c : CellP) : Bool := rightC c.kind c.data.length
def Med.ok (m : Med) : Bool := decide (1 ≤ m.cap ∧ m.cap ≤ 400 ∧ (m.cells.length : Int) ≤ m.cap) && m.cells.all CellP.right
theorem Med.ok_iff {m : Med} : m.ok = true ↔ (1 ≤ m.cap ∧ m.cap ≤ 400 ∧ (m.cells.length : Int) ≤ m.cap) ∧ ∀ c ∈ m.cells, c.right = true := by
  unfold Med.ok
  rw [Bool.and_eq_true, decide_eq_true_eq, List.all_eq_true]
/-- Why not. -/
def Med.wrong (m : Med) (p : Int) (n : Nat) (block : Bool) : Int :=
  if p < 0 ∨ (m.cells.length : Int) < p then 1 else if block = true ∧ (n < 1 ∨ 256 < n) then 2 else if p = m.cap then 7 else 0
def Med.lay (m : Med) (p : Nat) (c : CellP) : Med := ⟨m.cap, m.cells.take p ++ [c]⟩
def Med.none : Med := ⟨0, []⟩
def Med.write (m : Med) (p : Int) (b : List Byte) : Med × Int :=
  if m.ok = false then (Med.none, 1) else if m.wrong p b.length true ≠ 0 then (Med.none, m.wrong p b.length true) else (m.lay p.toNat ⟨1, b, false⟩, 0)
def Med.tear (m : Med) (p : Int) (b : List Byte) (keep : Int) : Med × Int :=
  if m.ok = false then (Med.none, 1) else if m.wrong p b.length true ≠ 0 then (Med.none, m.wrong p b.length true) else if keep < 0 then (m, 0) else (m.lay p.toNat ⟨3, b.take keep.toNat, false⟩, 0)
def Med.mark (m : Med) (p : Int) : Med × Int :=
  if m.ok = false then (Med.none, 1) else if m.wrong p 0 false ≠ 0 then (Med.none, m.wrong p 0 false) else (m.lay p.toNat ⟨2, [], false⟩, 0)
def Med.end_ (m : Med) (p : Int) : Med × Int :=
  if m.ok = false ∨ p < 0 ∨ (m.cells.length : Int) < p then (Med.none, 1) else (⟨m.cap, m.cells.take p.toNat⟩, 0)
def Med.look (m : Med) (p : Int) : List Byte × Int :=
  if p < 0 ∨ (m.cells.length : Int) ≤ p then ([], 8) else
    match m.cells[p.toNat]? with
    | Option.none => ([], 8)
    | some c => if c.kind = 2 then ([], 15) else if c.kind = 3 ∨ c.bad = true then ([], 6) else (c.data, 0)
def Med.read (m : Med) (p : Int) : List Byte × Int := if m.ok = false then ([], 1) else m.look p
def marks (cs : List CellP) : Nat := cs.countP fun c => decide (c.kind = 2)
def Med.files (m : Med) : Int := if m.ok = false then 0 else (marks m.cells : Int)
/-- The place behind the n-th mark (n > 0): counted from 'at' on. -/
def behind : List CellP → Nat → Int → Int × Int
  | [], _, _ => (0, 8)
  | c :: cs, i, n => if c.kind = 2 then (if n - 1 = 0 then ((i : Int) + 1, 0) else behind cs (i + 1) (n - 1)) else behind cs (i + 1) n
def Med.behind (m : Med) (n : Int) : Int × Int := if n = 0 then (0, 0) else Proofs.Ytmaagkdehdmhlaa.behind m.cells 0 n
def Med.file (m : Med) (n : Int) : Int × Int := if m.ok = false then (0, 1) else m.behind n
end Go.Proofs.Ytmaagkdehdmhlaa

/- A frame by blocks and types: 'Mod F w w'': each block of w is as it was, or one that F lets be written, of the type that it had. -/
namespace Go.Proofs.Ytmaagkdehdmhlaa
open Go.RowKit

structure Mod (F : Nat → TypeId → Prop) (w w' : World) : Prop where
  os : w'.os = w.os
  tape : w'.tape = w.tape
  output : w'.output = w.output
  size : w.heap.size ≤ w'.heap.size
  block : ∀ b, b < w.heap.size → w'.heap[b]? = w.heap[b]? ∨ ∃ cs cs' T, F b T ∧ w.heap[b]? = some (.cells cs T (0, 0)) ∧ w'.heap[b]? = some (.cells cs' T (0, 0))
/-- Blocks from B on, of some types. -/
def inT (B : Nat) (Ts : List TypeId) : Nat → TypeId → Prop := fun b T => B ≤ b ∧ T ∈ Ts

variable {F G : Nat → TypeId → Prop} {w w' a b c : World}
theorem Mod.refl (F : Nat → TypeId → Prop) (w : World) : Mod F w w := ⟨rfl, rfl, rfl, Nat.le_refl _, fun _ _ => .inl rfl⟩
theorem Mod.trans (h : Mod F a b) (k : Mod F b c) : Mod F a c := by
  refine ⟨k.os.trans h.os, k.tape.trans h.tape, k.output.trans h.output, Nat.le_trans h.size k.size, fun i hi => ?_⟩
  rcases h.block i hi with h1 | ⟨cs, cs', T, hf, h1, h2⟩
  · rcases k.block i (Nat.lt_of_lt_of_le hi h.size) with k1 | ⟨ds, ds', T', hf', k1, k2⟩
    · exact .inl (k1.trans h1)
    · exact .inr ⟨ds, ds', T', hf', h1.symm.trans k1, k2⟩
  · rcases k.block i (Nat.lt_of_lt_of_le hi h.size) with k1 | ⟨ds, ds', T', hf', k1, k2⟩
    · exact .inr ⟨cs, cs', T, hf, h1, k1.trans h2⟩
    · rw [h2] at k1
      simp only [Option.some.injEq, Obj.cells.injEq] at k1
      obtain ⟨rfl, rfl, _⟩ := k1
      exact .inr ⟨cs, ds', T, hf, h1, k2⟩
theorem Mod.mono (h : Mod F w w') (hF : ∀ b T, b < w.heap.size → F b T → G b T) : Mod G w w' :=
  ⟨h.os, h.tape, h.output, h.size, fun b hb => (h.block b hb).imp id fun ⟨cs, cs', T, hf, h1, h2⟩ => ⟨cs, cs', T, hF b T hb hf, h1, h2⟩⟩
/-- What only adds to memory. -/
theorem bmod (h : Below w.heap.size w w') (F : Nat → TypeId → Prop) : Mod F w w' := ⟨h.os, h.tape, h.output, h.size, fun b hb => .inl (h.block b hb)⟩
theorem Mod.below (h : Mod F w w') {B : Nat} (hF : ∀ b T, F b T → B ≤ b) (hB : B ≤ w.heap.size) : Below B w w' := by
  refine ⟨h.os, h.tape, h.output, h.size, fun k hk => ?_⟩
  rcases h.block k (by omega) with h1 | ⟨cs, cs', T, hf, _⟩
  · exact h1
  · have := hF k T hf; omega
theorem Mod.setCell {g : Nat} {cs : Array Value} {T : TypeId} (h : Mod F a w) (hg : w.heap[g]? = some (.cells cs T (0, 0))) (hF : F g T) (i : Nat) (v : Value) : Mod F a (w.setCell ⟨g, i, none⟩ v) := by
  refine h.trans ⟨rfl, rfl, rfl, by simp [World.setCell], fun k hk => ?_⟩
  by_cases hkg : k = g
  · subst hkg
    exact .inr ⟨cs, _, T, hF, hg, heap_setCell_same w k i cs T v hg⟩
  · exact .inl (Below.heap_setCell _ _ _ _ hkg)
/-- One block alone is written. -/
theorem Mod.one {B g : Nat} {cs cs' : Array Value} {T : TypeId} (h : Below B w w') (hw : ∀ b, b ≠ g → w'.heap[b]? = w.heap[b]?) (hg : w.heap[g]? = some (.cells cs T (0, 0))) (hg' : w'.heap[g]? = some (.cells cs' T (0, 0))) (hF : F g T) : Mod F w w' := by
  refine ⟨h.os, h.tape, h.output, h.size, fun k hk => ?_⟩
  by_cases hkg : k = g
  · subst hkg; exact .inr ⟨cs, cs', T, hF, hg, hg'⟩
  · exact .inl (hw k hkg)
theorem Mod.ext (h : Mod F a w) (k : Below w.heap.size w w') : Mod F a w' := h.trans (bmod k F)
theorem Mod.keep (h : Mod F w w') {g : Nat} {cs : Array Value} {T : TypeId} {m : Nat × Nat} (hg : w.heap[g]? = some (.cells cs T m)) (hF : ¬ F g T) : w'.heap[g]? = some (.cells cs T m) := by
  rcases h.block g (heap_lt hg) with h1 | ⟨ds, ds', T', hf, h1, _⟩
  · exact h1.trans hg
  · rw [hg] at h1
    simp only [Option.some.injEq, Obj.cells.injEq] at h1
    obtain ⟨_, rfl, _⟩ := h1
    exact absurd hf hF
/-- A block that may be written has a type of F, then as now. -/
theorem Own.mod {B : Nat} {e : TypeId} {k : Nat} {ad : Option Addr} {n c : Nat} {xs : List Value} (h : Own w B e k ad n c xs) (hm : Mod F w w') (hF : ∀ g, ad = some ⟨g, 0, none⟩ → g < w.heap.size → ¬ F g e) : Own w' B e k ad n c xs := by
  obtain ⟨hl, h0 | ⟨g, cur, ha, hb, hh, rest⟩⟩ := h
  · exact ⟨hl, .inl h0⟩
  · exact ⟨hl, .inr ⟨g, cur, ha, hb, hm.keep hh (hF g ha (heap_lt hh)), rest⟩⟩
theorem Src.mod {ad : Option Addr} {xs : List Value} (h : Src w ad xs) (hm : Mod F w w') (hF : ∀ b o T, ad = some ⟨b, o, none⟩ → ¬ F b T) : Src w' ad xs := by
  rcases h with rfl | ⟨b, o, cs, T, m, ha, hh, ht⟩
  · exact .inl rfl
  · exact .inr ⟨b, o, cs, T, m, ha, hm.keep hh (hF b o T ha), ht⟩
/-- A slice of the arguments: it lies below B. -/
theorem Src.low {W : World} {B : Nat} {ad : Option Addr} {xs : List Value} (h : Src W ad xs) (hb : Below B W w) (hB : W.heap.size ≤ B) : Src w ad xs :=
  h.keep fun b _ _ hl => hb.block b (by omega)
/-- Bytes that an object holds: in a block of K, or none. -/
def Held (w : World) (K : Nat → Prop) (a : Option Addr) (c : Nat) (l : List Byte) : Prop := Own w 0 5 1 a l.length c (bvs l) ∧ (l = [] ∧ c = 0 ∨ ∃ g, a = some ⟨g, 0, none⟩ ∧ K g)
theorem Held.nil (w : World) (K : Nat → Prop) (a : Option Addr) : Held w K a 0 [] := ⟨Own.nil _ _ _ _ _, .inl ⟨rfl, rfl⟩⟩
theorem Held.mono {w : World} {K K' : Nat → Prop} {a : Option Addr} {c : Nat} {l : List Byte} (h : Held w K a c l) (hK : ∀ b, b < w.heap.size → K b → K' b) : Held w K' a c l := by
  obtain ⟨h1, h0 | ⟨g, rfl, hg⟩⟩ := h
  · exact ⟨h1, .inl h0⟩
  · obtain ⟨hl, ⟨h2, h3⟩ | ⟨g', cur, ha, hb, hh, rest⟩⟩ := id h1
    · exact ⟨h1, .inl ⟨List.eq_nil_of_length_eq_zero h2, h3⟩⟩
    · simp only [Option.some.injEq, Addr.mk.injEq, and_self, and_true] at ha
      subst ha
      exact ⟨h1, .inr ⟨g, rfl, hK g (heap_lt hh) hg⟩⟩
theorem Held.mod {w w' : World} {F : Nat → TypeId → Prop} {K : Nat → Prop} {a : Option Addr} {c : Nat} {l : List Byte} (h : Held w K a c l) (hm : Mod F w w') (hF : ∀ b, b < w.heap.size → K b → ¬ F b 5) : Held w' K a c l := by
  obtain ⟨h1, ⟨rfl, rfl⟩ | ⟨g, rfl, hg⟩⟩ := h
  · exact Held.nil _ _ _
  · refine ⟨h1.mod hm fun g' hg' hl => ?_, .inr ⟨g, rfl, hg⟩⟩
    simp only [Option.some.injEq, Addr.mk.injEq, and_self, and_true] at hg'
    subst hg'
    exact hF g hl hg
theorem Held.of {w : World} {B : Nat} {K : Nat → Prop} {a : Option Addr} {n c : Nat} {l : List Byte} (h : Own w B 5 1 a n c (bvs l)) (hn : n = l.length) (hK : ∀ b, B ≤ b → K b) : Held w K a c l := by
  subst hn
  refine ⟨h.mono (Nat.zero_le _), ?_⟩
  obtain ⟨hl, ⟨h2, h3⟩ | ⟨g', cur, ha, hb, hh, rest⟩⟩ := h
  · exact .inl ⟨List.eq_nil_of_length_eq_zero h2, h3⟩
  · exact .inr ⟨g', ha, hK g' hb⟩
theorem Own.blk {w : World} {B : Nat} {e : TypeId} {k x o n c : Nat} {xs : List Value} (h : Own w B e k (some ⟨x, o, none⟩) n c xs) (hn : n ≠ 0) : B ≤ x ∧ x < w.heap.size ∧ ∃ cur, w.heap[x]? = some (.cells cur e (0, 0)) := by
  obtain ⟨_, ⟨h0, _⟩ | ⟨g, cur, ha, hb, hh, _⟩⟩ := h
  · exact absurd h0 hn
  · simp only [Option.some.injEq, Addr.mk.injEq, and_true] at ha
    obtain ⟨rfl, _⟩ := ha
    exact ⟨hb, heap_lt hh, cur, hh⟩
end Go.Proofs.Ytmaagkdehdmhlaa
