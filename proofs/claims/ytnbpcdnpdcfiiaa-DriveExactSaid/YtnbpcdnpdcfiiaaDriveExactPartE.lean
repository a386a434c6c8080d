/- Several texts of this claim, one behind the other: BoxM, MedPos. -/
import Derived.Test.YtnbpcdnpdcfiiaaDriveExactPartD
import Derived.Test.YtnbpcdnpdcfiiaaDriveExactPartB
/- A tape in a variable. -/
namespace Go.Proofs.Ytnbpcdnpdcfiiaa
open Go.RowKit


/-- In block g stands a tape. -/
abbrev BoxM (w : World) (g : Nat) (cap : Int) (a : Option Addr) (n c : Nat) : Prop := w.heap[g]? = some (.cells #[.int .i64 cap, .slice a n c] 24 (0, 0))
theorem BoxM.ext {w w' : World} {g : Nat} {cap : Int} {a : Option Addr} {n c : Nat} (h : BoxM w g cap a n c) (hb : Below w.heap.size w w') : BoxM w' g cap a n c := (hb.block g (heap_lt h)).trans h
theorem BoxM.cells {w : World} {g : Nat} {cap : Int} {a : Option Addr} {n c : Nat} (h : BoxM w g cap a n c) : w.cell? ⟨g, 0, none⟩ = some (.int .i64 cap) ∧ w.cell? ⟨g, 1, none⟩ = some (.slice a n c) := ⟨cell_of_row w g 0 _ _ _ h, cell_of_row w g 1 _ _ _ h⟩
end Go.Proofs.Ytnbpcdnpdcfiiaa

/- Where files begin, plain. -/
namespace Go.Proofs.Ytnbpcdnpdcfiiaa

theorem marks_cons (c : CellP) (cs : List CellP) : marks (c :: cs) = marks cs + (if c.kind = 2 then 1 else 0) := by
  unfold marks
  rw [List.countP_cons]
  simp
theorem behind_cons (c : CellP) (cs : List CellP) (i : Nat) (n : Int) : behind (c :: cs) i n = if c.kind = 2 then (if n - 1 = 0 then ((i : Int) + 1, 0) else behind cs (i + 1) (n - 1)) else behind cs (i + 1) n := rfl
theorem behind_some : ∀ (cs : List CellP) (off n : Nat), 1 ≤ n → n ≤ marks cs → ∃ (q : Nat) (h : q < cs.length), behind cs off (n : Int) = (((off + q + 1 : Nat) : Int), (0 : Int)) ∧ cs[q].kind = 2 ∧ marks (cs.take q) = n - 1
  | [], off, n, h1, h2 => by simp [marks] at h2; omega
  | c :: cs, off, n, h1, h2 => by
    rw [marks_cons] at h2
    by_cases hk : c.kind = 2
    · rw [if_pos hk] at h2
      by_cases hn : n = 1
      · subst hn
        refine ⟨0, by simp, ?_, hk, by simp [marks]⟩
        rw [behind_cons, if_pos hk, if_pos (by omega)]
        simp
      · obtain ⟨q, hq, e1, e2, e3⟩ := behind_some cs (off + 1) (n - 1) (by omega) (by omega)
        refine ⟨q + 1, by simp; omega, ?_, by simpa using e2, ?_⟩
        · rw [behind_cons, if_pos hk, if_neg (by omega), show (n : Int) - 1 = ((n - 1 : Nat) : Int) by omega, e1, show off + 1 + q + 1 = off + (q + 1) + 1 by omega]
        · rw [List.take_succ_cons, marks_cons, if_pos hk, e3]; omega
    · rw [if_neg hk] at h2
      obtain ⟨q, hq, e1, e2, e3⟩ := behind_some cs (off + 1) n h1 (by omega)
      refine ⟨q + 1, by simp; omega, ?_, by simpa using e2, ?_⟩
      · rw [behind_cons, if_neg hk, e1, show off + 1 + q + 1 = off + (q + 1) + 1 by omega]
      · rw [List.take_succ_cons, marks_cons, if_neg hk, e3]; omega
theorem behind_none : ∀ (cs : List CellP) (off n : Nat), marks cs < n → behind cs off (n : Int) = (0, 8)
  | [], _, _, _ => rfl
  | c :: cs, off, n, h => by
    rw [marks_cons] at h
    rw [behind_cons]
    by_cases hk : c.kind = 2
    · rw [if_pos hk] at h ⊢
      rw [if_neg (by omega), show (n : Int) - 1 = ((n - 1 : Nat) : Int) by omega, behind_none cs (off + 1) (n - 1) (by omega)]
    · rw [if_neg hk] at h ⊢
      rw [behind_none cs (off + 1) n (by omega)]
theorem marks_append (a b : List CellP) : marks (a ++ b) = marks a + marks b := by unfold marks; rw [List.countP_append]
theorem marks_mono (cs : List CellP) {i j : Nat} (h : i ≤ j) : marks (cs.take i) ≤ marks (cs.take j) := by
  have : cs.take j = cs.take i ++ (cs.drop i).take (j - i) := by
    rw [← List.take_append_drop i (cs.take j), List.take_take, Nat.min_eq_left h, List.drop_take]
  rw [this, marks_append]; omega
theorem marks_succ (cs : List CellP) (q : Nat) (h : q < cs.length) : marks (cs.take (q + 1)) = marks (cs.take q) + (if cs[q].kind = 2 then 1 else 0) := by
  rw [take_succ_list cs q h, marks_append]
  congr 1
  rw [show ([cs[q]] : List CellP) = cs[q] :: [] from rfl, marks_cons]
  simp [marks]
theorem read_mark {m : Med} (hok : m.ok = true) {k : Nat} (h : k < m.cells.length) : (m.read k).2 = 15 ↔ m.cells[k].kind = 2 := by
  have hne : ¬ m.ok = false := by rw [hok]; decide
  unfold Med.read
  rw [if_neg hne]
  unfold Med.look
  rw [if_neg (by omega), Int.toNat_natCast, List.getElem?_eq_getElem h]
  simp only
  by_cases hk : m.cells[k].kind = 2
  · rw [if_pos hk]; simp [hk]
  · rw [if_neg hk]
    split <;> simp [hk]

/-- The places of files. -/
structure Places (m : Med) (P : Nat → Nat) : Prop where
  zero : P 0 = 0
  file : ∀ i, i ≤ marks m.cells → m.file i = ((P i : Int), 0)
  le : ∀ i, i ≤ marks m.cells → P i ≤ m.cells.length
  lt : ∀ i, i + 1 ≤ marks m.cells → P i < P (i + 1)
  mark : ∀ i, i + 1 ≤ marks m.cells → (m.read ((P (i + 1) : Int) - 1)).2 = 15
  none : ∀ i k, i + 1 ≤ marks m.cells → P i ≤ k → k + 1 < P (i + 1) → (m.read (k : Int)).2 ≠ 15
  over : m.file ((marks m.cells : Int) + 1) = (0, 8)
theorem places (m : Med) (hok : m.ok = true) : ∃ P, Places m P := by
  have hne : ¬ m.ok = false := by rw [hok]; decide
  have hex : ∀ i, ∃ q : Nat, (i = 0 ∧ q = 0) ∨ (1 ≤ i ∧ i ≤ marks m.cells ∧ ∃ (h : q - 1 < m.cells.length), 1 ≤ q ∧ behind m.cells 0 (i : Int) = (((q : Nat) : Int), (0 : Int)) ∧ m.cells[q - 1].kind = 2 ∧ marks (m.cells.take (q - 1)) = i - 1) ∨ marks m.cells < i := by
    intro i
    by_cases h0 : i = 0
    · exact ⟨0, .inl ⟨h0, rfl⟩⟩
    · by_cases h1 : i ≤ marks m.cells
      · obtain ⟨q, hq, e1, e2, e3⟩ := behind_some m.cells 0 i (by omega) h1
        refine ⟨q + 1, .inr (.inl ⟨by omega, h1, by simpa using hq, by omega, ?_, by simpa using e2, by simpa using e3⟩)⟩
        rw [e1]; simp
      · exact ⟨0, .inr (.inr (by omega))⟩
  obtain ⟨P, hP⟩ := Classical.axiomOfChoice hex
  have h0 : P 0 = 0 := by rcases hP 0 with ⟨_, h⟩ | ⟨h, _⟩ | h; exact h; omega; omega
  have hpos : ∀ i, 1 ≤ i → i ≤ marks m.cells → ∃ (h : P i - 1 < m.cells.length), 1 ≤ P i ∧ behind m.cells 0 (i : Int) = (((P i : Nat) : Int), (0 : Int)) ∧ m.cells[P i - 1].kind = 2 ∧ marks (m.cells.take (P i - 1)) = i - 1 := by
    intro i h1 h2
    rcases hP i with ⟨h, _⟩ | ⟨_, _, h⟩ | h
    · omega
    · exact h
    · omega
  have hmk : ∀ i, i ≤ marks m.cells → marks (m.cells.take (P i)) = i := by
    intro i hi
    by_cases h1 : i = 0
    · subst h1; rw [h0]; simp [marks]
    · obtain ⟨hl, hp1, _, hk, hm⟩ := hpos i (by omega) hi
      have := marks_succ m.cells (P i - 1) hl
      rw [if_pos hk, hm, show P i - 1 + 1 = P i by omega] at this
      omega
  have hlt : ∀ i, i + 1 ≤ marks m.cells → P i < P (i + 1) := by
    intro i hi
    obtain ⟨hl, hp1, _, hk, hm⟩ := hpos (i + 1) (by omega) hi
    have h1 := hmk i (by omega)
    refine Classical.byContradiction fun hn => ?_
    have := marks_mono m.cells (show P (i + 1) ≤ P i by omega)
    rw [hmk (i + 1) hi, h1] at this
    omega
  refine ⟨P, h0, fun i hi => ?_, fun i hi => ?_, hlt, fun i hi => ?_, fun i k hi hk1 hk2 => ?_, ?_⟩
  · unfold Med.file
    rw [if_neg hne]
    unfold Med.behind
    by_cases h1 : i = 0
    · subst h1; rw [h0]; rfl
    · rw [if_neg (by omega)]
      obtain ⟨_, _, e, _⟩ := hpos i (by omega) hi
      exact e
  · by_cases h1 : i = 0
    · subst h1; rw [h0]; omega
    · obtain ⟨hl, hp1, _⟩ := hpos i (by omega) hi
      omega
  · obtain ⟨hl, hp1, _, hk, _⟩ := hpos (i + 1) (by omega) hi
    have := (read_mark hok hl).2 hk
    rw [show ((P (i + 1) : Nat) : Int) - 1 = ((P (i + 1) - 1 : Nat) : Int) by omega]
    exact this
  · obtain ⟨hl, hp1, _, hk, hm⟩ := hpos (i + 1) (by omega) hi
    have hkl : k < m.cells.length := by omega
    intro h15
    have hk2' := (read_mark hok hkl).1 h15
    have h1 := marks_succ m.cells k hkl
    rw [if_pos hk2'] at h1
    have h2 := marks_mono m.cells hk1
    have h3 := marks_mono m.cells (show k + 1 ≤ P (i + 1) - 1 by omega)
    rw [hmk i (by omega)] at h2
    omega
  · unfold Med.file
    rw [if_neg hne]
    unfold Med.behind
    rw [if_neg (by omega), show ((marks m.cells : Nat) : Int) + 1 = ((marks m.cells + 1 : Nat) : Int) by omega]
    exact behind_none _ _ _ (by omega)
end Go.Proofs.Ytnbpcdnpdcfiiaa
