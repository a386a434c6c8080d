/- Several texts of this claim, one behind the other: MedPos, MedLaw, MedEndsP, TapeAt, MedStaysP. -/
import Derived.Test.YtjngfkkbfkoedaaVolumeFormatsPartA
import Derived.Test.YtjngfkkbfkoedaaVolumeFormatsPartD
import Derived.Test.YtjngfkkbfkoedaaKeepMed
/- Where files begin, plain. -/
namespace Go.Proofs.Ytjngfkkbfkoedaa

theorem marks_cons (c : CellP) (cs : List CellP) : marks (c :: cs) = marks cs + (if c.kind = 2 then 1 else 0) := by
  unfold marks
  rw [List.countP_cons]
  simp
theorem behind_cons (c : CellP) (cs : List CellP) (i : Nat) (n : Int) : behind (c :: cs) i n = if c.kind = 2 then (if n - 1 = 0 then ((i : Int) + 1, 0) else behind cs (i + 1) (n - 1)) else behind cs (i + 1) n := rfl
theorem behind_some : ∀ (cs : List CellP) (off n : Nat), 1 ≤ n → n ≤ marks cs → ∃ (q : Nat) (h : q < cs.length), behind cs off (n : Int) = (((off + q + 1 : Nat) : Int), (0 : Int)) ∧ cs[q].kind = 2 ∧ marks (cs.take q) = n - 1
  | [], off, n, h1, h2 => by simp [marks] at h2; omega
  | c :: cs, off, n, h1, h2 => by
    rw [marks_cons] at h2
    by_cases hk : c.kind = 2
    · rw [if_pos hk] at h2
      by_cases hn : n = 1
      · subst hn
        refine ⟨0, by simp, ?_, hk, by simp [marks]⟩
        rw [behind_cons, if_pos hk, if_pos (by omega)]
        simp
      · obtain ⟨q, hq, e1, e2, e3⟩ := behind_some cs (off + 1) (n - 1) (by omega) (by omega)
        refine ⟨q + 1, by simp; omega, ?_, by simpa using e2, ?_⟩
        · rw [behind_cons, if_pos hk, if_neg (by omega), show (n : Int) - 1 = ((n - 1 : Nat) : Int) by omega, e1, show off + 1 + q + 1 = off + (q + 1) + 1 by omega]
        · rw [List.take_succ_cons, marks_cons, if_pos hk, e3]; omega
    · rw [if_neg hk] at h2
      obtain ⟨q, hq, e1, e2, e3⟩ := behind_some cs (off + 1) n h1 (by omega)
      refine ⟨q + 1, by simp; omega, ?_, by simpa using e2, ?_⟩
      · rw [behind_cons, if_neg hk, e1, show off + 1 + q + 1 = off + (q + 1) + 1 by omega]
      · rw [List.take_succ_cons, marks_cons, if_neg hk, e3]; omega
theorem behind_none : ∀ (cs : List CellP) (off n : Nat), marks cs < n → behind cs off (n : Int) = (0, 8)
  | [], _, _, _ => rfl
  | c :: cs, off, n, h => by
    rw [marks_cons] at h
    rw [behind_cons]
    by_cases hk : c.kind = 2
    · rw [if_pos hk] at h ⊢
      rw [if_neg (by omega), show (n : Int) - 1 = ((n - 1 : Nat) : Int) by omega, behind_none cs (off + 1) (n - 1) (by omega)]
    · rw [if_neg hk] at h ⊢
      rw [behind_none cs (off + 1) n (by omega)]
theorem marks_append (a b : List CellP) : marks (a ++ b) = marks a + marks b := by unfold marks; rw [List.countP_append]
theorem marks_mono (cs : List CellP) {i j : Nat} (h : i ≤ j) : marks (cs.take i) ≤ marks (cs.take j) := by
  have : cs.take j = cs.take i ++ (cs.drop i).take (j - i) := by
    rw [← List.take_append_drop i (cs.take j), List.take_take, Nat.min_eq_left h, List.drop_take]
  rw [this, marks_append]; omega
theorem marks_succ (cs : List CellP) (q : Nat) (h : q < cs.length) : marks (cs.take (q + 1)) = marks (cs.take q) + (if cs[q].kind = 2 then 1 else 0) := by
  rw [take_succ_list cs q h, marks_append]
  congr 1
  rw [show ([cs[q]] : List CellP) = cs[q] :: [] from rfl, marks_cons]
  simp [marks]
theorem read_mark {m : Med} (hok : m.ok = true) {k : Nat} (h : k < m.cells.length) : (m.read k).2 = 15 ↔ m.cells[k].kind = 2 := by
  have hne : ¬ m.ok = false := by rw [hok]; decide
  unfold Med.read
  rw [if_neg hne]
  unfold Med.look
  rw [if_neg (by omega), Int.toNat_natCast, List.getElem?_eq_getElem h]
  simp only
  by_cases hk : m.cells[k].kind = 2
  · rw [if_pos hk]; simp [hk]
  · rw [if_neg hk]
    split <;> simp [hk]

/-- The places of files. -/
structure Places (m : Med) (P : Nat → Nat) : Prop where
  zero : P 0 = 0
  file : ∀ i, i ≤ marks m.cells → m.file i = ((P i : Int), 0)
  le : ∀ i, i ≤ marks m.cells → P i ≤ m.cells.length
  lt : ∀ i, i + 1 ≤ marks m.cells → P i < P (i + 1)
  mark : ∀ i, i + 1 ≤ marks m.cells → (m.read ((P (i + 1) : Int) - 1)).2 = 15
  none : ∀ i k, i + 1 ≤ marks m.cells → P i ≤ k → k + 1 < P (i + 1) → (m.read (k : Int)).2 ≠ 15
  over : m.file ((marks m.cells : Int) + 1) = (0, 8)
theorem places (m : Med) (hok : m.ok = true) : ∃ P, Places m P := by
  have hne : ¬ m.ok = false := by rw [hok]; decide
  have hex : ∀ i, ∃ q : Nat, (i = 0 ∧ q = 0) ∨ (1 ≤ i ∧ i ≤ marks m.cells ∧ ∃ (h : q - 1 < m.cells.length), 1 ≤ q ∧ behind m.cells 0 (i : Int) = (((q : Nat) : Int), (0 : Int)) ∧ m.cells[q - 1].kind = 2 ∧ marks (m.cells.take (q - 1)) = i - 1) ∨ marks m.cells < i := by
    intro i
    by_cases h0 : i = 0
    · exact ⟨0, .inl ⟨h0, rfl⟩⟩
    · by_cases h1 : i ≤ marks m.cells
      · obtain ⟨q, hq, e1, e2, e3⟩ := behind_some m.cells 0 i (by omega) h1
        refine ⟨q + 1, .inr (.inl ⟨by omega, h1, by simpa using hq, by omega, ?_, by simpa using e2, by simpa using e3⟩)⟩
        rw [e1]; simp
      · exact ⟨0, .inr (.inr (by omega))⟩
  obtain ⟨P, hP⟩ := Classical.axiomOfChoice hex
  have h0 : P 0 = 0 := by rcases hP 0 with ⟨_, h⟩ | ⟨h, _⟩ | h; exact h; omega; omega
  have hpos : ∀ i, 1 ≤ i → i ≤ marks m.cells → ∃ (h : P i - 1 < m.cells.length), 1 ≤ P i ∧ behind m.cells 0 (i : Int) = (((P i : Nat) : Int), (0 : Int)) ∧ m.cells[P i - 1].kind = 2 ∧ marks (m.cells.take (P i - 1)) = i - 1 := by
    intro i h1 h2
    rcases hP i with ⟨h, _⟩ | ⟨_, _, h⟩ | h
    · omega
    · exact h
    · omega
  have hmk : ∀ i, i ≤ marks m.cells → marks (m.cells.take (P i)) = i := by
    intro i hi
    by_cases h1 : i = 0
    · subst h1; rw [h0]; simp [marks]
    · obtain ⟨hl, hp1, _, hk, hm⟩ := hpos i (by omega) hi
      have := marks_succ m.cells (P i - 1) hl
      rw [if_pos hk, hm, show P i - 1 + 1 = P i by omega] at this
      omega
  have hlt : ∀ i, i + 1 ≤ marks m.cells → P i < P (i + 1) := by
    intro i hi
    obtain ⟨hl, hp1, _, hk, hm⟩ := hpos (i + 1) (by omega) hi
    have h1 := hmk i (by omega)
    refine Classical.byContradiction fun hn => ?_
    have := marks_mono m.cells (show P (i + 1) ≤ P i by omega)
    rw [hmk (i + 1) hi, h1] at this
    omega
  refine ⟨P, h0, fun i hi => ?_, fun i hi => ?_, hlt, fun i hi => ?_, fun i k hi hk1 hk2 => ?_, ?_⟩
  · unfold Med.file
    rw [if_neg hne]
    unfold Med.behind
    by_cases h1 : i = 0
    · subst h1; rw [h0]; rfl
    · rw [if_neg (by omega)]
      obtain ⟨_, _, e, _⟩ := hpos i (by omega) hi
      exact e
  · by_cases h1 : i = 0
    · subst h1; rw [h0]; omega
    · obtain ⟨hl, hp1, _⟩ := hpos i (by omega) hi
      omega
  · obtain ⟨hl, hp1, _, hk, _⟩ := hpos (i + 1) (by omega) hi
    have := (read_mark hok hl).2 hk
    rw [show ((P (i + 1) : Nat) : Int) - 1 = ((P (i + 1) - 1 : Nat) : Int) by omega]
    exact this
  · obtain ⟨hl, hp1, _, hk, hm⟩ := hpos (i + 1) (by omega) hi
    have hkl : k < m.cells.length := by omega
    intro h15
    have hk2' := (read_mark hok hkl).1 h15
    have h1 := marks_succ m.cells k hkl
    rw [if_pos hk2'] at h1
    have h2 := marks_mono m.cells hk1
    have h3 := marks_mono m.cells (show k + 1 ≤ P (i + 1) - 1 by omega)
    rw [hmk i (by omega)] at h2
    omega
  · unfold Med.file
    rw [if_neg hne]
    unfold Med.behind
    rw [if_neg (by omega), show ((marks m.cells : Nat) : Int) + 1 = ((marks m.cells + 1 : Nat) : Int) by omega]
    exact behind_none _ _ _ (by omega)
end Go.Proofs.Ytjngfkkbfkoedaa

/- cellarerlaw07.Heavy, cellarerref07.Medium. -/
namespace Go.Proofs.Ytjngfkkbfkoedaa
open Go.RowKit

theorem badC_mono (cs : List CellV) (k : Nat) (h : badC (cs.take k) = true) : badC cs = true := by
  rw [badC, List.any_eq_true] at h ⊢
  obtain ⟨x, hx, h⟩ := h
  exact ⟨x, List.mem_of_mem_take hx, h⟩
/-- A tape that the law plays. -/
def LightM (cs : List CellV) : Prop := cs.length ≤ 80 ∧ ∀ x ∈ cs, x.d.l.length ≤ 300

end Go.Proofs.Ytjngfkkbfkoedaa

/- Tapes that are cut, plain. -/
namespace Go.Proofs.Ytjngfkkbfkoedaa
open Go.RowKit

theorem Med.ok_take {m : Med} (h : m.ok = true) (p : Nat) : (Med.mk m.cap (m.cells.take p)).ok = true := by
  rw [Med.ok_iff] at h ⊢
  obtain ⟨⟨h1, h2, h3⟩, h4⟩ := h
  refine ⟨⟨h1, h2, ?_⟩, fun c hc => h4 c (List.mem_of_mem_take hc)⟩
  have : (m.cells.take p).length ≤ m.cells.length := by rw [List.length_take]; omega
  show ((m.cells.take p).length : Int) ≤ m.cap
  omega
theorem Med.end_ok {m : Med} (h : m.ok = true) {p : Nat} (hp : p ≤ m.cells.length) : m.end_ (p : Int) = (⟨m.cap, m.cells.take p⟩, 0) := by
  unfold Med.end_
  rw [if_neg (by rw [h]; simp; omega), Int.toNat_natCast]
theorem Med.read_past {m : Med} (h : m.ok = true) : m.read (m.cells.length : Int) = ([], 8) := by
  unfold Med.read Med.look
  rw [if_neg (by rw [h]; decide), if_pos (.inr (Int.le_refl _))]
theorem Med.files_ok {m : Med} (h : m.ok = true) : m.files = (marks m.cells : Int) := by
  unfold Med.files
  rw [if_neg (by rw [h]; decide)]
/-- What the law says of the cut tapes. -/
structure EndsP (m : Med) (p q : Nat) : Prop where
  e1 : m.end_ (p : Int) = (⟨m.cap, m.cells.take p⟩, 0)
  e2 : (Med.mk m.cap (m.cells.take p)).end_ (q : Int) = (⟨m.cap, m.cells.take q⟩, 0)
  e3 : m.end_ (q : Int) = (⟨m.cap, m.cells.take q⟩, 0)
  rd : (Med.mk m.cap (m.cells.take p)).read (p : Int) = ([], 8)
  fa : (Med.mk m.cap (m.cells.take p)).files = (marks (m.cells.take p) : Int)
  fm : m.files = (marks m.cells : Int)
  le : marks (m.cells.take p) ≤ marks m.cells
theorem endsP {m : Med} (h : m.ok = true) {p q : Nat} (hp : p ≤ m.cells.length) (hq : q ≤ p) : EndsP m p q := by
  have hk := Med.ok_take h p
  have hl : (m.cells.take p).length = p := by rw [List.length_take]; omega
  refine ⟨Med.end_ok h hp, ?_, Med.end_ok h (by omega), ?_, Med.files_ok hk, Med.files_ok h, ?_⟩
  · rw [Med.end_ok hk (by show q ≤ (m.cells.take p).length; omega)]
    show (Med.mk m.cap ((m.cells.take p).take q), (0 : Int)) = _
    rw [List.take_take, Nat.min_eq_left hq]
  · have := Med.read_past hk
    rwa [show (Med.mk m.cap (m.cells.take p)).cells.length = p from hl] at this
  · have := marks_mono m.cells hp
    rwa [List.take_length] at this
end Go.Proofs.Ytjngfkkbfkoedaa

/- A tape in a block; 'none'. -/
namespace Go.Proofs.Ytjngfkkbfkoedaa
open Go.RowKit

/-- In block g stands the tape M. -/
structure TapeAt (w : World) (g : Nat) (M : Med) (a : Option Addr) (k c : Nat) (cs : List CellV) : Prop where
  box : BoxM w g M.cap a k c
  mat : CMat w a cs
  len : k = cs.length
  pls : pls cs = M.cells
  cap : k ≤ c
theorem TapeAt.ext {w w' : World} {g : Nat} {M : Med} {a : Option Addr} {k c : Nat} {cs : List CellV} (h : TapeAt w g M a k c cs) (hb : Below w.heap.size w w') : TapeAt w' g M a k c cs := ⟨h.box.ext hb, h.mat.ext hb, h.len, h.pls, h.cap⟩
theorem TapeAt.of {w : World} {g : Nat} {M : Med} {a : Option Addr} {k c : Nat} {cs : List CellV} (h : TapeAt w g M a k c cs) : medOf M.cap cs = M := by unfold medOf; rw [h.pls]
theorem TapeAt.short {w : World} {g : Nat} {M : Med} {a : Option Addr} {k c : Nat} {cs : List CellV} (h : TapeAt w g M a k c cs) {K : Nat} (hK : ∀ c ∈ M.cells, c.data.length ≤ K) : ∀ x ∈ cs, x.d.l.length ≤ K := short_of h.pls hK
/-- A tape stored into a new variable. -/
theorem TapeAt.new {w : World} {B : Nat} {M : Med} {a : Option Addr} {k c : Nat} {cs : List CellV} (cp : Int) (hcp : M.cap = cp) (h : MedR w B M a k c cs) (hc : k ≤ c) : TapeAt ((w.alloc (.cells #[.int .i64 0, .slice none 0 0] 24)).setRow w.heap.size #[.int .i64 cp, .slice a k c]) w.heap.size M a k c cs ∧
    Below w.heap.size w ((w.alloc (.cells #[.int .i64 0, .slice none 0 0] 24)).setRow w.heap.size #[.int .i64 cp, .slice a k c]) := by
  subst hcp
  have hS := bsetRow (ext_alloc w (.cells #[.int .i64 0, .slice none 0 0] 24)) (Nat.le_refl _) #[.int .i64 M.cap, .slice a k c]
  exact ⟨⟨setRow_heap (w.alloc (.cells #[.int .i64 0, .slice none 0 0] 24)) w.heap.size _ _ _ _ (heap_alloc_new w _), h.mat.ext hS, h.len.symm, h.pls, hc⟩, hS⟩
theorem MedR.size {w : World} {B : Nat} {M : Med} {a : Option Addr} {k c : Nat} {cs : List CellV} (h : MedR w B M a k c cs) : M.cells.length = k := by rw [← h.pls, pls_length, h.len]
end Go.Proofs.Ytjngfkkbfkoedaa

/- Tapes that are written, plain. -/
namespace Go.Proofs.Ytjngfkkbfkoedaa
open Go.RowKit

theorem marks_snoc (cs : List CellP) (x : CellP) : marks (cs ++ [x]) = marks cs + (if x.kind = 2 then 1 else 0) := by
  rw [marks_append, show ([x] : List CellP) = x :: [] from rfl, marks_cons]
  simp [marks]
theorem Med.lay_len {m : Med} {p : Nat} (hp : p ≤ m.cells.length) (x : CellP) : (m.lay p x).cells.length = p + 1 := by
  show (m.cells.take p ++ [x]).length = p + 1
  rw [List.length_append, List.length_take, Nat.min_eq_left hp]; rfl
theorem Med.lay_ok {m : Med} (h : m.ok = true) {p : Nat} (hp : p ≤ m.cells.length) (hc : (p : Int) < m.cap) {x : CellP} (hx : x.right = true) : (m.lay p x).ok = true := by
  have hl := Med.lay_len hp x
  rw [Med.ok_iff] at h ⊢
  obtain ⟨⟨h1, h2, h3⟩, h4⟩ := h
  refine ⟨⟨h1, h2, by rw [hl]; show ((p + 1 : Nat) : Int) ≤ m.cap; omega⟩, fun c hc => ?_⟩
  rcases List.mem_append.1 (show c ∈ m.cells.take p ++ [x] from hc) with h | h
  · exact h4 c (List.mem_of_mem_take h)
  · rw [List.mem_singleton.1 h]; exact hx
theorem Med.read_at {m : Med} (h : m.ok = true) {p : Nat} {x : CellP} (hx : m.cells[p]? = some x) : m.read (p : Int) = (if x.kind = 2 then ([], 15) else if x.kind = 3 ∨ x.bad = true then ([], 6) else (x.data, 0)) := by
  have hl := (List.getElem?_eq_some_iff.1 hx).1
  unfold Med.read Med.look
  rw [if_neg (by rw [h]; decide), if_neg (by omega), Int.toNat_natCast, hx]
theorem Med.lay_get {m : Med} {p : Nat} (hp : p ≤ m.cells.length) (x : CellP) : (m.lay p x).cells[p]? = some x := by
  show (m.cells.take p ++ [x])[p]? = _
  rw [List.getElem?_append_right (by rw [List.length_take]; omega), List.length_take, Nat.min_eq_left hp, Nat.sub_self]; rfl
theorem Med.lay_low {m : Med} {p i : Nat} (hi : i < p) (hp : p ≤ m.cells.length) (x : CellP) : (m.lay p x).cells[i]? = m.cells[i]? := by
  show (m.cells.take p ++ [x])[i]? = _
  rw [List.getElem?_append_left (by rw [List.length_take]; omega), List.getElem?_take, if_pos hi]
theorem Med.read_same {m m' : Med} (h : m.ok = true) (h' : m'.ok = true) {i : Nat} (he : m'.cells[i]? = m.cells[i]?) (hi : i < m.cells.length) : m'.read (i : Int) = m.read (i : Int) := by
  rw [Med.read_at h (List.getElem?_eq_getElem hi), Med.read_at h' (he.trans (List.getElem?_eq_getElem hi))]

/-- What the law says of the tapes written. -/
structure StaysP (m : Med) (cap : Int) (p : Nat) (b : List Byte) (F : Nat) : Prop where
  wr : m.write (p : Int) b = (⟨cap, m.cells.take p ++ [⟨1, b, false⟩]⟩, 0)
  mr : m.mark (p : Int) = (⟨cap, m.cells.take p ++ [⟨2, [], false⟩]⟩, 0)
  en : m.end_ (p : Int) = (⟨cap, m.cells.take p⟩, 0)
  cW : (Med.mk cap (m.cells.take p ++ [⟨1, b, false⟩])).ok = true
  cK : (Med.mk cap (m.cells.take p ++ [⟨2, [], false⟩])).ok = true
  cD : (Med.mk cap (m.cells.take p)).ok = true
  rW : (Med.mk cap (m.cells.take p ++ [⟨1, b, false⟩])).read (p : Int) = (b, 0)
  rK : (Med.mk cap (m.cells.take p ++ [⟨2, [], false⟩])).read (p : Int) = ([], 15)
  rD : (Med.mk cap (m.cells.take p)).read (p : Int) = ([], 8)
  fW : (Med.mk cap (m.cells.take p ++ [⟨1, b, false⟩])).files = (F : Int)
  fK : (Med.mk cap (m.cells.take p ++ [⟨2, [], false⟩])).files = (F : Int) + 1
  fD : (Med.mk cap (m.cells.take p)).files = (F : Int)
  low : ∀ i, i < p → (Med.mk cap (m.cells.take p ++ [⟨1, b, false⟩])).read (i : Int) = m.read (i : Int)
theorem wrong_zero {m : Med} {p : Nat} (hp : p ≤ m.cells.length) (hc : (p : Int) < m.cap) (n : Nat) (blk : Bool) (hn : blk = true → 1 ≤ n ∧ n ≤ 256) : m.wrong (p : Int) n blk = 0 := by
  unfold Med.wrong
  rw [if_neg (by omega), if_neg (by rintro ⟨h1, h2⟩; have := hn h1; omega), if_neg (by omega)]
theorem wrong_full {m : Med} {p : Nat} (hp : p ≤ m.cells.length) (hc : (p : Int) = m.cap) (n : Nat) (blk : Bool) (hn : blk = true → 1 ≤ n ∧ n ≤ 256) : m.wrong (p : Int) n blk = 7 := by
  unfold Med.wrong
  rw [if_neg (by omega), if_neg (by rintro ⟨h1, h2⟩; have := hn h1; omega), if_pos hc]
theorem Med.write_full {m : Med} (h : m.ok = true) {p : Nat} (hp : p ≤ m.cells.length) (hc : (p : Int) = m.cap) {b : List Byte} (hb : 1 ≤ b.length ∧ b.length ≤ 256) : m.write (p : Int) b = (Med.none, 7) := by
  unfold Med.write
  rw [if_neg (by rw [h]; decide), wrong_full hp hc _ _ (fun _ => hb), if_pos (by decide)]
theorem Med.mark_full {m : Med} (h : m.ok = true) {p : Nat} (hp : p ≤ m.cells.length) (hc : (p : Int) = m.cap) : m.mark (p : Int) = (Med.none, 7) := by
  unfold Med.mark
  rw [if_neg (by rw [h]; decide), wrong_full hp hc _ _ (by simp), if_pos (by decide)]
theorem Med.write_ok {m : Med} (h : m.ok = true) {p : Nat} (hp : p ≤ m.cells.length) (hc : (p : Int) < m.cap) {b : List Byte} (hb : 1 ≤ b.length ∧ b.length ≤ 256) : m.write (p : Int) b = (m.lay p ⟨1, b, false⟩, 0) := by
  unfold Med.write
  rw [if_neg (by rw [h]; decide), wrong_zero hp hc _ _ (fun _ => hb), if_neg (by decide), Int.toNat_natCast]
theorem Med.mark_ok {m : Med} (h : m.ok = true) {p : Nat} (hp : p ≤ m.cells.length) (hc : (p : Int) < m.cap) : m.mark (p : Int) = (m.lay p ⟨2, [], false⟩, 0) := by
  unfold Med.mark
  rw [if_neg (by rw [h]; decide), wrong_zero hp hc _ _ (by simp), if_neg (by decide), Int.toNat_natCast]
theorem right_blk {b : List Byte} (hb : 1 ≤ b.length ∧ b.length ≤ 256) : (CellP.mk 1 b false).right = true := by
  unfold CellP.right rightC
  rw [decide_eq_true_eq]
  exact .inl ⟨rfl, hb.1, hb.2⟩
theorem staysP {m : Med} (h : m.ok = true) {p : Nat} (hp : p ≤ m.cells.length) (hc : (p : Int) < m.cap) {b : List Byte} (hb : 1 ≤ b.length ∧ b.length ≤ 256) : StaysP m m.cap p b (marks (m.cells.take p)) := by
  have kW : (m.lay p ⟨1, b, false⟩).ok = true := Med.lay_ok h hp hc (right_blk hb)
  have kK : (m.lay p ⟨2, [], false⟩).ok = true := Med.lay_ok h hp hc (by decide)
  have kD := Med.ok_take h p
  have hl : (m.cells.take p).length = p := by rw [List.length_take]; omega
  refine ⟨Med.write_ok h hp hc hb, Med.mark_ok h hp hc, Med.end_ok h hp, kW, kK, kD, ?_, ?_, ?_, ?_, ?_, Med.files_ok kD, fun i hi => Med.read_same h kW (Med.lay_low hi hp _) (by omega)⟩
  · exact (Med.read_at kW (Med.lay_get hp _)).trans (by simp)
  · exact (Med.read_at kK (Med.lay_get hp _)).trans (by simp)
  · have := Med.read_past kD
    rwa [show (Med.mk m.cap (m.cells.take p)).cells.length = p from hl] at this
  · exact (Med.files_ok kW).trans (by show ((marks (m.cells.take p ++ [_]) : Nat) : Int) = _; rw [marks_snoc]; simp)
  · exact (Med.files_ok kK).trans (by show ((marks (m.cells.take p ++ [_]) : Nat) : Int) = _; rw [marks_snoc]; rfl)

theorem Med.read_short {m : Med} {K : Nat} (h : ∀ c ∈ m.cells, c.data.length ≤ K) (p : Int) : (m.read p).1.length ≤ K := by
  unfold Med.read Med.look
  split
  · exact Nat.zero_le _
  split
  · exact Nat.zero_le _
  split
  · exact Nat.zero_le _
  · rename_i c hc
    split
    · exact Nat.zero_le _
    split
    · exact Nat.zero_le _
    exact h c (List.mem_of_getElem? hc)
end Go.Proofs.Ytjngfkkbfkoedaa
