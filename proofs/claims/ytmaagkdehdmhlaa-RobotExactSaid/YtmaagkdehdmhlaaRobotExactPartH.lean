/- Several texts of this claim, one behind the other: MedEndsP, TapeAt, MedStaysP, TapeO, MRel, Ints, PS. -/
import Derived.Test.YtmaagkdehdmhlaaRobotExactPartF
import Derived.Test.YtmaagkdehdmhlaaRobotExactPartG
import Derived.Test.YtmaagkdehdmhlaaKeepMed
import Derived.Test.YtmaagkdehdmhlaaBase
/- Tapes that are cut, plain. -/
namespace Go.Proofs.Ytmaagkdehdmhlaa
open Go.RowKit

theorem Med.ok_take {m : Med} (h : m.ok = true) (p : Nat) : (Med.mk m.cap (m.cells.take p)).ok = true := by
  rw [Med.ok_iff] at h ⊢
  obtain ⟨⟨h1, h2, h3⟩, h4⟩ := h
  refine ⟨⟨h1, h2, ?_⟩, fun c hc => h4 c (List.mem_of_mem_take hc)⟩
  have : (m.cells.take p).length ≤ m.cells.length := by rw [List.length_take]; omega
  show ((m.cells.take p).length : Int) ≤ m.cap
  omega
theorem Med.end_ok {m : Med} (h : m.ok = true) {p : Nat} (hp : p ≤ m.cells.length) : m.end_ (p : Int) = (⟨m.cap, m.cells.take p⟩, 0) := by
  unfold Med.end_
  rw [if_neg (by rw [h]; simp; omega), Int.toNat_natCast]
theorem Med.read_past {m : Med} (h : m.ok = true) : m.read (m.cells.length : Int) = ([], 8) := by
  unfold Med.read Med.look
  rw [if_neg (by rw [h]; decide), if_pos (.inr (Int.le_refl _))]
theorem Med.files_ok {m : Med} (h : m.ok = true) : m.files = (marks m.cells : Int) := by
  unfold Med.files
  rw [if_neg (by rw [h]; decide)]
/-- What the law says of the cut tapes. -/
structure EndsP (m : Med) (p q : Nat) : Prop where
  e1 : m.end_ (p : Int) = (⟨m.cap, m.cells.take p⟩, 0)
  e2 : (Med.mk m.cap (m.cells.take p)).end_ (q : Int) = (⟨m.cap, m.cells.take q⟩, 0)
  e3 : m.end_ (q : Int) = (⟨m.cap, m.cells.take q⟩, 0)
  rd : (Med.mk m.cap (m.cells.take p)).read (p : Int) = ([], 8)
  fa : (Med.mk m.cap (m.cells.take p)).files = (marks (m.cells.take p) : Int)
  fm : m.files = (marks m.cells : Int)
  le : marks (m.cells.take p) ≤ marks m.cells
theorem endsP {m : Med} (h : m.ok = true) {p q : Nat} (hp : p ≤ m.cells.length) (hq : q ≤ p) : EndsP m p q := by
  have hk := Med.ok_take h p
  have hl : (m.cells.take p).length = p := by rw [List.length_take]; omega
  refine ⟨Med.end_ok h hp, ?_, Med.end_ok h (by omega), ?_, Med.files_ok hk, Med.files_ok h, ?_⟩
  · rw [Med.end_ok hk (by show q ≤ (m.cells.take p).length; omega)]
    show (Med.mk m.cap ((m.cells.take p).take q), (0 : Int)) = _
    rw [List.take_take, Nat.min_eq_left hq]
  · have := Med.read_past hk
    rwa [show (Med.mk m.cap (m.cells.take p)).cells.length = p from hl] at this
  · have := marks_mono m.cells hp
    rwa [List.take_length] at this
end Go.Proofs.Ytmaagkdehdmhlaa

/- A tape in a block; 'none'. -/
namespace Go.Proofs.Ytmaagkdehdmhlaa
open Go.RowKit

/-- In block g stands the tape M. -/
structure TapeAt (w : World) (g : Nat) (M : Med) (a : Option Addr) (k c : Nat) (cs : List CellV) : Prop where
  box : BoxM w g M.cap a k c
  mat : CMat w a cs
  len : k = cs.length
  pls : pls cs = M.cells
  cap : k ≤ c
theorem TapeAt.ext {w w' : World} {g : Nat} {M : Med} {a : Option Addr} {k c : Nat} {cs : List CellV} (h : TapeAt w g M a k c cs) (hb : Below w.heap.size w w') : TapeAt w' g M a k c cs := ⟨h.box.ext hb, h.mat.ext hb, h.len, h.pls, h.cap⟩
theorem TapeAt.of {w : World} {g : Nat} {M : Med} {a : Option Addr} {k c : Nat} {cs : List CellV} (h : TapeAt w g M a k c cs) : medOf M.cap cs = M := by unfold medOf; rw [h.pls]
theorem TapeAt.short {w : World} {g : Nat} {M : Med} {a : Option Addr} {k c : Nat} {cs : List CellV} (h : TapeAt w g M a k c cs) {K : Nat} (hK : ∀ c ∈ M.cells, c.data.length ≤ K) : ∀ x ∈ cs, x.d.l.length ≤ K := short_of h.pls hK
/-- A tape stored into a new variable. -/
theorem TapeAt.new {w : World} {B : Nat} {M : Med} {a : Option Addr} {k c : Nat} {cs : List CellV} (cp : Int) (hcp : M.cap = cp) (h : MedR w B M a k c cs) (hc : k ≤ c) : TapeAt ((w.alloc (.cells #[.int .i64 0, .slice none 0 0] 45)).setRow w.heap.size #[.int .i64 cp, .slice a k c]) w.heap.size M a k c cs ∧
    Below w.heap.size w ((w.alloc (.cells #[.int .i64 0, .slice none 0 0] 45)).setRow w.heap.size #[.int .i64 cp, .slice a k c]) := by
  subst hcp
  have hS := bsetRow (ext_alloc w (.cells #[.int .i64 0, .slice none 0 0] 45)) (Nat.le_refl _) #[.int .i64 M.cap, .slice a k c]
  exact ⟨⟨setRow_heap (w.alloc (.cells #[.int .i64 0, .slice none 0 0] 45)) w.heap.size _ _ _ _ (heap_alloc_new w _), h.mat.ext hS, h.len.symm, h.pls, hc⟩, hS⟩
theorem MedR.size {w : World} {B : Nat} {M : Med} {a : Option Addr} {k c : Nat} {cs : List CellV} (h : MedR w B M a k c cs) : M.cells.length = k := by rw [← h.pls, pls_length, h.len]
end Go.Proofs.Ytmaagkdehdmhlaa

/- Tapes that are written, plain. -/
namespace Go.Proofs.Ytmaagkdehdmhlaa
open Go.RowKit

theorem marks_snoc (cs : List CellP) (x : CellP) : marks (cs ++ [x]) = marks cs + (if x.kind = 2 then 1 else 0) := by
  rw [marks_append, show ([x] : List CellP) = x :: [] from rfl, marks_cons]
  simp [marks]
theorem Med.lay_len {m : Med} {p : Nat} (hp : p ≤ m.cells.length) (x : CellP) : (m.lay p x).cells.length = p + 1 := by
  show (m.cells.take p ++ [x]).length = p + 1
  rw [List.length_append, List.length_take, Nat.min_eq_left hp]; rfl
theorem Med.lay_ok {m : Med} (h : m.ok = true) {p : Nat} (hp : p ≤ m.cells.length) (hc : (p : Int) < m.cap) {x : CellP} (hx : x.right = true) : (m.lay p x).ok = true := by
  have hl := Med.lay_len hp x
  rw [Med.ok_iff] at h ⊢
  obtain ⟨⟨h1, h2, h3⟩, h4⟩ := h
  refine ⟨⟨h1, h2, by rw [hl]; show ((p + 1 : Nat) : Int) ≤ m.cap; omega⟩, fun c hc => ?_⟩
  rcases List.mem_append.1 (show c ∈ m.cells.take p ++ [x] from hc) with h | h
  · exact h4 c (List.mem_of_mem_take h)
  · rw [List.mem_singleton.1 h]; exact hx
theorem Med.read_at {m : Med} (h : m.ok = true) {p : Nat} {x : CellP} (hx : m.cells[p]? = some x) : m.read (p : Int) = (if x.kind = 2 then ([], 15) else if x.kind = 3 ∨ x.bad = true then ([], 6) else (x.data, 0)) := by
  have hl := (List.getElem?_eq_some_iff.1 hx).1
  unfold Med.read Med.look
  rw [if_neg (by rw [h]; decide), if_neg (by omega), Int.toNat_natCast, hx]
theorem Med.lay_get {m : Med} {p : Nat} (hp : p ≤ m.cells.length) (x : CellP) : (m.lay p x).cells[p]? = some x := by
  show (m.cells.take p ++ [x])[p]? = _
  rw [List.getElem?_append_right (by rw [List.length_take]; omega), List.length_take, Nat.min_eq_left hp, Nat.sub_self]; rfl
theorem Med.lay_low {m : Med} {p i : Nat} (hi : i < p) (hp : p ≤ m.cells.length) (x : CellP) : (m.lay p x).cells[i]? = m.cells[i]? := by
  show (m.cells.take p ++ [x])[i]? = _
  rw [List.getElem?_append_left (by rw [List.length_take]; omega), List.getElem?_take, if_pos hi]
theorem Med.read_same {m m' : Med} (h : m.ok = true) (h' : m'.ok = true) {i : Nat} (he : m'.cells[i]? = m.cells[i]?) (hi : i < m.cells.length) : m'.read (i : Int) = m.read (i : Int) := by
  rw [Med.read_at h (List.getElem?_eq_getElem hi), Med.read_at h' (he.trans (List.getElem?_eq_getElem hi))]

/-- What the law says of the tapes written. -/
structure StaysP (m : Med) (cap : Int) (p : Nat) (b : List Byte) (F : Nat) : Prop where
  wr : m.write (p : Int) b = (⟨cap, m.cells.take p ++ [⟨1, b, false⟩]⟩, 0)
  mr : m.mark (p : Int) = (⟨cap, m.cells.take p ++ [⟨2, [], false⟩]⟩, 0)
  en : m.end_ (p : Int) = (⟨cap, m.cells.take p⟩, 0)
  cW : (Med.mk cap (m.cells.take p ++ [⟨1, b, false⟩])).ok = true
  cK : (Med.mk cap (m.cells.take p ++ [⟨2, [], false⟩])).ok = true
  cD : (Med.mk cap (m.cells.take p)).ok = true
  rW : (Med.mk cap (m.cells.take p ++ [⟨1, b, false⟩])).read (p : Int) = (b, 0)
  rK : (Med.mk cap (m.cells.take p ++ [⟨2, [], false⟩])).read (p : Int) = ([], 15)
  rD : (Med.mk cap (m.cells.take p)).read (p : Int) = ([], 8)
  fW : (Med.mk cap (m.cells.take p ++ [⟨1, b, false⟩])).files = (F : Int)
  fK : (Med.mk cap (m.cells.take p ++ [⟨2, [], false⟩])).files = (F : Int) + 1
  fD : (Med.mk cap (m.cells.take p)).files = (F : Int)
  low : ∀ i, i < p → (Med.mk cap (m.cells.take p ++ [⟨1, b, false⟩])).read (i : Int) = m.read (i : Int)
theorem wrong_zero {m : Med} {p : Nat} (hp : p ≤ m.cells.length) (hc : (p : Int) < m.cap) (n : Nat) (blk : Bool) (hn : blk = true → 1 ≤ n ∧ n ≤ 256) : m.wrong (p : Int) n blk = 0 := by
  unfold Med.wrong
  rw [if_neg (by omega), if_neg (by rintro ⟨h1, h2⟩; have := hn h1; omega), if_neg (by omega)]
theorem wrong_full {m : Med} {p : Nat} (hp : p ≤ m.cells.length) (hc : (p : Int) = m.cap) (n : Nat) (blk : Bool) (hn : blk = true → 1 ≤ n ∧ n ≤ 256) : m.wrong (p : Int) n blk = 7 := by
  unfold Med.wrong
  rw [if_neg (by omega), if_neg (by rintro ⟨h1, h2⟩; have := hn h1; omega), if_pos hc]
theorem Med.write_full {m : Med} (h : m.ok = true) {p : Nat} (hp : p ≤ m.cells.length) (hc : (p : Int) = m.cap) {b : List Byte} (hb : 1 ≤ b.length ∧ b.length ≤ 256) : m.write (p : Int) b = (Med.none, 7) := by
  unfold Med.write
  rw [if_neg (by rw [h]; decide), wrong_full hp hc _ _ (fun _ => hb), if_pos (by decide)]
theorem Med.mark_full {m : Med} (h : m.ok = true) {p : Nat} (hp : p ≤ m.cells.length) (hc : (p : Int) = m.cap) : m.mark (p : Int) = (Med.none, 7) := by
  unfold Med.mark
  rw [if_neg (by rw [h]; decide), wrong_full hp hc _ _ (by simp), if_pos (by decide)]
theorem Med.write_ok {m : Med} (h : m.ok = true) {p : Nat} (hp : p ≤ m.cells.length) (hc : (p : Int) < m.cap) {b : List Byte} (hb : 1 ≤ b.length ∧ b.length ≤ 256) : m.write (p : Int) b = (m.lay p ⟨1, b, false⟩, 0) := by
  unfold Med.write
  rw [if_neg (by rw [h]; decide), wrong_zero hp hc _ _ (fun _ => hb), if_neg (by decide), Int.toNat_natCast]
theorem Med.mark_ok {m : Med} (h : m.ok = true) {p : Nat} (hp : p ≤ m.cells.length) (hc : (p : Int) < m.cap) : m.mark (p : Int) = (m.lay p ⟨2, [], false⟩, 0) := by
  unfold Med.mark
  rw [if_neg (by rw [h]; decide), wrong_zero hp hc _ _ (by simp), if_neg (by decide), Int.toNat_natCast]
theorem right_blk {b : List Byte} (hb : 1 ≤ b.length ∧ b.length ≤ 256) : (CellP.mk 1 b false).right = true := by
  unfold CellP.right rightC
  rw [decide_eq_true_eq]
  exact .inl ⟨rfl, hb.1, hb.2⟩
theorem staysP {m : Med} (h : m.ok = true) {p : Nat} (hp : p ≤ m.cells.length) (hc : (p : Int) < m.cap) {b : List Byte} (hb : 1 ≤ b.length ∧ b.length ≤ 256) : StaysP m m.cap p b (marks (m.cells.take p)) := by
  have kW : (m.lay p ⟨1, b, false⟩).ok = true := Med.lay_ok h hp hc (right_blk hb)
  have kK : (m.lay p ⟨2, [], false⟩).ok = true := Med.lay_ok h hp hc (by decide)
  have kD := Med.ok_take h p
  have hl : (m.cells.take p).length = p := by rw [List.length_take]; omega
  refine ⟨Med.write_ok h hp hc hb, Med.mark_ok h hp hc, Med.end_ok h hp, kW, kK, kD, ?_, ?_, ?_, ?_, ?_, Med.files_ok kD, fun i hi => Med.read_same h kW (Med.lay_low hi hp _) (by omega)⟩
  · exact (Med.read_at kW (Med.lay_get hp _)).trans (by simp)
  · exact (Med.read_at kK (Med.lay_get hp _)).trans (by simp)
  · have := Med.read_past kD
    rwa [show (Med.mk m.cap (m.cells.take p)).cells.length = p from hl] at this
  · exact (Med.files_ok kW).trans (by show ((marks (m.cells.take p ++ [_]) : Nat) : Int) = _; rw [marks_snoc]; simp)
  · exact (Med.files_ok kK).trans (by show ((marks (m.cells.take p ++ [_]) : Nat) : Int) = _; rw [marks_snoc]; rfl)

theorem Med.read_short {m : Med} {K : Nat} (h : ∀ c ∈ m.cells, c.data.length ≤ K) (p : Int) : (m.read p).1.length ≤ K := by
  unfold Med.read Med.look
  split
  · exact Nat.zero_le _
  split
  · exact Nat.zero_le _
  split
  · exact Nat.zero_le _
  · rename_i c hc
    split
    · exact Nat.zero_le _
    split
    · exact Nat.zero_le _
    exact h c (List.mem_of_getElem? hc)
end Go.Proofs.Ytmaagkdehdmhlaa

/- A tape of the call's own in a variable. -/
namespace Go.Proofs.Ytmaagkdehdmhlaa
open Go.RowKit

/-- In block g stands the tape M, all of whose memory is the call's own. -/
structure TapeO (w : World) (B g : Nat) (M : Med) (a : Option Addr) (k c : Nat) (cs : List CellV) : Prop where
  box : BoxM w g M.cap a k c
  r : MedR w B M a k c cs
  cap : k ≤ c
theorem TapeO.ext {w w' : World} {B g : Nat} {M : Med} {a : Option Addr} {k c : Nat} {cs : List CellV} (h : TapeO w B g M a k c cs) (hb : Below w.heap.size w w') : TapeO w' B g M a k c cs := ⟨h.box.ext hb, h.r.ext hb, h.cap⟩
theorem TapeO.at {w : World} {B g : Nat} {M : Med} {a : Option Addr} {k c : Nat} {cs : List CellV} (h : TapeO w B g M a k c cs) : TapeAt w g M a k c cs := ⟨h.box, h.r.mat, h.r.len.symm, h.r.pls, h.cap⟩
theorem TapeO.other {w : World} {B g g' : Nat} {M : Med} {a : Option Addr} {k c : Nat} {cs : List CellV} {old new : Array Value} (h : TapeO w B g M a k c cs) (hg : w.heap[g']? = some (.cells old 45 (0, 0))) (hne : g ≠ g') : TapeO (w.setRow g' new) B g M a k c cs :=
  ⟨(setRow_other w g' g _ hne).trans h.box, h.r.setRow hg, h.cap⟩
theorem TapeO.put {w : World} {B g : Nat} {M : Med} {a : Option Addr} {k c : Nat} {cs : List CellV} {old : Array Value} (cp : Int) (hcp : M.cap = cp) (h : MedR w B M a k c cs) (hc : k ≤ c) (hg : w.heap[g]? = some (.cells old 45 (0, 0))) : TapeO (w.setRow g #[.int .i64 cp, .slice a k c]) B g M a k c cs := by
  subst hcp
  exact ⟨setRow_heap w g _ _ _ _ hg, h.setRow hg, hc⟩
theorem TapeO.mono {w : World} {B B' g : Nat} {M : Med} {a : Option Addr} {k c : Nat} {cs : List CellV} (h : TapeO w B g M a k c cs) (hB : B' ≤ B) : TapeO w B' g M a k c cs := ⟨h.box, h.r.mono hB, h.cap⟩

/- Tapes that grow. -/
def cellOf (b : List Byte) : CellP := if b.length = 0 then ⟨2, [], false⟩ else ⟨1, b, false⟩
def grown (size : Int) (ps : List Bsl) : Med := ⟨size, ps.map fun p => cellOf p.l⟩
theorem grown_len (size : Int) (ps : List Bsl) : (grown size ps).cells.length = ps.length := List.length_map _
theorem cellOf_right {b : List Byte} (h : b.length ≤ 256) : (cellOf b).right = true := by
  unfold cellOf
  split
  · decide
  · exact right_blk ⟨by omega, h⟩
theorem grown_ok {size : Int} {ps : List Bsl} (h1 : 1 ≤ size) (h2 : size ≤ 400) (hl : (ps.length : Int) ≤ size) (hs : ∀ p ∈ ps, p.l.length ≤ 256) : (grown size ps).ok = true := by
  rw [Med.ok_iff]
  refine ⟨⟨h1, h2, by rw [grown_len]; exact hl⟩, fun c hc => ?_⟩
  obtain ⟨p, hp, rfl⟩ := List.mem_map.1 hc
  exact cellOf_right (hs p hp)
theorem grown_step {size : Int} {ps : List Bsl} {k : Nat} (hk : k < ps.length) : (Med.mk size (((ps.take k).map fun p => cellOf p.l) ++ [cellOf ps[k].l])) = grown size (ps.take (k + 1)) := by
  unfold grown
  rw [take_succ_list ps k hk, List.map_append]
  rfl
theorem grown_take {size : Int} {ps : List Bsl} {k : Nat} (hk : k ≤ ps.length) (x : CellP) : (grown size (ps.take k)).lay k x = ⟨size, ((ps.take k).map fun p => cellOf p.l) ++ [x]⟩ := by
  unfold Med.lay grown
  show Med.mk size ((((ps.take k).map fun p => cellOf p.l)).take k ++ [x]) = _
  rw [List.take_of_length_le (by rw [List.length_map, List.length_take]; omega)]
theorem Med.tear_ok {m : Med} (h : m.ok = true) {p : Nat} (hp : p ≤ m.cells.length) (hc : (p : Int) < m.cap) {b : List Byte} (hb : 1 ≤ b.length ∧ b.length ≤ 256) (keep : Int) : m.tear (p : Int) b keep = (if keep < 0 then m else m.lay p ⟨3, b.take keep.toNat, false⟩, 0) := by
  unfold Med.tear
  rw [if_neg (by rw [h]; decide), wrong_zero hp hc _ _ (fun _ => hb), if_neg (by decide), Int.toNat_natCast]
  split <;> rfl
theorem Med.tear_full {m : Med} (h : m.ok = true) {p : Nat} (hp : p ≤ m.cells.length) (hc : (p : Int) = m.cap) {b : List Byte} (hb : 1 ≤ b.length ∧ b.length ≤ 256) (keep : Int) : m.tear (p : Int) b keep = (Med.none, 7) := by
  unfold Med.tear
  rw [if_neg (by rw [h]; decide), wrong_full hp hc _ _ (fun _ => hb), if_pos (by decide)]
/-- A round of the law, ahead of the end of the tape: what tearing, reading, writing tell. -/
theorem grow_torn {m : Med} (h : m.ok = true) {p : Nat} (hp : p = m.cells.length) (hc : (p : Int) < m.cap) {b : List Byte} (hb : 1 ≤ b.length ∧ b.length ≤ 256) {keep : Int} {T : Med} {E : Int} (ht : m.tear (p : Int) b keep = (T, E)) :
    E = 0 ∧ T.write (p : Int) b = (m.lay p ⟨1, b, false⟩, 0) ∧ T.read (p : Int) = ([], if keep < 0 then 8 else 6) := by
  rw [Med.tear_ok h (by omega) hc hb] at ht
  simp only [Prod.mk.injEq] at ht
  obtain ⟨rfl, rfl⟩ := ht
  refine ⟨rfl, ?_⟩
  by_cases hk : keep < 0
  · rw [if_pos hk, if_pos hk]
    exact ⟨Med.write_ok h (by omega) hc hb, by rw [hp]; exact Med.read_past h⟩
  · rw [if_neg hk, if_neg hk]
    have hr : (CellP.mk 3 (b.take keep.toNat) false).right = true := by
      unfold CellP.right rightC
      rw [decide_eq_true_eq]
      exact .inr (.inr ⟨rfl, by show (b.take keep.toNat).length ≤ 256; rw [List.length_take]; omega⟩)
    have hk2 := Med.lay_ok h (p := p) (by omega) hc hr
    have hl := Med.lay_len (m := m) (p := p) (by omega) ⟨3, b.take keep.toNat, false⟩
    refine ⟨(Med.write_ok hk2 (by omega) hc hb).trans ?_, (Med.read_at hk2 (Med.lay_get (by omega) _)).trans (by simp)⟩
    show (Med.mk m.cap ((m.cells.take p ++ [_]).take p ++ [_]), (0 : Int)) = (Med.mk m.cap (m.cells.take p ++ [_]), 0)
    rw [List.take_append_of_le_length (by rw [List.length_take]; omega), List.take_take, Nat.min_self]
end Go.Proofs.Ytmaagkdehdmhlaa

/- What a store of a tape leaves: all but tapes' own variables (K). -/
namespace Go.Proofs.Ytmaagkdehdmhlaa
open Go.RowKit

structure MRel (K : Nat → Prop) (w1 w2 : World) : Prop where
  mod : Mod (fun b T => K b ∧ T = 45) w1 w2
  row : ∀ (b : Nat) (cs : Array Value), w1.heap[b]? = some (.cells cs 45 (0, 0)) → ∃ cs', w2.heap[b]? = some (.cells cs' 45 (0, 0)) ∧ cs'.size = cs.size
theorem MRel.rel (K : Nat → Prop) : Trel (MRel K) := by
  refine ⟨fun h k => ⟨h.mod.trans k.mod, fun b cs hc => ?_⟩, fun h => ⟨bmod h _, fun b cs hc => ⟨cs, (h.block b (heap_lt hc)).trans hc, rfl⟩⟩⟩
  obtain ⟨cs1, h1, e1⟩ := h.row b cs hc
  obtain ⟨cs2, h2, e2⟩ := k.row b cs1 h1
  exact ⟨cs2, h2, e2.trans e1⟩
theorem MRel.size {K : Nat → Prop} {w1 w2 : World} (h : MRel K w1 w2) : w1.heap.size ≤ w2.heap.size := h.mod.size
theorem MRel.keep {K : Nat → Prop} {w1 w2 : World} (h : MRel K w1 w2) {b : Nat} (hb : b < w1.heap.size) (hk : ¬ K b) : w2.heap[b]? = w1.heap[b]? := by
  rcases h.mod.block b hb with h | ⟨_, _, _, ⟨h, _⟩, _⟩
  · exact h
  · exact absurd h hk
theorem MRel.set {K : Nat → Prop} {w : World} {x : Nat} {old new : Array Value} (hx : K x) (hc : w.heap[x]? = some (.cells old 45 (0, 0))) (hs : old.size = new.size) : MRel K w (w.setRow x new) := by
  refine ⟨Mod.one (bsetRow (Below.refl x _) (Nat.le_refl _) _) (fun b hb => setRow_other w _ b _ hb) hc (setRow_heap w _ _ _ _ _ hc) ⟨hx, rfl⟩, fun b cs hb => ?_⟩
  by_cases hbx : b = x
  · subst hbx
    rw [hc] at hb
    simp only [Option.some.injEq, Obj.cells.injEq] at hb
    obtain ⟨rfl, _⟩ := hb
    exact ⟨new, setRow_heap w b _ _ _ _ hc, hs.symm⟩
  · exact ⟨cs, (setRow_other w x b _ hbx).trans hb, rfl⟩
theorem MedR.mrel {K : Nat → Prop} {w w' : World} {B : Nat} {M : Med} {a : Option Addr} {k c : Nat} {cs : List CellV} (h : MedR w B M a k c cs) (hm : MRel K w w') : MedR w' B M a k c cs :=
  ⟨h.own.mod hm.mod fun b T hf => ⟨fun h => by have := hf.2; subst h; revert this; decide, fun h => by have := hf.2; subst h; revert this; decide⟩, h.len, h.pls⟩
/-- An answer's tape, with its error, with nothing else. -/
def AnsT (B : Nat) (M : Med) (E : Int) (w : World) (v : Value) : Prop := ∃ a k c cs, v = .tuple #[.agg #[.int .i64 M.cap, .slice a k c], .int .i64 E] ∧ MedR w B M a k c cs ∧ k ≤ c
def AnsM (B : Nat) (M : Med) (w : World) (v : Value) : Prop := ∃ a k c cs, v = .agg #[.int .i64 M.cap, .slice a k c] ∧ MedR w B M a k c cs ∧ k ≤ c
theorem AnsT.st {K : Nat → Prop} {B : Nat} {M : Med} {E : Int} (w w' : World) (v : Value) (h : AnsT B M E w v) (hm : MRel K w w') : AnsT B M E w' v := by
  obtain ⟨a, k, c, cs, e, h, hk⟩ := h
  exact ⟨a, k, c, cs, e, h.mrel hm, hk⟩
theorem AnsM.st {K : Nat → Prop} {B : Nat} {M : Med} (w w' : World) (v : Value) (h : AnsM B M w v) (hm : MRel K w w') : AnsM B M w' v := by
  obtain ⟨a, k, c, cs, e, h, hk⟩ := h
  exact ⟨a, k, c, cs, e, h.mrel hm, hk⟩
/-- A new variable for a tape. -/
def NewV (W : Nat) (w : World) (v : Value) : Prop := ∃ x, v = .pointer (some ⟨x, 0, none⟩) ∧ W ≤ x ∧ ∃ (cs : Array Value), w.heap[x]? = some (.cells cs 45 (0, 0)) ∧ cs.size = 2
theorem NewV.st {K : Nat → Prop} {W : Nat} (w w' : World) (v : Value) (h : NewV W w v) (hm : MRel K w w') : NewV W w' v := by
  obtain ⟨x, e, hx, cs, hc, hs⟩ := h
  obtain ⟨cs', h1, h2⟩ := hm.row x cs hc
  exact ⟨x, e, hx, cs', h1, h2.trans hs⟩
end Go.Proofs.Ytmaagkdehdmhlaa

/- Lists of numbers and of booleans. -/
namespace Go.Proofs.Ytmaagkdehdmhlaa
open Go.RowKit

def ivs (zs : List Int) : List Value := zs.map (Value.int .i64)
def bovs (bs : List Bool) : List Value := bs.map Value.bool
theorem ivs_length (zs : List Int) : (ivs zs).length = zs.length := by simp [ivs]
theorem bovs_length (zs : List Bool) : (bovs zs).length = zs.length := by simp [bovs]
theorem src_ints_at {w : World} {a : Option Addr} {zs : List Int} (h : Src w a (ivs zs)) {i : Nat} (hi : i < zs.length) :
    ∃ b o, a = some ⟨b, o, none⟩ ∧ b < w.heap.size ∧ ∀ j (hj : j < zs.length), w.cell? ⟨b, o + j, none⟩ = some (.int .i64 zs[j]) := by
  obtain ⟨b, o, ha, hlt, hat⟩ := h.at (i := i) (by simpa [ivs] using hi)
  refine ⟨b, o, ha, hlt, fun j hj => ?_⟩
  rw [hat j (by simpa [ivs] using hj)]
  simp [ivs]
theorem src_bools_at {w : World} {a : Option Addr} {zs : List Bool} (h : Src w a (bovs zs)) {i : Nat} (hi : i < zs.length) :
    ∃ b o, a = some ⟨b, o, none⟩ ∧ b < w.heap.size ∧ ∀ j (hj : j < zs.length), w.cell? ⟨b, o + j, none⟩ = some (.bool zs[j]) := by
  obtain ⟨b, o, ha, hlt, hat⟩ := h.at (i := i) (by simpa [bovs] using hi)
  refine ⟨b, o, ha, hlt, fun j hj => ?_⟩
  rw [hat j (by simpa [bovs] using hj)]
  simp [bovs]
end Go.Proofs.Ytmaagkdehdmhlaa

/- A power, plain: what its methods do to a state. -/
namespace Go.Proofs.Ytmaagkdehdmhlaa

/-- A power as the page tells it. -/
structure PS where
  off : Bool
  life : Int
  keep : List Bool
  torn : Int
  trip : Option (Int × List Bool × Int)
def PS.new : PS := ⟨false, 0, [], -1, none⟩
def PS.cut (s : PS) (keep : List Bool) (torn : Int) : PS := if s.off then s else { s with off := true, keep := keep, torn := torn, trip := none }
def PS.arm (s : PS) (n : Int) (keep : List Bool) (torn : Int) : PS := { s with trip := if 1 ≤ n then some (n, keep, torn) else none }
def PS.start (s : PS) : PS := if s.off then { s with off := false, life := s.life + 1 } else s
def PS.spend (s : PS) : Bool × PS :=
  if s.off then (false, s) else match s.trip with
    | none => (true, s)
    | some (n, k, t) => if 1 < n then (true, { s with trip := some (n - 1, k, t) }) else (false, s.cut k t)
def PS.kept (s : PS) (k : Int) : Bool := decide (0 ≤ k) && (s.keep.getD k.toNat false)

end Go.Proofs.Ytmaagkdehdmhlaa
