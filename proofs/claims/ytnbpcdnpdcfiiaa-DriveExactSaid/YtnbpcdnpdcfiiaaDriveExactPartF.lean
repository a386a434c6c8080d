/- Several texts of this claim, one behind the other: MedEndsP, MedStaysP, CrcDef. -/
import Derived.Test.YtnbpcdnpdcfiiaaDriveExactPartE
import Derived.Test.YtnbpcdnpdcfiiaaMedLaw
import Derived.Test.YtnbpcdnpdcfiiaaBase
/- Tapes that are cut, plain. -/
namespace Go.Proofs.Ytnbpcdnpdcfiiaa
open Go.RowKit

theorem Med.ok_take {m : Med} (h : m.ok = true) (p : Nat) : (Med.mk m.cap (m.cells.take p)).ok = true := by
  rw [Med.ok_iff] at h ⊢
  obtain ⟨⟨h1, h2, h3⟩, h4⟩ := h
  refine ⟨⟨h1, h2, ?_⟩, fun c hc => h4 c (List.mem_of_mem_take hc)⟩
  have : (m.cells.take p).length ≤ m.cells.length := by rw [List.length_take]; omega
  show ((m.cells.take p).length : Int) ≤ m.cap
  omega
theorem Med.end_ok {m : Med} (h : m.ok = true) {p : Nat} (hp : p ≤ m.cells.length) : m.end_ (p : Int) = (⟨m.cap, m.cells.take p⟩, 0) := by
  unfold Med.end_
  rw [if_neg (by rw [h]; simp; omega), Int.toNat_natCast]
theorem Med.read_past {m : Med} (h : m.ok = true) : m.read (m.cells.length : Int) = ([], 8) := by
  unfold Med.read Med.look
  rw [if_neg (by rw [h]; decide), if_pos (.inr (Int.le_refl _))]
theorem Med.files_ok {m : Med} (h : m.ok = true) : m.files = (marks m.cells : Int) := by
  unfold Med.files
  rw [if_neg (by rw [h]; decide)]
/-- What the law says of the cut tapes. -/
structure EndsP (m : Med) (p q : Nat) : Prop where
  e1 : m.end_ (p : Int) = (⟨m.cap, m.cells.take p⟩, 0)
  e2 : (Med.mk m.cap (m.cells.take p)).end_ (q : Int) = (⟨m.cap, m.cells.take q⟩, 0)
  e3 : m.end_ (q : Int) = (⟨m.cap, m.cells.take q⟩, 0)
  rd : (Med.mk m.cap (m.cells.take p)).read (p : Int) = ([], 8)
  fa : (Med.mk m.cap (m.cells.take p)).files = (marks (m.cells.take p) : Int)
  fm : m.files = (marks m.cells : Int)
  le : marks (m.cells.take p) ≤ marks m.cells
theorem endsP {m : Med} (h : m.ok = true) {p q : Nat} (hp : p ≤ m.cells.length) (hq : q ≤ p) : EndsP m p q := by
  have hk := Med.ok_take h p
  have hl : (m.cells.take p).length = p := by rw [List.length_take]; omega
  refine ⟨Med.end_ok h hp, ?_, Med.end_ok h (by omega), ?_, Med.files_ok hk, Med.files_ok h, ?_⟩
  · rw [Med.end_ok hk (by show q ≤ (m.cells.take p).length; omega)]
    show (Med.mk m.cap ((m.cells.take p).take q), (0 : Int)) = _
    rw [List.take_take, Nat.min_eq_left hq]
  · have := Med.read_past hk
    rwa [show (Med.mk m.cap (m.cells.take p)).cells.length = p from hl] at this
  · have := marks_mono m.cells hp
    rwa [List.take_length] at this
end Go.Proofs.Ytnbpcdnpdcfiiaa

/- Tapes that are written, plain. -/
namespace Go.Proofs.Ytnbpcdnpdcfiiaa
open Go.RowKit

theorem marks_snoc (cs : List CellP) (x : CellP) : marks (cs ++ [x]) = marks cs + (if x.kind = 2 then 1 else 0) := by
  rw [marks_append, show ([x] : List CellP) = x :: [] from rfl, marks_cons]
  simp [marks]
theorem Med.lay_len {m : Med} {p : Nat} (hp : p ≤ m.cells.length) (x : CellP) : (m.lay p x).cells.length = p + 1 := by
  show (m.cells.take p ++ [x]).length = p + 1
  rw [List.length_append, List.length_take, Nat.min_eq_left hp]; rfl
theorem Med.lay_ok {m : Med} (h : m.ok = true) {p : Nat} (hp : p ≤ m.cells.length) (hc : (p : Int) < m.cap) {x : CellP} (hx : x.right = true) : (m.lay p x).ok = true := by
  have hl := Med.lay_len hp x
  rw [Med.ok_iff] at h ⊢
  obtain ⟨⟨h1, h2, h3⟩, h4⟩ := h
  refine ⟨⟨h1, h2, by rw [hl]; show ((p + 1 : Nat) : Int) ≤ m.cap; omega⟩, fun c hc => ?_⟩
  rcases List.mem_append.1 (show c ∈ m.cells.take p ++ [x] from hc) with h | h
  · exact h4 c (List.mem_of_mem_take h)
  · rw [List.mem_singleton.1 h]; exact hx
theorem Med.read_at {m : Med} (h : m.ok = true) {p : Nat} {x : CellP} (hx : m.cells[p]? = some x) : m.read (p : Int) = (if x.kind = 2 then ([], 15) else if x.kind = 3 ∨ x.bad = true then ([], 6) else (x.data, 0)) := by
  have hl := (List.getElem?_eq_some_iff.1 hx).1
  unfold Med.read Med.look
  rw [if_neg (by rw [h]; decide), if_neg (by omega), Int.toNat_natCast, hx]
theorem Med.lay_get {m : Med} {p : Nat} (hp : p ≤ m.cells.length) (x : CellP) : (m.lay p x).cells[p]? = some x := by
  show (m.cells.take p ++ [x])[p]? = _
  rw [List.getElem?_append_right (by rw [List.length_take]; omega), List.length_take, Nat.min_eq_left hp, Nat.sub_self]; rfl
theorem Med.lay_low {m : Med} {p i : Nat} (hi : i < p) (hp : p ≤ m.cells.length) (x : CellP) : (m.lay p x).cells[i]? = m.cells[i]? := by
  show (m.cells.take p ++ [x])[i]? = _
  rw [List.getElem?_append_left (by rw [List.length_take]; omega), List.getElem?_take, if_pos hi]
theorem Med.read_same {m m' : Med} (h : m.ok = true) (h' : m'.ok = true) {i : Nat} (he : m'.cells[i]? = m.cells[i]?) (hi : i < m.cells.length) : m'.read (i : Int) = m.read (i : Int) := by
  rw [Med.read_at h (List.getElem?_eq_getElem hi), Med.read_at h' (he.trans (List.getElem?_eq_getElem hi))]

/-- What the law says of the tapes written. -/
structure StaysP (m : Med) (cap : Int) (p : Nat) (b : List Byte) (F : Nat) : Prop where
  wr : m.write (p : Int) b = (⟨cap, m.cells.take p ++ [⟨1, b, false⟩]⟩, 0)
  mr : m.mark (p : Int) = (⟨cap, m.cells.take p ++ [⟨2, [], false⟩]⟩, 0)
  en : m.end_ (p : Int) = (⟨cap, m.cells.take p⟩, 0)
  cW : (Med.mk cap (m.cells.take p ++ [⟨1, b, false⟩])).ok = true
  cK : (Med.mk cap (m.cells.take p ++ [⟨2, [], false⟩])).ok = true
  cD : (Med.mk cap (m.cells.take p)).ok = true
  rW : (Med.mk cap (m.cells.take p ++ [⟨1, b, false⟩])).read (p : Int) = (b, 0)
  rK : (Med.mk cap (m.cells.take p ++ [⟨2, [], false⟩])).read (p : Int) = ([], 15)
  rD : (Med.mk cap (m.cells.take p)).read (p : Int) = ([], 8)
  fW : (Med.mk cap (m.cells.take p ++ [⟨1, b, false⟩])).files = (F : Int)
  fK : (Med.mk cap (m.cells.take p ++ [⟨2, [], false⟩])).files = (F : Int) + 1
  fD : (Med.mk cap (m.cells.take p)).files = (F : Int)
  low : ∀ i, i < p → (Med.mk cap (m.cells.take p ++ [⟨1, b, false⟩])).read (i : Int) = m.read (i : Int)
theorem wrong_zero {m : Med} {p : Nat} (hp : p ≤ m.cells.length) (hc : (p : Int) < m.cap) (n : Nat) (blk : Bool) (hn : blk = true → 1 ≤ n ∧ n ≤ 256) : m.wrong (p : Int) n blk = 0 := by
  unfold Med.wrong
  rw [if_neg (by omega), if_neg (by rintro ⟨h1, h2⟩; have := hn h1; omega), if_neg (by omega)]
theorem wrong_full {m : Med} {p : Nat} (hp : p ≤ m.cells.length) (hc : (p : Int) = m.cap) (n : Nat) (blk : Bool) (hn : blk = true → 1 ≤ n ∧ n ≤ 256) : m.wrong (p : Int) n blk = 7 := by
  unfold Med.wrong
  rw [if_neg (by omega), if_neg (by rintro ⟨h1, h2⟩; have := hn h1; omega), if_pos hc]
theorem Med.write_full {m : Med} (h : m.ok = true) {p : Nat} (hp : p ≤ m.cells.length) (hc : (p : Int) = m.cap) {b : List Byte} (hb : 1 ≤ b.length ∧ b.length ≤ 256) : m.write (p : Int) b = (Med.none, 7) := by
  unfold Med.write
  rw [if_neg (by rw [h]; decide), wrong_full hp hc _ _ (fun _ => hb), if_pos (by decide)]
theorem Med.mark_full {m : Med} (h : m.ok = true) {p : Nat} (hp : p ≤ m.cells.length) (hc : (p : Int) = m.cap) : m.mark (p : Int) = (Med.none, 7) := by
  unfold Med.mark
  rw [if_neg (by rw [h]; decide), wrong_full hp hc _ _ (by simp), if_pos (by decide)]
theorem Med.write_ok {m : Med} (h : m.ok = true) {p : Nat} (hp : p ≤ m.cells.length) (hc : (p : Int) < m.cap) {b : List Byte} (hb : 1 ≤ b.length ∧ b.length ≤ 256) : m.write (p : Int) b = (m.lay p ⟨1, b, false⟩, 0) := by
  unfold Med.write
  rw [if_neg (by rw [h]; decide), wrong_zero hp hc _ _ (fun _ => hb), if_neg (by decide), Int.toNat_natCast]
theorem Med.mark_ok {m : Med} (h : m.ok = true) {p : Nat} (hp : p ≤ m.cells.length) (hc : (p : Int) < m.cap) : m.mark (p : Int) = (m.lay p ⟨2, [], false⟩, 0) := by
  unfold Med.mark
  rw [if_neg (by rw [h]; decide), wrong_zero hp hc _ _ (by simp), if_neg (by decide), Int.toNat_natCast]
theorem right_blk {b : List Byte} (hb : 1 ≤ b.length ∧ b.length ≤ 256) : (CellP.mk 1 b false).right = true := by
  unfold CellP.right rightC
  rw [decide_eq_true_eq]
  exact .inl ⟨rfl, hb.1, hb.2⟩
theorem staysP {m : Med} (h : m.ok = true) {p : Nat} (hp : p ≤ m.cells.length) (hc : (p : Int) < m.cap) {b : List Byte} (hb : 1 ≤ b.length ∧ b.length ≤ 256) : StaysP m m.cap p b (marks (m.cells.take p)) := by
  have kW : (m.lay p ⟨1, b, false⟩).ok = true := Med.lay_ok h hp hc (right_blk hb)
  have kK : (m.lay p ⟨2, [], false⟩).ok = true := Med.lay_ok h hp hc (by decide)
  have kD := Med.ok_take h p
  have hl : (m.cells.take p).length = p := by rw [List.length_take]; omega
  refine ⟨Med.write_ok h hp hc hb, Med.mark_ok h hp hc, Med.end_ok h hp, kW, kK, kD, ?_, ?_, ?_, ?_, ?_, Med.files_ok kD, fun i hi => Med.read_same h kW (Med.lay_low hi hp _) (by omega)⟩
  · exact (Med.read_at kW (Med.lay_get hp _)).trans (by simp)
  · exact (Med.read_at kK (Med.lay_get hp _)).trans (by simp)
  · have := Med.read_past kD
    rwa [show (Med.mk m.cap (m.cells.take p)).cells.length = p from hl] at this
  · exact (Med.files_ok kW).trans (by show ((marks (m.cells.take p ++ [_]) : Nat) : Int) = _; rw [marks_snoc]; simp)
  · exact (Med.files_ok kK).trans (by show ((marks (m.cells.take p ++ [_]) : Nat) : Int) = _; rw [marks_snoc]; rfl)

theorem Med.read_short {m : Med} {K : Nat} (h : ∀ c ∈ m.cells, c.data.length ≤ K) (p : Int) : (m.read p).1.length ≤ K := by
  unfold Med.read Med.look
  split
  · exact Nat.zero_le _
  split
  · exact Nat.zero_le _
  split
  · exact Nat.zero_le _
  · rename_i c hc
    split
    · exact Nat.zero_le _
    split
    · exact Nat.zero_le _
    exact h c (List.mem_of_getElem? hc)
end Go.Proofs.Ytnbpcdnpdcfiiaa

/- The sum of bytes as plain functions on words of 32 bits. -/
namespace Go.Proofs.Ytnbpcdnpdcfiiaa

def crcStep (r : BitVec 32) : BitVec 32 := (r >>> 1) ^^^ (if r.getLsbD 0 then 0xedb88320#32 else 0#32)
def crcIter : Nat → BitVec 32 → BitVec 32
  | 0, r => r
  | n + 1, r => crcStep (crcIter n r)
def crcOne (r : BitVec 32) (b : Byte) : BitVec 32 := (r >>> 8) ^^^ crcIter 8 ((r.setWidth 8 ^^^ b).setWidth 32)
def crcAll : BitVec 32 := 0xffffffff#32
def crcReg (r : BitVec 32) (l : List Byte) : BitVec 32 := l.foldl crcOne r
def crc (l : List Byte) : BitVec 32 := crcReg crcAll l ^^^ crcAll
def tabv : Array Value := Array.ofFn (n := 256) fun i => Value.int .u32 ((crcIter 8 (BitVec.ofNat 32 i)).toNat : Int)
def crcBytesOf (s : BitVec 32) : List Byte := [s.setWidth 8, (s >>> 8).setWidth 8, (s >>> 16).setWidth 8, (s >>> 24).setWidth 8]

theorem tabv_size : tabv.size = 256 := by simp [tabv]
theorem tabv_get (i : Nat) (h : i < 256) : tabv[i]? = some (.int .u32 ((crcIter 8 (BitVec.ofNat 32 i)).toNat : Int)) := by
  simp [tabv, h]

theorem tabv_one : ∀ v ∈ tabv.toList, v.oneCell' = true := by
  intro v hv
  simp only [tabv, Array.toList_ofFn, List.mem_ofFn] at hv
  obtain ⟨i, rfl⟩ := hv
  rfl
/- words as the walk spells them -/
theorem xor32 (x y : BitVec 32) : bits .xor .u32 (x.toNat : Int) (y.toNat : Int) = ((x ^^^ y).toNat : Int) := by
  rw [u32_xor_nat _ _ x.isLt y.isLt, BitVec.toNat_xor]
theorem and32 (x y : BitVec 32) : bits .and .u32 (x.toNat : Int) (y.toNat : Int) = ((x &&& y).toNat : Int) := by
  rw [u32_and_nat _ _ x.isLt y.isLt, BitVec.toNat_and]
theorem xor8 (x y : BitVec 8) : bits .xor .u8 (x.toNat : Int) (y.toNat : Int) = ((x ^^^ y).toNat : Int) := by
  rw [u8_xor_nat _ _ x.isLt y.isLt, BitVec.toNat_xor]
theorem shr32 (x : BitVec 32) (k : Nat) : (x.toNat : Int) / ((2 ^ k : Nat) : Int) = ((x >>> k).toNat : Int) := by
  rw [BitVec.toNat_ushiftRight, Nat.shiftRight_eq_div_pow]
  exact (Int.natCast_ediv _ _).symm
theorem low8 (x : BitVec 32) : (x.toNat : Int) % 256 = ((x.setWidth 8).toNat : Int) := by
  rw [BitVec.toNat_setWidth]; omega

theorem lsb_and1 (r : BitVec 32) : (bits .and .u32 (r.toNat : Int) 1 == 1) = r.getLsbD 0 := by
  have h := and32 r 1#32
  rw [show ((1#32 : BitVec 32).toNat : Int) = 1 from rfl] at h
  rw [h]
  have h2 : (r &&& 1#32).toNat = r.toNat % 2 := by
    rw [BitVec.toNat_and]; exact Nat.and_two_pow_sub_one_eq_mod r.toNat 1
  rw [h2, BitVec.getLsbD, Nat.testBit_zero]
  by_cases h : r.toNat % 2 = 1
  · simp [h]
  · have : r.toNat % 2 = 0 := by omega
    simp [this]

theorem step_one (r : BitVec 32) (h : r.getLsbD 0 = true) : bits .xor .u32 ((r.toNat : Int) / 2) 3988292384 = ((crcStep r).toNat : Int) := by
  have e := shr32 r 1
  simp only [Nat.pow_one] at e
  rw [show ((2 : Nat) : Int) = 2 from rfl] at e
  rw [e, crcStep, if_pos h]
  exact xor32 (r >>> 1) 0xedb88320#32
theorem step_zero (r : BitVec 32) (h : r.getLsbD 0 = false) : (r.toNat : Int) / 2 = ((crcStep r).toNat : Int) := by
  have e := shr32 r 1
  simp only [Nat.pow_one] at e
  rw [show ((2 : Nat) : Int) = 2 from rfl] at e
  rw [e, crcStep, h]
  simp

theorem crcReg_snoc (r : BitVec 32) (l : List Byte) (b : Byte) : crcReg r (l ++ [b]) = crcOne (crcReg r l) b := by simp [crcReg]
theorem crcReg_append (r : BitVec 32) (l m : List Byte) : crcReg r (l ++ m) = crcReg (crcReg r l) m := by simp [crcReg]
theorem crc_round (q : BitVec 32) (x : Byte) : ∃ (y : Byte) (t s : BitVec 32), bits .xor .u8 ((q.toNat : Int) % 256) (x.toNat : Int) = (y.toNat : Int) ∧ crcIter 8 (y.setWidth 32) = t ∧
    bits .xor .u32 ((q.toNat : Int) / 256) (t.toNat : Int) = (s.toNat : Int) ∧ crcOne q x = s := by
  refine ⟨q.setWidth 8 ^^^ x, _, _, ?_, rfl, ?_, rfl⟩
  · rw [low8, xor8]
  · have := shr32 q 8
    rw [show ((2 ^ 8 : Nat) : Int) = 256 from rfl] at this
    rw [this, xor32]
    rfl
theorem crc_last (q : BitVec 32) : bits .xor .u32 (q.toNat : Int) 4294967295 = ((q ^^^ crcAll).toNat : Int) := xor32 q crcAll
theorem tab_cell {w : World} {g : Nat} {T : TypeId} {m : Nat × Nat} (h : w.heap[g]? = some (.cells tabv T m)) (x : Byte) : w.cell? ⟨g, x.toNat, none⟩ = some (.int .u32 ((crcIter 8 (x.setWidth 32)).toNat : Int)) := by
  rw [cell_of_row w g _ _ _ _ h, tabv_get _ x.isLt, BitVec.ofNat_toNat]
end Go.Proofs.Ytnbpcdnpdcfiiaa
