/- Several texts of this claim, one behind the other: Flip, MedSet. -/
import Derived.Test.YtmaagkdehdmhlaaRobotExactPartK
import Derived.Test.YtmaagkdehdmhlaaRobotExactPartF
import Derived.Test.YtmaagkdehdmhlaaKeepMed
import Derived.Test.YtmaagkdehdmhlaaRobotExactPartH
/- Bits turned about, side by side: plain. -/
namespace Go.Proofs.Ytmaagkdehdmhlaa

def flipBit (l : List Byte) (t : Nat) : List Byte := l.set (t / 8) (l.getD (t / 8) 0#8 ^^^ (1#8 <<< (t % 8)))
def flipTo (l : List Byte) (p : Nat) (m : BitVec 32) : Nat → List Byte
  | 0 => l
  | k + 1 => if m.getLsbD k then flipBit (flipTo l p m k) (p + k) else flipTo l p m k
theorem flipBit_length (l : List Byte) (t : Nat) : (flipBit l t).length = l.length := by simp [flipBit]
theorem flipTo_length (l : List Byte) (p : Nat) (m : BitVec 32) (k : Nat) : (flipTo l p m k).length = l.length := by
  induction k with
  | zero => rfl
  | succ k ih => rw [flipTo]; split <;> simp [flipBit_length, ih]
theorem bitAt_flip (l : List Byte) (t u : Nat) (ht : t < 8 * l.length) : bitAt (flipBit l t) u = (bitAt l u ^^ decide (u = t)) := by
  unfold bitAt flipBit
  by_cases h : u / 8 = t / 8
  · rw [h]
    have h1 : t / 8 < l.length := by omega
    simp only [List.getD_eq_getElem?_getD, List.getElem?_set, h1, if_true, Option.getD_some]
    rw [BitVec.getLsbD_xor]
    congr 1
    rw [BitVec.getLsbD_shiftLeft]
    have h8 : u % 8 < 8 := Nat.mod_lt _ (by omega)
    by_cases h2 : u = t
    · subst h2; simp [h8]
    · have h3 : u % 8 ≠ t % 8 := by omega
      by_cases h4 : u % 8 < t % 8
      · simp [h4, h2]
      · have h5 : u % 8 - t % 8 ≠ 0 := by omega
        simp [h2, h5]
  · have h2 : u ≠ t := by intro e; rw [e] at h; exact h rfl
    simp only [List.getD_eq_getElem?_getD, List.getElem?_set]
    rw [if_neg (fun e => h e.symm)]
    simp [h2]
theorem bitAt_flipTo (l : List Byte) (p : Nat) (m : BitVec 32) (k : Nat) (hk : p + k ≤ 8 * l.length) (u : Nat) : bitAt (flipTo l p m k) u = (bitAt l u ^^ (decide (p ≤ u ∧ u < p + k) && m.getLsbD (u - p))) := by
  induction k with
  | zero =>
    have : ¬ (p ≤ u ∧ u < p + 0) := by omega
    simp only [flipTo, this, decide_false, Bool.false_and, Bool.xor_false]
  | succ k ih =>
    rw [flipTo]
    have ih' := ih (by omega)
    split
    · rename_i hm
      rw [bitAt_flip _ _ _ (by rw [flipTo_length]; omega), ih']
      by_cases h : u = p + k
      · subst h
        have h1 : ¬ (p ≤ p + k ∧ p + k < p + k) := by omega
        have h2 : p ≤ p + k ∧ p + k < p + (k + 1) := by omega
        simp [h1, h2, hm]
      · by_cases h3 : p ≤ u ∧ u < p + k
        · have h4 : p ≤ u ∧ u < p + (k + 1) := by omega
          simp [h, h3, h4]
        · have h4 : ¬ (p ≤ u ∧ u < p + (k + 1)) := by omega
          simp [h, h3, h4]
    · rename_i hm
      rw [ih']
      by_cases h : u = p + k
      · subst h
        have h1 : ¬ (p ≤ p + k ∧ p + k < p + k) := by omega
        have hm' : m.getLsbD (p + k - p) = false := by rw [show p + k - p = k by omega]; simpa using hm
        simp only [h1, decide_false, Bool.false_and, hm', Bool.and_false]
      · by_cases h3 : p ≤ u ∧ u < p + k
        · have h4 : p ≤ u ∧ u < p + (k + 1) := by omega
          simp [h3, h4]
        · have h4 : ¬ (p ≤ u ∧ u < p + (k + 1)) := by omega
          simp [h3, h4]

/-- The sums are unlike as the texts are. -/
theorem flip_crc (l : List Byte) (p : Nat) (m : BitVec 32) (k : Nat) (hk : k ≤ 32) (hp : p + k ≤ 8 * l.length) : crc l = crc (flipTo l p m k) ↔ l = flipTo l p m k := by
  constructor
  · intro h
    refine burst (flipTo_length l p m k).symm p k hk (fun t ht ho => ?_) h
    rw [bitAt_flipTo l p m k hp]
    have : ¬ (p ≤ t ∧ t < p + k) := by omega
    simp [this]
  · intro h; rw [← h]
/-- Turned about nowhere: as it was. -/
theorem flip_same (l : List Byte) (p : Nat) (m : BitVec 32) (k : Nat) (hp : p + k ≤ 8 * l.length) : l = flipTo l p m k ↔ ∀ j, j < k → m.getLsbD j = false := by
  constructor
  · intro h j hj
    have := bitAt_flipTo l p m k hp (p + j)
    rw [← h] at this
    have h2 : p ≤ p + j ∧ p + j < p + k := by omega
    simp only [h2, show p + j - p = j by omega, and_self, decide_true, Bool.true_and] at this
    cases hb : bitAt l (p + j) <;> cases hm : m.getLsbD j <;> simp [hb, hm] at this ⊢
  · intro h
    refine bits_ext (flipTo_length l p m k).symm fun t ht => ?_
    rw [bitAt_flipTo l p m k hp]
    by_cases h2 : p ≤ t ∧ t < p + k
    · simp [h2, h (t - p) (by omega)]
    · simp [h2]

/- as the walk spells it -/
theorem test_bit (m : BitVec 32) (k : Nat) : (bits .and .u32 ((m.toNat : Int) / 2 ^ k) 1 == 1) = m.getLsbD k := by
  have h := shr32 m k
  have e : ((2 ^ k : Nat) : Int) = (2 : Int) ^ k := by simp
  rw [e] at h
  rw [h, lsb_and1]
  simp
theorem flip_val (x : Byte) (j : Nat) (hj : j < 8) : bits .xor .u8 (x.toNat : Int) (((2 ^ j : Nat) : Int)) = ((x ^^^ (1#8 <<< j) : Byte).toNat : Int) := by
  have e : (2 ^ j : Nat) = (1#8 <<< j).toNat := by
    rw [BitVec.toNat_shiftLeft, Nat.shiftLeft_eq, Nat.mod_eq_of_lt]
    · simp
    · have := Nat.pow_lt_pow_right (a := 2) (by omega) hj
      simpa using this
  rw [e, xor8]
theorem flip_val' (x : Byte) (j : Nat) (hj : j < 8) : bits .xor .u8 (x.toNat : Int) ((2 : Int) ^ j % 256) = ((x ^^^ (1#8 <<< j) : Byte).toNat : Int) := by
  rw [← flip_val x j hj]
  have h1 : (2 : Nat) ^ j < 256 := by
    have := Nat.pow_lt_pow_right (a := 2) (by omega) hj
    simpa using this
  have h2 : ((2 ^ j : Nat) : Int) = (2 : Int) ^ j := by simp
  rw [← h2]
  generalize (2 : Nat) ^ j = v at *
  congr 1
  omega
end Go.Proofs.Ytmaagkdehdmhlaa

/- Cells of a tape of one's own are written: plain lemmas. -/
namespace Go.Proofs.Ytmaagkdehdmhlaa
open Go.RowKit

/-- A cell at a place, in place of another. -/
def Med.put (m : Med) (p : Nat) (c : CellP) : Med := ⟨m.cap, m.cells.set p c⟩
def Med.spoil (m : Med) (p : Int) : Med × Int :=
  if m.ok = false then (Med.none, 1) else if p < 0 ∨ (m.cells.length : Int) ≤ p then (Med.none, 8) else
    match m.cells[p.toNat]? with
    | Option.none => (Med.none, 8)
    | some c => (m.put p.toNat ⟨c.kind, c.data, true⟩, 0)
def Med.flip (m : Med) (p bit : Int) : Med × Int :=
  if m.ok = false then (Med.none, 1) else if p < 0 ∨ (m.cells.length : Int) ≤ p then (Med.none, 8) else
    match m.cells[p.toNat]? with
    | Option.none => (Med.none, 8)
    | some c => if c.kind ≠ 1 then (Med.none, 8) else if bit < 0 ∨ (8 * c.data.length : Int) ≤ bit then (Med.none, 1) else (m.put p.toNat ⟨c.kind, flipBit c.data bit.toNat, c.bad⟩, 0)
theorem pls_set (cs : List CellV) (i : Nat) (y : CellV) : pls (cs.set i y) = (pls cs).set i y.pl := by unfold pls; rw [List.map_set]
theorem pls_get {cs : List CellV} {i : Nat} (hi : i < cs.length) : (pls cs)[i]? = some cs[i].pl := by unfold pls; rw [List.getElem?_map, List.getElem?_eq_getElem hi]; rfl

theorem apart_key {cs : List CellV} : Apart cs ↔ (cs.map fun x => (x.d.a, x.d.l.length)).Pairwise fun u v => u.2 ≠ 0 → v.2 ≠ 0 → u.1 ≠ v.1 := by
  rw [List.pairwise_map]
  have key : ∀ l : List Byte, l ≠ [] ↔ l.length ≠ 0 := fun l => by rw [ne_eq, ne_eq, List.length_eq_zero_iff]
  unfold Apart
  constructor <;> intro h <;> refine h.imp ?_ <;> intro x y k
  · exact fun h1 h2 => k ((key _).2 h1) ((key _).2 h2)
  · exact fun h1 h2 => k ((key _).1 h1) ((key _).1 h2)
theorem Apart.set {cs : List CellV} (h : Apart cs) {i : Nat} (hi : i < cs.length) {y : CellV} (ha : y.d.a = cs[i].d.a) (hl : y.d.l.length = cs[i].d.l.length) : Apart (cs.set i y) := by
  rw [apart_key] at h ⊢
  have e : (cs.set i y).map (fun x => (x.d.a, x.d.l.length)) = cs.map fun x => (x.d.a, x.d.l.length) := by
    rw [List.map_set, ha, hl]
    have e2 : (cs.map fun x => (x.d.a, x.d.l.length))[i]'(by simpa using hi) = (cs[i].d.a, cs[i].d.l.length) := by simp
    rw [← e2]
    exact List.set_getElem_self _
  rw [e]
  exact h
theorem Apart.ne {cs : List CellV} (h : Apart cs) {i j : Nat} (hi : i < cs.length) (hj : j < cs.length) (hij : i ≠ j) (h1 : cs[i].d.l ≠ []) (h2 : cs[j].d.l ≠ []) : cs[i].d.a ≠ cs[j].d.a := by
  unfold Apart at h
  rw [List.pairwise_iff_getElem] at h
  by_cases hlt : i < j
  · exact h i j hi hj hlt h1 h2
  · exact fun e => h j i hj hi (by omega) h2 h1 e.symm
/-- A row of nothing stays one, whatever cell is written. -/
theorem Own.empty {w : World} {B : Nat} {e : TypeId} {k c : Nat} {a : Option Addr} {xs : List Value} (h : Own w B e k a 0 c xs) {g : Nat} {cs : Array Value} {T : TypeId} (hg : w.heap[g]? = some (.cells cs T (0, 0))) (i : Nat) (v : Value) : Own (w.setCell ⟨g, i, none⟩ v) B e k a 0 c xs := by
  obtain ⟨hl, ⟨_, rfl⟩ | ⟨g', cur, ha, hb, hh, hn, hm, hs, ht⟩⟩ := h
  · exact ⟨hl, .inl ⟨rfl, rfl⟩⟩
  · by_cases hgg : g' = g
    · subst hgg
      rw [hh] at hg
      simp only [Option.some.injEq, Obj.cells.injEq, and_true] at hg
      obtain ⟨rfl, rfl⟩ := hg
      exact ⟨hl, .inr ⟨g', _, ha, hb, heap_setCell_same w g' i _ _ v hh, hn, hm, by simpa using hs, by simpa using hl⟩⟩
    · exact ⟨hl, .inr ⟨g', cur, ha, hb, (Below.heap_setCell w ⟨g, i, none⟩ _ _ hgg).trans hh, hn, hm, hs, ht⟩⟩
/-- A cell of the tape's own row is written. -/
theorem OwnM.setCell {w : World} {B x c : Nat} {cs : List CellV} (h : OwnM w B (some ⟨x, 0, none⟩) c cs) {i : Nat} (hi : i < cs.length) {j : Nat} (hj : j < 3) {y : CellV} (v : Value) (hy : CellV.cells y = (CellV.cells cs[i]).set j v) (hd : y.d = cs[i].d) : OwnM (w.setCell ⟨x, i * 3 + j, none⟩ v) B (some ⟨x, 0, none⟩) c (cs.set i y) := by
  obtain ⟨_, _, cur, hcur⟩ := h.row.blk (by omega)
  have hm := (Mod.refl (fun b T => b = x ∧ T = 42) w).setCell hcur ⟨rfl, rfl⟩ (i * 3 + j) v
  refine ⟨?_, fun z hz => ?_, h.apart.set hi (by rw [hd]) (by rw [hd])⟩
  · have := h.row.setAt (i * 3 + j) v (by omega)
    rw [flt_set1 CellV.len cs i j hi hj y v hy] at this
    rw [List.length_set]
    exact this
  · have key : ∃ z' ∈ cs, z.d = z'.d := by
      rcases List.mem_or_eq_of_mem_set hz with hz | rfl
      · exact ⟨z, hz, rfl⟩
      · exact ⟨cs[i], List.getElem_mem hi, hd⟩
    obtain ⟨z', hz', e⟩ := key
    rw [e]
    exact (h.dat z' hz').mod hm fun _ _ _ hf => absurd hf.2 (by decide)
theorem OwnM.setCell_mod {w : World} {B x c : Nat} {cs : List CellV} (h : OwnM w B (some ⟨x, 0, none⟩) c cs) {i : Nat} (hi : i < cs.length) (j : Nat) (v : Value) : Below B w (w.setCell ⟨x, j, none⟩ v) := by
  obtain ⟨hB, _⟩ := h.row.blk (by omega)
  exact (Below.refl B w).setCell (p := ⟨x, j, none⟩) hB v
/-- A byte of one of its rows is written. -/
theorem OwnM.setByte {w : World} {B c g : Nat} {a : Option Addr} {cs : List CellV} (h : OwnM w B a c cs) {i : Nat} (hi : i < cs.length) (hg : cs[i].d.a = some ⟨g, 0, none⟩) {j : Nat} (hj : j < cs[i].d.l.length) (b : Byte) : OwnM (w.setCell ⟨g, j, none⟩ (.int .u8 b.toNat)) B a c (cs.set i ⟨cs[i].kind, ⟨cs[i].d.a, cs[i].d.c, cs[i].d.l.set j b⟩, cs[i].bad⟩) ∧ Below B w (w.setCell ⟨g, j, none⟩ (.int .u8 b.toNat)) := by
  have hd := h.dat _ (List.getElem_mem hi)
  rw [hg] at hd
  obtain ⟨hB, _, cur, hcur⟩ := hd.blk (by omega)
  have hm := (Mod.refl (fun b T => b = g ∧ T = 5) w).setCell hcur ⟨rfl, rfl⟩ j (.int .u8 b.toNat)
  refine ⟨⟨?_, fun z hz => ?_, h.apart.set hi rfl (by simp)⟩, (Below.refl B w).setCell (p := ⟨g, j, none⟩) hB _⟩
  · rw [List.length_set]
    have e : flt CellV.cells (cs.set i ⟨cs[i].kind, ⟨cs[i].d.a, cs[i].d.c, cs[i].d.l.set j b⟩, cs[i].bad⟩) = flt CellV.cells cs := by
      unfold flt
      rw [List.map_set]
      have e2 : (cs.map CellV.cells)[i]'(by simpa using hi) = CellV.cells ⟨cs[i].kind, ⟨cs[i].d.a, cs[i].d.c, cs[i].d.l.set j b⟩, cs[i].bad⟩ := by simp [CellV.cells]
      rw [← e2, List.set_getElem_self]
    rw [e]
    exact h.row.mod hm fun _ _ _ hf => absurd hf.2 (by decide)
  · obtain ⟨k, hk, rfl⟩ := List.getElem_of_mem hz
    rw [List.length_set] at hk
    by_cases hki : k = i
    · subst hki
      rw [List.getElem_set_self]
      dsimp only
      rw [hg, List.length_set, ← bvs_set]
      exact hd.setAt j _ (by omega)
    · rw [List.getElem_set_ne (fun e => hki e.symm)]
      have hdk := h.dat _ (List.getElem_mem hk)
      by_cases h0 : cs[k].d.l = []
      · rw [h0] at hdk ⊢
        exact hdk.empty hcur _ _
      · refine hdk.mod hm fun g' ha' _ hf => ?_
        have hne := h.apart.ne hk hi hki h0 (fun e => by rw [e] at hj; simp at hj)
        exact hne (by rw [ha', hg, hf.1])
end Go.Proofs.Ytmaagkdehdmhlaa
