/- Several texts of this claim, one behind the other: Flip, MedSet, DrvLocate. -/
import Derived.Test.YtjngfkkbfkoedaaVolumeSpoiltPartJ
import Derived.Test.YtjngfkkbfkoedaaVolumeSpoiltPartE
import Derived.Test.YtjngfkkbfkoedaaKeepMed
import Derived.Test.YtjngfkkbfkoedaaVolumeSpoiltPartF
import Derived.Test.YtjngfkkbfkoedaaDrvWrite
/- Bits turned about, side by side: plain. -/
namespace Go.Proofs.Ytjngfkkbfkoedaa

def flipBit (l : List Byte) (t : Nat) : List Byte := l.set (t / 8) (l.getD (t / 8) 0#8 ^^^ (1#8 <<< (t % 8)))
def flipTo (l : List Byte) (p : Nat) (m : BitVec 32) : Nat → List Byte
  | 0 => l
  | k + 1 => if m.getLsbD k then flipBit (flipTo l p m k) (p + k) else flipTo l p m k
theorem flipBit_length (l : List Byte) (t : Nat) : (flipBit l t).length = l.length := by simp [flipBit]
theorem flipTo_length (l : List Byte) (p : Nat) (m : BitVec 32) (k : Nat) : (flipTo l p m k).length = l.length := by
  induction k with
  | zero => rfl
  | succ k ih => rw [flipTo]; split <;> simp [flipBit_length, ih]
theorem bitAt_flip (l : List Byte) (t u : Nat) (ht : t < 8 * l.length) : bitAt (flipBit l t) u = (bitAt l u ^^ decide (u = t)) := by
  unfold bitAt flipBit
  by_cases h : u / 8 = t / 8
  · rw [h]
    have h1 : t / 8 < l.length := by omega
    simp only [List.getD_eq_getElem?_getD, List.getElem?_set, h1, if_true, Option.getD_some]
    rw [BitVec.getLsbD_xor]
    congr 1
    rw [BitVec.getLsbD_shiftLeft]
    have h8 : u % 8 < 8 := Nat.mod_lt _ (by omega)
    by_cases h2 : u = t
    · subst h2; simp [h8]
    · have h3 : u % 8 ≠ t % 8 := by omega
      by_cases h4 : u % 8 < t % 8
      · simp [h4, h2]
      · have h5 : u % 8 - t % 8 ≠ 0 := by omega
        simp [h2, h5]
  · have h2 : u ≠ t := by intro e; rw [e] at h; exact h rfl
    simp only [List.getD_eq_getElem?_getD, List.getElem?_set]
    rw [if_neg (fun e => h e.symm)]
    simp [h2]
theorem bitAt_flipTo (l : List Byte) (p : Nat) (m : BitVec 32) (k : Nat) (hk : p + k ≤ 8 * l.length) (u : Nat) : bitAt (flipTo l p m k) u = (bitAt l u ^^ (decide (p ≤ u ∧ u < p + k) && m.getLsbD (u - p))) := by
  induction k with
  | zero =>
    have : ¬ (p ≤ u ∧ u < p + 0) := by omega
    simp only [flipTo, this, decide_false, Bool.false_and, Bool.xor_false]
  | succ k ih =>
    rw [flipTo]
    have ih' := ih (by omega)
    split
    · rename_i hm
      rw [bitAt_flip _ _ _ (by rw [flipTo_length]; omega), ih']
      by_cases h : u = p + k
      · subst h
        have h1 : ¬ (p ≤ p + k ∧ p + k < p + k) := by omega
        have h2 : p ≤ p + k ∧ p + k < p + (k + 1) := by omega
        simp [h1, h2, hm]
      · by_cases h3 : p ≤ u ∧ u < p + k
        · have h4 : p ≤ u ∧ u < p + (k + 1) := by omega
          simp [h, h3, h4]
        · have h4 : ¬ (p ≤ u ∧ u < p + (k + 1)) := by omega
          simp [h, h3, h4]
    · rename_i hm
      rw [ih']
      by_cases h : u = p + k
      · subst h
        have h1 : ¬ (p ≤ p + k ∧ p + k < p + k) := by omega
        have hm' : m.getLsbD (p + k - p) = false := by rw [show p + k - p = k by omega]; simpa using hm
        simp only [h1, decide_false, Bool.false_and, hm', Bool.and_false]
      · by_cases h3 : p ≤ u ∧ u < p + k
        · have h4 : p ≤ u ∧ u < p + (k + 1) := by omega
          simp [h3, h4]
        · have h4 : ¬ (p ≤ u ∧ u < p + (k + 1)) := by omega
          simp [h3, h4]

/-- The sums are unlike as the texts are. -/
theorem flip_crc (l : List Byte) (p : Nat) (m : BitVec 32) (k : Nat) (hk : k ≤ 32) (hp : p + k ≤ 8 * l.length) : crc l = crc (flipTo l p m k) ↔ l = flipTo l p m k := by
  constructor
  · intro h
    refine burst (flipTo_length l p m k).symm p k hk (fun t ht ho => ?_) h
    rw [bitAt_flipTo l p m k hp]
    have : ¬ (p ≤ t ∧ t < p + k) := by omega
    simp [this]
  · intro h; rw [← h]
/-- Turned about nowhere: as it was. -/
theorem flip_same (l : List Byte) (p : Nat) (m : BitVec 32) (k : Nat) (hp : p + k ≤ 8 * l.length) : l = flipTo l p m k ↔ ∀ j, j < k → m.getLsbD j = false := by
  constructor
  · intro h j hj
    have := bitAt_flipTo l p m k hp (p + j)
    rw [← h] at this
    have h2 : p ≤ p + j ∧ p + j < p + k := by omega
    simp only [h2, show p + j - p = j by omega, and_self, decide_true, Bool.true_and] at this
    cases hb : bitAt l (p + j) <;> cases hm : m.getLsbD j <;> simp [hb, hm] at this ⊢
  · intro h
    refine bits_ext (flipTo_length l p m k).symm fun t ht => ?_
    rw [bitAt_flipTo l p m k hp]
    by_cases h2 : p ≤ t ∧ t < p + k
    · simp [h2, h (t - p) (by omega)]
    · simp [h2]

/- as the walk spells it -/
theorem test_bit (m : BitVec 32) (k : Nat) : (bits .and .u32 ((m.toNat : Int) / 2 ^ k) 1 == 1) = m.getLsbD k := by
  have h := shr32 m k
  have e : ((2 ^ k : Nat) : Int) = (2 : Int) ^ k := by simp
  rw [e] at h
  rw [h, lsb_and1]
  simp
theorem flip_val (x : Byte) (j : Nat) (hj : j < 8) : bits .xor .u8 (x.toNat : Int) (((2 ^ j : Nat) : Int)) = ((x ^^^ (1#8 <<< j) : Byte).toNat : Int) := by
  have e : (2 ^ j : Nat) = (1#8 <<< j).toNat := by
    rw [BitVec.toNat_shiftLeft, Nat.shiftLeft_eq, Nat.mod_eq_of_lt]
    · simp
    · have := Nat.pow_lt_pow_right (a := 2) (by omega) hj
      simpa using this
  rw [e, xor8]
theorem flip_val' (x : Byte) (j : Nat) (hj : j < 8) : bits .xor .u8 (x.toNat : Int) ((2 : Int) ^ j % 256) = ((x ^^^ (1#8 <<< j) : Byte).toNat : Int) := by
  rw [← flip_val x j hj]
  have h1 : (2 : Nat) ^ j < 256 := by
    have := Nat.pow_lt_pow_right (a := 2) (by omega) hj
    simpa using this
  have h2 : ((2 ^ j : Nat) : Int) = (2 : Int) ^ j := by simp
  rw [← h2]
  generalize (2 : Nat) ^ j = v at *
  congr 1
  omega
end Go.Proofs.Ytjngfkkbfkoedaa

/- Cells of a tape of one's own are written: plain lemmas. -/
namespace Go.Proofs.Ytjngfkkbfkoedaa
open Go.RowKit

/-- A cell at a place, in place of another. -/
def Med.put (m : Med) (p : Nat) (c : CellP) : Med := ⟨m.cap, m.cells.set p c⟩
def Med.spoil (m : Med) (p : Int) : Med × Int :=
  if m.ok = false then (Med.none, 1) else if p < 0 ∨ (m.cells.length : Int) ≤ p then (Med.none, 8) else
    match m.cells[p.toNat]? with
    | Option.none => (Med.none, 8)
    | some c => (m.put p.toNat ⟨c.kind, c.data, true⟩, 0)
def Med.flip (m : Med) (p bit : Int) : Med × Int :=
  if m.ok = false then (Med.none, 1) else if p < 0 ∨ (m.cells.length : Int) ≤ p then (Med.none, 8) else
    match m.cells[p.toNat]? with
    | Option.none => (Med.none, 8)
    | some c => if c.kind ≠ 1 then (Med.none, 8) else if bit < 0 ∨ (8 * c.data.length : Int) ≤ bit then (Med.none, 1) else (m.put p.toNat ⟨c.kind, flipBit c.data bit.toNat, c.bad⟩, 0)
theorem pls_set (cs : List CellV) (i : Nat) (y : CellV) : pls (cs.set i y) = (pls cs).set i y.pl := by unfold pls; rw [List.map_set]
theorem pls_get {cs : List CellV} {i : Nat} (hi : i < cs.length) : (pls cs)[i]? = some cs[i].pl := by unfold pls; rw [List.getElem?_map, List.getElem?_eq_getElem hi]; rfl

theorem apart_key {cs : List CellV} : Apart cs ↔ (cs.map fun x => (x.d.a, x.d.l.length)).Pairwise fun u v => u.2 ≠ 0 → v.2 ≠ 0 → u.1 ≠ v.1 := by
  rw [List.pairwise_map]
  have key : ∀ l : List Byte, l ≠ [] ↔ l.length ≠ 0 := fun l => by rw [ne_eq, ne_eq, List.length_eq_zero_iff]
  unfold Apart
  constructor <;> intro h <;> refine h.imp ?_ <;> intro x y k
  · exact fun h1 h2 => k ((key _).2 h1) ((key _).2 h2)
  · exact fun h1 h2 => k ((key _).1 h1) ((key _).1 h2)
theorem Apart.set {cs : List CellV} (h : Apart cs) {i : Nat} (hi : i < cs.length) {y : CellV} (ha : y.d.a = cs[i].d.a) (hl : y.d.l.length = cs[i].d.l.length) : Apart (cs.set i y) := by
  rw [apart_key] at h ⊢
  have e : (cs.set i y).map (fun x => (x.d.a, x.d.l.length)) = cs.map fun x => (x.d.a, x.d.l.length) := by
    rw [List.map_set, ha, hl]
    have e2 : (cs.map fun x => (x.d.a, x.d.l.length))[i]'(by simpa using hi) = (cs[i].d.a, cs[i].d.l.length) := by simp
    rw [← e2]
    exact List.set_getElem_self _
  rw [e]
  exact h
theorem Apart.ne {cs : List CellV} (h : Apart cs) {i j : Nat} (hi : i < cs.length) (hj : j < cs.length) (hij : i ≠ j) (h1 : cs[i].d.l ≠ []) (h2 : cs[j].d.l ≠ []) : cs[i].d.a ≠ cs[j].d.a := by
  unfold Apart at h
  rw [List.pairwise_iff_getElem] at h
  by_cases hlt : i < j
  · exact h i j hi hj hlt h1 h2
  · exact fun e => h j i hj hi (by omega) h2 h1 e.symm
/-- A row of nothing stays one, whatever cell is written. -/
theorem Own.empty {w : World} {B : Nat} {e : TypeId} {k c : Nat} {a : Option Addr} {xs : List Value} (h : Own w B e k a 0 c xs) {g : Nat} {cs : Array Value} {T : TypeId} (hg : w.heap[g]? = some (.cells cs T (0, 0))) (i : Nat) (v : Value) : Own (w.setCell ⟨g, i, none⟩ v) B e k a 0 c xs := by
  obtain ⟨hl, ⟨_, rfl⟩ | ⟨g', cur, ha, hb, hh, hn, hm, hs, ht⟩⟩ := h
  · exact ⟨hl, .inl ⟨rfl, rfl⟩⟩
  · by_cases hgg : g' = g
    · subst hgg
      rw [hh] at hg
      simp only [Option.some.injEq, Obj.cells.injEq, and_true] at hg
      obtain ⟨rfl, rfl⟩ := hg
      exact ⟨hl, .inr ⟨g', _, ha, hb, heap_setCell_same w g' i _ _ v hh, hn, hm, by simpa using hs, by simpa using hl⟩⟩
    · exact ⟨hl, .inr ⟨g', cur, ha, hb, (Below.heap_setCell w ⟨g, i, none⟩ _ _ hgg).trans hh, hn, hm, hs, ht⟩⟩
/-- A cell of the tape's own row is written. -/
theorem OwnM.setCell {w : World} {B x c : Nat} {cs : List CellV} (h : OwnM w B (some ⟨x, 0, none⟩) c cs) {i : Nat} (hi : i < cs.length) {j : Nat} (hj : j < 3) {y : CellV} (v : Value) (hy : CellV.cells y = (CellV.cells cs[i]).set j v) (hd : y.d = cs[i].d) : OwnM (w.setCell ⟨x, i * 3 + j, none⟩ v) B (some ⟨x, 0, none⟩) c (cs.set i y) := by
  obtain ⟨_, _, cur, hcur⟩ := h.row.blk (by omega)
  have hm := (Mod.refl (fun b T => b = x ∧ T = 30) w).setCell hcur ⟨rfl, rfl⟩ (i * 3 + j) v
  refine ⟨?_, fun z hz => ?_, h.apart.set hi (by rw [hd]) (by rw [hd])⟩
  · have := h.row.setAt (i * 3 + j) v (by omega)
    rw [flt_set1 CellV.len cs i j hi hj y v hy] at this
    rw [List.length_set]
    exact this
  · have key : ∃ z' ∈ cs, z.d = z'.d := by
      rcases List.mem_or_eq_of_mem_set hz with hz | rfl
      · exact ⟨z, hz, rfl⟩
      · exact ⟨cs[i], List.getElem_mem hi, hd⟩
    obtain ⟨z', hz', e⟩ := key
    rw [e]
    exact (h.dat z' hz').mod hm fun _ _ _ hf => absurd hf.2 (by decide)
theorem OwnM.setCell_mod {w : World} {B x c : Nat} {cs : List CellV} (h : OwnM w B (some ⟨x, 0, none⟩) c cs) {i : Nat} (hi : i < cs.length) (j : Nat) (v : Value) : Below B w (w.setCell ⟨x, j, none⟩ v) := by
  obtain ⟨hB, _⟩ := h.row.blk (by omega)
  exact (Below.refl B w).setCell (p := ⟨x, j, none⟩) hB v
/-- A byte of one of its rows is written. -/
theorem OwnM.setByte {w : World} {B c g : Nat} {a : Option Addr} {cs : List CellV} (h : OwnM w B a c cs) {i : Nat} (hi : i < cs.length) (hg : cs[i].d.a = some ⟨g, 0, none⟩) {j : Nat} (hj : j < cs[i].d.l.length) (b : Byte) : OwnM (w.setCell ⟨g, j, none⟩ (.int .u8 b.toNat)) B a c (cs.set i ⟨cs[i].kind, ⟨cs[i].d.a, cs[i].d.c, cs[i].d.l.set j b⟩, cs[i].bad⟩) ∧ Below B w (w.setCell ⟨g, j, none⟩ (.int .u8 b.toNat)) := by
  have hd := h.dat _ (List.getElem_mem hi)
  rw [hg] at hd
  obtain ⟨hB, _, cur, hcur⟩ := hd.blk (by omega)
  have hm := (Mod.refl (fun b T => b = g ∧ T = 5) w).setCell hcur ⟨rfl, rfl⟩ j (.int .u8 b.toNat)
  refine ⟨⟨?_, fun z hz => ?_, h.apart.set hi rfl (by simp)⟩, (Below.refl B w).setCell (p := ⟨g, j, none⟩) hB _⟩
  · rw [List.length_set]
    have e : flt CellV.cells (cs.set i ⟨cs[i].kind, ⟨cs[i].d.a, cs[i].d.c, cs[i].d.l.set j b⟩, cs[i].bad⟩) = flt CellV.cells cs := by
      unfold flt
      rw [List.map_set]
      have e2 : (cs.map CellV.cells)[i]'(by simpa using hi) = CellV.cells ⟨cs[i].kind, ⟨cs[i].d.a, cs[i].d.c, cs[i].d.l.set j b⟩, cs[i].bad⟩ := by simp [CellV.cells]
      rw [← e2, List.set_getElem_self]
    rw [e]
    exact h.row.mod hm fun _ _ _ hf => absurd hf.2 (by decide)
  · obtain ⟨k, hk, rfl⟩ := List.getElem_of_mem hz
    rw [List.length_set] at hk
    by_cases hki : k = i
    · subst hki
      rw [List.getElem_set_self]
      dsimp only
      rw [hg, List.length_set, ← bvs_set]
      exact hd.setAt j _ (by omega)
    · rw [List.getElem_set_ne (fun e => hki e.symm)]
      have hdk := h.dat _ (List.getElem_mem hk)
      by_cases h0 : cs[k].d.l = []
      · rw [h0] at hdk ⊢
        exact hdk.empty hcur _ _
      · refine hdk.mod hm fun g' ha' _ hf => ?_
        have hne := h.apart.ne hk hi hki h0 (fun e => by rw [e] at hj; simp at hj)
        exact hne (by rw [ha', hg, hf.1])
end Go.Proofs.Ytjngfkkbfkoedaa

/- A drive's tape: locate. -/
namespace Go.Proofs.Ytjngfkkbfkoedaa
open Go.RowKit

variable {B : Nat} {K : Nat → Prop} {w w' : World} {d g : Nat} {M : Med} {at_ : Int} {a : Option Addr} {k c : Nat} {cs : List CellV}
def isMark (c : CellP) : Bool := decide (c.kind = 2)
def Med.locate (m : Med) (n block at_ : Int) : Int × Int :=
  if n < 0 ∨ block < 0 then (1, at_) else
  if (m.behind n).2 ≠ 0 ∨ (m.cells.length : Int) - (m.behind n).1 < block then (8, at_) else
  if ((m.cells.drop (m.behind n).1.toNat).take block.toNat).any isMark then (8, at_) else (0, (m.behind n).1 + block)
theorem behind_bound (cs : List CellP) (i : Nat) (n : Int) : ((behind cs i n).2 = 0 ∧ (i : Int) ≤ (behind cs i n).1 ∧ (behind cs i n).1 ≤ (i : Int) + (cs.length : Int)) ∨ ((behind cs i n).2 = 8 ∧ (behind cs i n).1 = 0) := by
  induction cs generalizing i n with
  | nil => exact .inr ⟨rfl, rfl⟩
  | cons c cs ih =>
    unfold behind
    split
    · split
      · exact .inl ⟨rfl, by dsimp only; omega, by simp only [List.length_cons]; omega⟩
      · rcases ih (i + 1) (n - 1) with h | h
        · exact .inl ⟨h.1, by omega, by simp only [List.length_cons]; omega⟩
        · exact .inr h
    · rcases ih (i + 1) n with h | h
      · exact .inl ⟨h.1, by omega, by simp only [List.length_cons]; omega⟩
      · exact .inr h
theorem Med.behind_bound (m : Med) (n : Int) : ((m.behind n).2 = 0 ∧ 0 ≤ (m.behind n).1 ∧ (m.behind n).1 ≤ (m.cells.length : Int)) ∨ ((m.behind n).2 = 8 ∧ (m.behind n).1 = 0) := by
  unfold Med.behind
  split
  · exact .inl ⟨rfl, by decide, by dsimp only; omega⟩
  · rcases Go.Proofs.Ytjngfkkbfkoedaa.behind_bound m.cells 0 n with h | h
    · exact .inl ⟨h.1, by have := h.2.1; simpa using this, by have := h.2.2; simpa using this⟩
    · exact .inr h

set_option maxRecDepth 100000 in
set_option maxHeartbeats 4000000 in
theorem drv_locate0 (n block E at' : Int) (w : World) (h : DrvAt B K w d g M at_ a k c cs) (hk : k ≤ 90000) (hn1 : n ≤ 9223372036854775807) (hb0 : block ≤ 9223372036854775807) (hr : M.locate n block at_ = (E, at')) :
    Calls Try.prog 61 #[.pointer (some ⟨d, 0, none⟩), .int .i64 n, .int .i64 block] w fun e w' => e = .returned (.int .i64 E) ∧ DrvAt B K w' d g M at' a k c cs ∧ Mod (TF B K) w w' := by
  have H := Lib.hid h
  have HR := Lib.hid hr
  have hkl : M.cells.length = k := h.r.size
  have hdl := heap_lt h.obj
  obtain ⟨d0, d1, d2, d3⟩ := h.cells
  clear h hr d2 d3
  go_enter Try.func61, Try.ntmps61
  by_cases hneg : n < 0 ∨ block < 0
  · have hl := HR.out
    unfold Med.locate at hl
    rw [if_pos hneg] at hl
    simp only [Prod.mk.injEq] at hl
    obtain ⟨rfl, rfl⟩ := hl
    by_cases h1 : n < 0
    · clear hneg
      go_wp2
      go_ret
      exact ⟨rfl, H.out, Mod.refl _ _⟩
    · have h2 : block < 0 := by omega
      clear hneg
      go_wp2
      go_ret
      exact ⟨rfl, H.out, Mod.refl _ _⟩
  have h1 : ¬ n < 0 := by omega
  obtain ⟨bk, rfl⟩ := Int.eq_ofNat_of_zero_le (show 0 ≤ block by omega)
  have h2 : ¬ (bk : Int) < 0 := by omega
  obtain ⟨⟨R, Eb⟩, hbh⟩ : ∃ x, x = M.behind n := ⟨_, rfl⟩
  have hl := HR.out
  unfold Med.locate at hl
  rw [if_neg hneg, ← hbh, hkl, Int.toNat_natCast] at hl
  have hbd := M.behind_bound n
  rw [← hbh, hkl] at hbd
  have HL := Lib.hid hl
  have Hbh := Lib.hid hbh.symm
  clear hl HR hbh hneg
  go_wp2_with fail
  refine (behind_any M.cap a c k cs n R Eb w H.out.r.mat H.out.r.len.symm (by omega) (by omega) hn1 (by rw [H.out.of]; exact Hbh.out)).mono ?_
  rintro e w2 ⟨rfl, hb⟩
  have H2 := Lib.hid (H.out.ext hb)
  have Hb := Lib.hid hb
  clear hb d0 d1
  obtain ⟨d0, d1, d2, d3⟩ := H2.out.cells
  clear d0 d3
  rcases hbd with ⟨hE, hR0, hRk⟩ | ⟨hE, hR⟩
  · have hE : Eb = 0 := hE
    have hR0 : 0 ≤ R := hR0
    have hRk : R ≤ (k : Int) := hRk
    subst hE
    obtain ⟨R, rfl⟩ := Int.eq_ofNat_of_zero_le hR0
    by_cases hlen : (k : Int) - (R : Int) < (bk : Int)
    · have hl := HL.out
      rw [if_pos (.inr hlen)] at hl
      simp only [Prod.mk.injEq] at hl
      obtain ⟨rfl, rfl⟩ := hl
      go_wp2
      go_ret
      exact ⟨rfl, H2.out, bmod Hb.out _⟩
    · have hl := HL.out
      rw [if_neg (by simp; omega), Int.toNat_natCast] at hl
      have HL2 := Lib.hid hl
      have hcap := H2.out.cap
      have hRk2 : R + bk ≤ k := by omega
      clear hl HL hR0
      have hRc : (R : Int) + (bk : Int) ≤ (c : Int) := by omega
      by_cases hcR : c = R
      · have hbk : bk = 0 := by omega
        subst hbk
        have hl := HL2.out
        rw [List.take_zero] at hl
        simp only [List.any_nil, Bool.false_eq_true, if_false, Prod.mk.injEq] at hl
        obtain ⟨rfl, rfl⟩ := hl
        clear HL2
        go_wp2_with fail
        go_loopw [51] (fun i wr => i = .int .i64 0 ∧ wr = w2) (fun i _ => 0)
        case atStart => exact ⟨rfl, rfl⟩
        case round =>
          obtain ⟨rfl, rfl⟩ := hrel
          obtain ⟨h5, hm5⟩ := H2.out.set2 ((R : Int) + ((0 : Nat) : Int))
          have hfz := frozen_of_row _ d 2 _ _ H2.out.obj
          have HF := Lib.hid h5
          have HMF := Lib.hid ((bmod Hb.out (TF B K)).trans hm5)
          clear h5 hm5
          go_wp2
          go_ret
          first | exact ⟨rfl, HF.out, HMF.out⟩ | exact ⟨rfl, by simpa using HF.out, by simpa using HMF.out⟩
      · have hrow := H2.out.r.own.row
        rw [H2.out.r.len] at hrow
        obtain ⟨x, rfl⟩ : ∃ x, a = some ⟨x, 0, none⟩ := by
          obtain ⟨_, h0 | ⟨g', cur, ha, _⟩⟩ := hrow
          · omega
          · exact ⟨g', ha⟩
        have Hrow := Lib.hid hrow
        have Hal : Hid (∀ (j : Nat), j < bk → ∃ v : CellV, (∀ (wz : World), Below w2.heap.size w2 wz → wz.cell? ⟨x, R * 3 + j * 3, none⟩ = some (.int .i64 v.kind) ∧ wz.cell? ⟨x, R * 3 + j * 3 + 1, none⟩ = some (.slice v.d.a v.d.l.length v.d.c) ∧ wz.cell? ⟨x, R * 3 + j * 3 + 2, none⟩ = some (.bool v.bad)) ∧ ((M.cells.drop R).take (j + 1)).any isMark = (((M.cells.drop R).take j).any isMark || decide (v.kind = 2))) := Lib.hid fun j hj => by
          have hjc : R + j < cs.length := by rw [H2.out.r.len]; omega
          obtain ⟨x', hx', _, hlx, hat, _⟩ := H2.out.r.own.row.elem CellV.len (by decide) hjc
          obtain rfl : x = x' := by simpa using hx'
          refine ⟨cs[R + j], fun wz hbz => ⟨?_, ?_, ?_⟩, ?_⟩
          · rw [← Nat.add_mul]
            exact (World.cell?_of_block (w := w2) (a := ⟨x, (R + j) * 3, none⟩) (hbz.block x hlx)).trans (hat 0 _ rfl)
          · rw [← Nat.add_mul]
            exact (World.cell?_of_block (w := w2) (a := ⟨x, (R + j) * 3 + 1, none⟩) (hbz.block x hlx)).trans (hat 1 _ rfl)
          · rw [← Nat.add_mul]
            exact (World.cell?_of_block (w := w2) (a := ⟨x, (R + j) * 3 + 2, none⟩) (hbz.block x hlx)).trans (hat 2 _ rfl)
          · have hjm : j < (M.cells.drop R).length := by rw [List.length_drop, hkl]; omega
            rw [take_succ_list _ j hjm, List.any_append]
            congr 1
            have hg : (M.cells.drop R)[j] = cs[R + j].pl := by
              have h1 := pls_get hjc
              rw [H2.out.r.pls] at h1
              rw [List.getElem_drop]
              exact (List.getElem?_eq_some_iff.1 h1).2
            rw [hg]
            simp [isMark, CellV.pl]
        clear hrow hkl
        go_wp2_with fail
        go_loopw [51] (fun i wr => ∃ (j : Nat), j ≤ bk ∧ i = .int .i64 (j : Int) ∧ Below w2.heap.size w2 wr ∧ ((M.cells.drop R).take j).any isMark = false) (fun i _ => bk - (intOf i).toNat)
        case atStart => exact ⟨0, by omega, rfl, Below.refl _ _, rfl⟩
        case round =>
          rename_i wr
          obtain ⟨j, hj, rfl, hbr, han⟩ := hrel
          have Han := Lib.hid han
          clear han
          by_cases hjb : j < bk
          · obtain ⟨v, hv, hvs⟩ := Hal.out j hjb
            obtain ⟨c0, c1, c2⟩ := hv wr hbr
            have Hvs := Lib.hid hvs
            clear hv hvs
            obtain ⟨kd, ⟨xa, xc, xl⟩, bd⟩ := v
            dsimp only at c0 c1 c2
            have hput := CellAt.put wr #[.int .i64 0, .slice none 0 0, .bool false] _ rfl ⟨kd, ⟨xa, xc, xl⟩, bd⟩
            have hbp := below_putc wr #[.int .i64 0, .slice none 0 0, .bool false] _ rfl ⟨kd, ⟨xa, xc, xl⟩, bd⟩
            obtain ⟨m0, m1, m2⟩ := hput.cells
            dsimp only at hput hbp m0 m1 m2
            have hb03 := bthen hbr hbp (Nat.le_refl _)
            by_cases hm : kd = 2
            · subst hm
              have hall : ((M.cells.drop R).take bk).any isMark = true := by
                rw [List.any_eq_true]
                have h1 : ((M.cells.drop R).take (j + 1)).any isMark = true := by rw [Hvs.out]; simp
                rw [List.any_eq_true] at h1
                obtain ⟨y, hy, hm⟩ := h1
                refine ⟨y, ?_, hm⟩
                rw [show (M.cells.drop R).take (j + 1) = ((M.cells.drop R).take bk).take (j + 1) by rw [List.take_take, Nat.min_eq_left (by omega)]] at hy
                exact List.mem_of_mem_take hy
              have hl := HL2.out
              rw [if_pos hall] at hl
              simp only [Prod.mk.injEq] at hl
              obtain ⟨rfl, rfl⟩ := hl
              have HF := Lib.hid (H2.out.ext hb03)
              clear hall
              go_wp2_with (refine wpList_store_row rfl rfl 30 (.tmp 10) (.tmp 54) rfl wr.heap.size rfl 30 #[.int .i64 0, .slice none 0 0, .bool false] #[.int .i64 2, .slice xa xl.length xc, .bool bd] rfl (heap_alloc_new wr _) rfl (by kernel_rfl) (CellV.one ⟨2, ⟨xa, xc, xl⟩, bd⟩) ?_)
              go_ret
              first | exact ⟨rfl, HF.out, bmod (bthen Hb.out hb03 (Nat.le_refl _)) _⟩ | exact ⟨rfl, H2.out.ext (bthen hbr (ext_alloc _ _) (Nat.le_refl _)), bmod (bthen Hb.out (bthen hbr (ext_alloc _ _) (Nat.le_refl _)) (Nat.le_refl _)) _⟩
            · have e2 : (kd == 2) = false := by simpa using hm
              have Hn2 : Hid (((M.cells.drop R).take (j + 1)).any isMark = false) := Lib.hid (by rw [Hvs.out, Han.out]; simp [hm])
              clear hm
              go_wp2_with (refine wpList_store_row rfl rfl 30 (.tmp 10) (.tmp 54) rfl wr.heap.size rfl 30 #[.int .i64 0, .slice none 0 0, .bool false] #[.int .i64 kd, .slice xa xl.length xc, .bool bd] rfl (heap_alloc_new wr _) rfl (by kernel_rfl) (CellV.one ⟨kd, ⟨xa, xc, xl⟩, bd⟩) ?_)
              go_roundw
              case rel => exact ⟨j + 1, by omega, by go_num, hb03, Hn2.out⟩
              case measure => simp [intOf]; omega
          · obtain rfl : j = bk := by omega
            have hl := HL2.out
            rw [if_neg (by rw [Han.out]; decide)] at hl
            simp only [Prod.mk.injEq] at hl
            obtain ⟨rfl, rfl⟩ := hl
            have H3 := H2.out.ext hbr
            obtain ⟨h5, hm5⟩ := H3.set2 ((R : Int) + (j : Int))
            have hfz := frozen_of_row _ d 2 _ _ H3.obj
            have e2 := H3.cells.2.2.1
            have HF := Lib.hid h5
            have HMF := Lib.hid ((bmod (bthen Hb.out hbr (Nat.le_refl _)) (TF B K)).trans hm5)
            clear h5 hm5 H3
            go_wp2
            go_ret
            exact ⟨rfl, HF.out, HMF.out⟩
  · subst hE hR
    have hl := HL.out
    rw [if_pos (.inl (by decide))] at hl
    simp only [Prod.mk.injEq] at hl
    obtain ⟨rfl, rfl⟩ := hl
    go_wp2
    go_ret
    exact ⟨rfl, H2.out, bmod Hb.out _⟩
end Go.Proofs.Ytjngfkkbfkoedaa
