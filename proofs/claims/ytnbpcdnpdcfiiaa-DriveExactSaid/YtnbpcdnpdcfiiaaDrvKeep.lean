/- Drives: plain lemmas of their writes; power's methods beside a drive; what stays beside a drive. -/
import Derived.Test.YtnbpcdnpdcfiiaaDriveExactPartI
import Derived.Test.YtnbpcdnpdcfiiaaDriveExactPartH
import Derived.Test.YtnbpcdnpdcfiiaaDriveExactPartJ
namespace Go.Proofs.Ytnbpcdnpdcfiiaa
open Go.RowKit

theorem locate_zero {m : Med} (h : marks m.cells = 0) {p : Nat} (hp : p ≤ m.cells.length) (q : Int) : m.locate 0 (p : Int) q = (0, (p : Int)) := by
  have hb : m.behind 0 = (0, 0) := by unfold Med.behind; rw [if_pos rfl]
  have hn : ((m.cells.drop 0).take p).any isMark = false := by
    rw [List.drop_zero, Bool.eq_false_iff]
    intro hc
    rw [List.any_eq_true] at hc
    obtain ⟨y, hy, hm⟩ := hc
    unfold marks at h
    rw [List.countP_eq_zero] at h
    exact h y (List.mem_of_mem_take hy) hm
  unfold Med.locate
  rw [if_neg (by omega), hb, if_neg (by simp; omega)]
  show (if ((m.cells.drop (0 : Int).toNat).take (p : Int).toNat).any isMark = true then (8, q) else (0, 0 + (p : Int))) = _
  rw [Int.toNat_natCast, show (0 : Int).toNat = 0 from rfl, hn]
  simp
theorem dvWrite_full {m : Med} {p : Nat} (hp : p ≤ m.cells.length) (hc : (p : Int) = m.cap) {b : List Byte} (hb : 1 ≤ b.length ∧ b.length ≤ 256) : dvWrite PS.new m p b = (7, PS.new, m, (p : Int)) := by
  unfold dvWrite
  rw [if_neg (by decide), wrong_full hp hc _ _ (fun _ => hb), if_pos (by decide)]
theorem dvWrite_ok {m : Med} {p : Nat} (hp : p ≤ m.cells.length) (hc : (p : Int) < m.cap) {b : List Byte} (hb : 1 ≤ b.length ∧ b.length ≤ 256) : dvWrite PS.new m p b = (0, PS.new, m.lay p ⟨1, b, false⟩, (p : Int) + 1) := by
  unfold dvWrite
  rw [if_neg (by decide), wrong_zero hp hc _ _ (fun _ => hb), if_neg (by decide)]
  rfl
theorem dvMark_ok {m : Med} {p : Nat} (hp : p ≤ m.cells.length) (hc : (p : Int) < m.cap) : dvMark PS.new m p = (0, PS.new, m.lay p ⟨2, [], false⟩, (p : Int) + 1) := by
  unfold dvMark
  rw [if_neg (by decide), wrong_zero hp hc _ _ (fun h => by cases h), if_neg (by decide)]
  rfl
/-- The power that goes at the first write. -/
def PS.last (t : Int) : PS := PS.new.arm 1 [] t
def PS.gone (t : Int) : PS := ⟨true, 0, [], t, none⟩
theorem PS.last_spend (t : Int) : (PS.last t).spend = (false, PS.gone t) := rfl
theorem PS.gone_torn (t : Int) : (PS.gone t).torn = t := rfl
/-- What is behind a write that was cut. -/
def tornM (m : Med) (p : Nat) (X : List CellP) (t : Int) : Med := if 0 ≤ t then ⟨m.cap, m.cells.take p ++ X⟩ else m
theorem tornM_cap (m : Med) (p : Nat) (X : List CellP) (t : Int) : (tornM m p X t).cap = m.cap := by unfold tornM; split <;> rfl
theorem tornM_len (m : Med) (p : Nat) (X : List CellP) (t : Int) : (tornM m p X t).cells.length ≤ m.cells.length + X.length := by
  unfold tornM
  split
  · rw [List.length_append, List.length_take]; omega
  · omega
theorem tornM_ge {m : Med} {p : Nat} (X : List CellP) (t : Int) (h : p ≤ m.cells.length) : p ≤ (tornM m p X t).cells.length := by
  unfold tornM
  split
  · rw [List.length_append, List.length_take]; omega
  · exact h
theorem tornM_mem {m : Med} {p : Nat} {X : List CellP} {t : Int} {y : CellP} (h : y ∈ (tornM m p X t).cells) : y ∈ m.cells ∨ y ∈ X := by
  unfold tornM at h
  split at h
  · rcases List.mem_append.1 h with h | h
    · exact .inl (List.mem_of_mem_take h)
    · exact .inr h
  · exact .inl h
theorem tornM_get {m : Med} {p : Nat} (X : List CellP) (t : Int) {j : Nat} (hj : j < p) (h : p ≤ m.cells.length) : (tornM m p X t).cells[j]? = m.cells[j]? := by
  unfold tornM
  split
  · rw [List.getElem?_append_left (by rw [List.length_take]; omega), List.getElem?_take, if_pos hj]
  · rfl
theorem tornM_end {m : Med} {p : Nat} (x : CellP) {t : Int} (ht : 0 ≤ t) (h : p ≤ m.cells.length) : (tornM m p [x] t).cells[p]? = some x := by
  unfold tornM
  rw [if_pos ht, List.getElem?_append_right (by rw [List.length_take]; omega), List.length_take, Nat.min_eq_left h, Nat.sub_self]
  rfl
theorem tornM_pos {m : Med} {p : Nat} (X : List CellP) {t : Int} (ht : 0 ≤ t) (h : p ≤ m.cells.length) : (tornM m p X t).cells.length = p + X.length := by
  unfold tornM
  rw [if_pos ht, List.length_append, List.length_take, Nat.min_eq_left h]
theorem dvWrite_cut {m : Med} {p : Nat} (hp : p ≤ m.cells.length) (hc : (p : Int) < m.cap) {b : List Byte} (hb : 1 ≤ b.length ∧ b.length ≤ 256) (t : Int) : dvWrite (PS.last t) m p b = (5, PS.gone t, tornM m p [⟨3, b.take t.toNat, false⟩] t, (p : Int)) := by
  unfold dvWrite
  rw [if_neg (by simp [PS.last, PS.arm, PS.new]), wrong_zero hp hc _ _ (fun _ => hb), if_neg (by decide), PS.last_spend, if_neg (by simp), PS.gone_torn]
  unfold tornM
  split <;> rfl
theorem dvMark_cut {m : Med} {p : Nat} (hp : p ≤ m.cells.length) (hc : (p : Int) < m.cap) (t : Int) : dvMark (PS.last t) m p = (5, PS.gone t, tornM m p [⟨2, [], false⟩] t, (p : Int)) := by
  unfold dvMark
  rw [if_neg (by simp [PS.last, PS.arm, PS.new]), wrong_zero hp hc _ _ (fun h => by cases h), if_neg (by decide), PS.last_spend, if_neg (by simp), PS.gone_torn]
  unfold tornM
  split <;> rfl
theorem dvEnd_cut {m : Med} {p : Nat} (t : Int) : dvEnd (PS.last t) m p = (5, PS.gone t, tornM m p [] t) := by
  unfold dvEnd
  rw [if_neg (by simp [PS.last, PS.arm, PS.new]), PS.last_spend, if_neg (by simp), PS.gone_torn]
  unfold tornM
  rw [List.append_nil]
  split <;> rfl

variable {B : Nat} {K K' : Nat → Prop} {w w' : World} {d g : Nat} {M : Med} {at_ : Int} {s : PS}
theorem DrvP.rek (h : DrvP B K w d g M at_ s) (hK : ∀ b, B ≤ b → b < w.heap.size → K b → K' b) : DrvP B K' w d g M at_ s := by
  obtain ⟨⟨a, k, c, cs, h⟩, hp⟩ := h
  have hrw := h.r.own.row
  rw [h.r.len] at hrw
  exact ⟨⟨a, k, c, cs, h.low, hK _ h.low (heap_lt h.obj) h.kd, h.obj, h.r, h.cap, hrw.rowInAnd h.kr hK, fun x hx => (h.r.own.dat x hx).rowInAnd (h.du x hx) hK⟩, hp⟩
theorem DrvP.pow (h : DrvP B K w d g M at_ s) : Pow B w g s := h.2
theorem DrvP.low (h : DrvP B K w d g M at_ s) : B ≤ w.heap.size := by
  obtain ⟨⟨a, k, c, cs, h⟩, hp⟩ := h
  exact Nat.le_of_lt (Nat.lt_of_le_of_lt h.low (heap_lt h.obj))
theorem drv_trip (n t : Int) (s' : PS) (w : World) (hd : DrvP B K w d g M at_ s) (hn : n ≤ 9223372036854775807) (hs : s.arm n [] t = s') :
    Calls Try.prog 28 #[.pointer (some ⟨g, 0, none⟩), .int .i64 n, .slice none 0 0, .int .i64 t] w fun e w' => e = .returned (.tuple #[]) ∧ DrvP B K w' d g M at_ s' ∧ Mod (VF B K) w w' := by
  have hB := hd.low
  obtain ⟨⟨a, k, c, cs, h⟩, hp⟩ := hd
  refine (arm_nil hB hp hs hn).mono ?_
  rintro e w2 ⟨rfl, hp2, hm⟩
  exact ⟨rfl, ⟨⟨a, k, c, cs, h.pf hm⟩, hp2⟩, PF.vf hm⟩
/-- A tape of one's own beside a drive. -/
theorem MedR.vf {W : Nat} {M : Med} {a : Option Addr} {k c : Nat} {cs : List CellV} (h : MedR w W M a k c cs) (hm : Mod (VF B K) w w') (hK : ∀ b, W ≤ b → b < w.heap.size → ¬ K b) : MedR w' W M a k c cs := by
  refine ⟨⟨h.own.row.modI (N := w.heap.size) hm h.own.row.bnd fun b h1 h2 hf => ?_, fun x hx => (h.own.dat x hx).mod hm fun b _ _ => VF_no_u8 b, h.own.apart⟩, h.len, h.pls⟩
  rcases hf.2 with hf | hf
  · revert hf; decide
  · exact hK b h1 h2 hf.1
theorem VF_no_med (b : Nat) : ¬ VF B K b 24 := by
  rintro ⟨_, h | ⟨_, h⟩⟩ <;> revert h <;> decide
theorem TapeO.vf {W g : Nat} {M : Med} {a : Option Addr} {k c : Nat} {cs : List CellV} (h : TapeO w W g M a k c cs) (hm : Mod (VF B K) w w') (hK : ∀ b, W ≤ b → b < w.heap.size → ¬ K b) : TapeO w' W g M a k c cs :=
  ⟨hm.keep h.box (VF_no_med _), h.r.vf hm hK, h.cap⟩
/-- What stands at a place of a tape. -/
theorem TapeAt.cell {G : Nat} {M : Med} {a : Option Addr} {k c : Nat} {cs : List CellV} (h : TapeAt w G M a k c cs) {j : Nat} {y : CellP} (hj : M.cells[j]? = some y) :
    ∃ x o da dc, a = some ⟨x, o, none⟩ ∧ x < w.heap.size ∧ w.cell? ⟨x, o + j * 3, none⟩ = some (.int .i64 y.kind) ∧ w.cell? ⟨x, o + j * 3 + 1, none⟩ = some (.slice da y.data.length dc) ∧ w.cell? ⟨x, o + j * 3 + 2, none⟩ = some (.bool y.bad) ∧ Src w da (bvs y.data) ∧ j < k := by
  have hjl := (List.getElem?_eq_some_iff.1 hj).1
  rw [← h.pls, pls_length] at hjl
  obtain ⟨x, o, ha, hlx, hat⟩ := h.mat.src.elem CellV.len (by decide) hjl
  have hg := pls_get hjl
  rw [h.pls, hj] at hg
  obtain rfl : y = cs[j].pl := by simpa using hg
  exact ⟨x, o, cs[j].d.a, cs[j].d.c, ha, hlx, hat j hjl 0 _ rfl, hat j hjl 1 _ rfl, hat j hjl 2 _ rfl, (h.mat.row _ (List.getElem_mem hjl)).1, by rw [h.len]; exact hjl⟩
end Go.Proofs.Ytnbpcdnpdcfiiaa
