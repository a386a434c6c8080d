/- A tape of the call's own in a variable. -/
import Derived.Test.YtilmldkaagbofaaDriveMarksPartB
import Derived.Test.YtilmldkaagbofaaMedStaysP
import Derived.Test.YtilmldkaagbofaaMedTear
namespace Go.Proofs.Ytilmldkaagbofaa
open Go.RowKit

/-- In block g stands the tape M, all of whose memory is the call's own. -/
structure TapeO (w : World) (B g : Nat) (M : Med) (a : Option Addr) (k c : Nat) (cs : List CellV) : Prop where
  box : BoxM w g M.cap a k c
  r : MedR w B M a k c cs
  cap : k ≤ c
theorem TapeO.ext {w w' : World} {B g : Nat} {M : Med} {a : Option Addr} {k c : Nat} {cs : List CellV} (h : TapeO w B g M a k c cs) (hb : Below w.heap.size w w') : TapeO w' B g M a k c cs := ⟨h.box.ext hb, h.r.ext hb, h.cap⟩
theorem TapeO.at {w : World} {B g : Nat} {M : Med} {a : Option Addr} {k c : Nat} {cs : List CellV} (h : TapeO w B g M a k c cs) : TapeAt w g M a k c cs := ⟨h.box, h.r.mat, h.r.len.symm, h.r.pls, h.cap⟩
theorem TapeO.other {w : World} {B g g' : Nat} {M : Med} {a : Option Addr} {k c : Nat} {cs : List CellV} {old new : Array Value} (h : TapeO w B g M a k c cs) (hg : w.heap[g']? = some (.cells old 32 (0, 0))) (hne : g ≠ g') : TapeO (w.setRow g' new) B g M a k c cs :=
  ⟨(setRow_other w g' g _ hne).trans h.box, h.r.setRow hg, h.cap⟩
theorem TapeO.put {w : World} {B g : Nat} {M : Med} {a : Option Addr} {k c : Nat} {cs : List CellV} {old : Array Value} (cp : Int) (hcp : M.cap = cp) (h : MedR w B M a k c cs) (hc : k ≤ c) (hg : w.heap[g]? = some (.cells old 32 (0, 0))) : TapeO (w.setRow g #[.int .i64 cp, .slice a k c]) B g M a k c cs := by
  subst hcp
  exact ⟨setRow_heap w g _ _ _ _ hg, h.setRow hg, hc⟩
theorem TapeO.mono {w : World} {B B' g : Nat} {M : Med} {a : Option Addr} {k c : Nat} {cs : List CellV} (h : TapeO w B g M a k c cs) (hB : B' ≤ B) : TapeO w B' g M a k c cs := ⟨h.box, h.r.mono hB, h.cap⟩

/- Tapes that grow. -/
def cellOf (b : List Byte) : CellP := if b.length = 0 then ⟨2, [], false⟩ else ⟨1, b, false⟩
def grown (size : Int) (ps : List Bsl) : Med := ⟨size, ps.map fun p => cellOf p.l⟩
theorem grown_len (size : Int) (ps : List Bsl) : (grown size ps).cells.length = ps.length := List.length_map _
theorem cellOf_right {b : List Byte} (h : b.length ≤ 256) : (cellOf b).right = true := by
  unfold cellOf
  split
  · decide
  · exact right_blk ⟨by omega, h⟩
theorem grown_ok {size : Int} {ps : List Bsl} (h1 : 1 ≤ size) (h2 : size ≤ 400) (hl : (ps.length : Int) ≤ size) (hs : ∀ p ∈ ps, p.l.length ≤ 256) : (grown size ps).ok = true := by
  rw [Med.ok_iff]
  refine ⟨⟨h1, h2, by rw [grown_len]; exact hl⟩, fun c hc => ?_⟩
  obtain ⟨p, hp, rfl⟩ := List.mem_map.1 hc
  exact cellOf_right (hs p hp)
theorem grown_step {size : Int} {ps : List Bsl} {k : Nat} (hk : k < ps.length) : (Med.mk size (((ps.take k).map fun p => cellOf p.l) ++ [cellOf ps[k].l])) = grown size (ps.take (k + 1)) := by
  unfold grown
  rw [take_succ_list ps k hk, List.map_append]
  rfl
theorem grown_take {size : Int} {ps : List Bsl} {k : Nat} (hk : k ≤ ps.length) (x : CellP) : (grown size (ps.take k)).lay k x = ⟨size, ((ps.take k).map fun p => cellOf p.l) ++ [x]⟩ := by
  unfold Med.lay grown
  show Med.mk size ((((ps.take k).map fun p => cellOf p.l)).take k ++ [x]) = _
  rw [List.take_of_length_le (by rw [List.length_map, List.length_take]; omega)]
theorem Med.tear_ok {m : Med} (h : m.ok = true) {p : Nat} (hp : p ≤ m.cells.length) (hc : (p : Int) < m.cap) {b : List Byte} (hb : 1 ≤ b.length ∧ b.length ≤ 256) (keep : Int) : m.tear (p : Int) b keep = (if keep < 0 then m else m.lay p ⟨3, b.take keep.toNat, false⟩, 0) := by
  unfold Med.tear
  rw [if_neg (by rw [h]; decide), wrong_zero hp hc _ _ (fun _ => hb), if_neg (by decide), Int.toNat_natCast]
  split <;> rfl
theorem Med.tear_full {m : Med} (h : m.ok = true) {p : Nat} (hp : p ≤ m.cells.length) (hc : (p : Int) = m.cap) {b : List Byte} (hb : 1 ≤ b.length ∧ b.length ≤ 256) (keep : Int) : m.tear (p : Int) b keep = (Med.none, 7) := by
  unfold Med.tear
  rw [if_neg (by rw [h]; decide), wrong_full hp hc _ _ (fun _ => hb), if_pos (by decide)]
/-- A round of the law, ahead of the end of the tape: what tearing, reading, writing tell. -/
theorem grow_torn {m : Med} (h : m.ok = true) {p : Nat} (hp : p = m.cells.length) (hc : (p : Int) < m.cap) {b : List Byte} (hb : 1 ≤ b.length ∧ b.length ≤ 256) {keep : Int} {T : Med} {E : Int} (ht : m.tear (p : Int) b keep = (T, E)) :
    E = 0 ∧ T.write (p : Int) b = (m.lay p ⟨1, b, false⟩, 0) ∧ T.read (p : Int) = ([], if keep < 0 then 8 else 6) := by
  rw [Med.tear_ok h (by omega) hc hb] at ht
  simp only [Prod.mk.injEq] at ht
  obtain ⟨rfl, rfl⟩ := ht
  refine ⟨rfl, ?_⟩
  by_cases hk : keep < 0
  · rw [if_pos hk, if_pos hk]
    exact ⟨Med.write_ok h (by omega) hc hb, by rw [hp]; exact Med.read_past h⟩
  · rw [if_neg hk, if_neg hk]
    have hr : (CellP.mk 3 (b.take keep.toNat) false).right = true := by
      unfold CellP.right rightC
      rw [decide_eq_true_eq]
      exact .inr (.inr ⟨rfl, by show (b.take keep.toNat).length ≤ 256; rw [List.length_take]; omega⟩)
    have hk2 := Med.lay_ok h (p := p) (by omega) hc hr
    have hl := Med.lay_len (m := m) (p := p) (by omega) ⟨3, b.take keep.toNat, false⟩
    refine ⟨(Med.write_ok hk2 (by omega) hc hb).trans ?_, (Med.read_at hk2 (Med.lay_get (by omega) _)).trans (by simp)⟩
    show (Med.mk m.cap ((m.cells.take p ++ [_]).take p ++ [_]), (0 : Int)) = (Med.mk m.cap (m.cells.take p ++ [_]), 0)
    rw [List.take_append_of_le_length (by rw [List.length_take]; omega), List.take_take, Nat.min_self]
end Go.Proofs.Ytilmldkaagbofaa
