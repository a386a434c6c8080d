/- Several texts of this claim, one behind the other: TapeO, MRel, Ints, PS. -/
import Derived.Test.YtjngfkkbfkoedaaVolumeFormatsPartE
import Derived.Test.YtjngfkkbfkoedaaVolumeFormatsPartD
import Derived.Test.YtjngfkkbfkoedaaBase
/- A tape of the call's own in a variable. -/
namespace Go.Proofs.Ytjngfkkbfkoedaa
open Go.RowKit

/-- In block g stands the tape M, all of whose memory is the call's own. -/
structure TapeO (w : World) (B g : Nat) (M : Med) (a : Option Addr) (k c : Nat) (cs : List CellV) : Prop where
  box : BoxM w g M.cap a k c
  r : MedR w B M a k c cs
  cap : k ≤ c
theorem TapeO.ext {w w' : World} {B g : Nat} {M : Med} {a : Option Addr} {k c : Nat} {cs : List CellV} (h : TapeO w B g M a k c cs) (hb : Below w.heap.size w w') : TapeO w' B g M a k c cs := ⟨h.box.ext hb, h.r.ext hb, h.cap⟩
theorem TapeO.at {w : World} {B g : Nat} {M : Med} {a : Option Addr} {k c : Nat} {cs : List CellV} (h : TapeO w B g M a k c cs) : TapeAt w g M a k c cs := ⟨h.box, h.r.mat, h.r.len.symm, h.r.pls, h.cap⟩
theorem TapeO.other {w : World} {B g g' : Nat} {M : Med} {a : Option Addr} {k c : Nat} {cs : List CellV} {old new : Array Value} (h : TapeO w B g M a k c cs) (hg : w.heap[g']? = some (.cells old 24 (0, 0))) (hne : g ≠ g') : TapeO (w.setRow g' new) B g M a k c cs :=
  ⟨(setRow_other w g' g _ hne).trans h.box, h.r.setRow hg, h.cap⟩
theorem TapeO.put {w : World} {B g : Nat} {M : Med} {a : Option Addr} {k c : Nat} {cs : List CellV} {old : Array Value} (cp : Int) (hcp : M.cap = cp) (h : MedR w B M a k c cs) (hc : k ≤ c) (hg : w.heap[g]? = some (.cells old 24 (0, 0))) : TapeO (w.setRow g #[.int .i64 cp, .slice a k c]) B g M a k c cs := by
  subst hcp
  exact ⟨setRow_heap w g _ _ _ _ hg, h.setRow hg, hc⟩
theorem TapeO.mono {w : World} {B B' g : Nat} {M : Med} {a : Option Addr} {k c : Nat} {cs : List CellV} (h : TapeO w B g M a k c cs) (hB : B' ≤ B) : TapeO w B' g M a k c cs := ⟨h.box, h.r.mono hB, h.cap⟩

/- Tapes that grow. -/
def cellOf (b : List Byte) : CellP := if b.length = 0 then ⟨2, [], false⟩ else ⟨1, b, false⟩
def grown (size : Int) (ps : List Bsl) : Med := ⟨size, ps.map fun p => cellOf p.l⟩
theorem grown_len (size : Int) (ps : List Bsl) : (grown size ps).cells.length = ps.length := List.length_map _
theorem cellOf_right {b : List Byte} (h : b.length ≤ 256) : (cellOf b).right = true := by
  unfold cellOf
  split
  · decide
  · exact right_blk ⟨by omega, h⟩
theorem grown_ok {size : Int} {ps : List Bsl} (h1 : 1 ≤ size) (h2 : size ≤ 400) (hl : (ps.length : Int) ≤ size) (hs : ∀ p ∈ ps, p.l.length ≤ 256) : (grown size ps).ok = true := by
  rw [Med.ok_iff]
  refine ⟨⟨h1, h2, by rw [grown_len]; exact hl⟩, fun c hc => ?_⟩
  obtain ⟨p, hp, rfl⟩ := List.mem_map.1 hc
  exact cellOf_right (hs p hp)
theorem grown_step {size : Int} {ps : List Bsl} {k : Nat} (hk : k < ps.length) : (Med.mk size (((ps.take k).map fun p => cellOf p.l) ++ [cellOf ps[k].l])) = grown size (ps.take (k + 1)) := by
  unfold grown
  rw [take_succ_list ps k hk, List.map_append]
  rfl
theorem grown_take {size : Int} {ps : List Bsl} {k : Nat} (hk : k ≤ ps.length) (x : CellP) : (grown size (ps.take k)).lay k x = ⟨size, ((ps.take k).map fun p => cellOf p.l) ++ [x]⟩ := by
  unfold Med.lay grown
  show Med.mk size ((((ps.take k).map fun p => cellOf p.l)).take k ++ [x]) = _
  rw [List.take_of_length_le (by rw [List.length_map, List.length_take]; omega)]
theorem Med.tear_ok {m : Med} (h : m.ok = true) {p : Nat} (hp : p ≤ m.cells.length) (hc : (p : Int) < m.cap) {b : List Byte} (hb : 1 ≤ b.length ∧ b.length ≤ 256) (keep : Int) : m.tear (p : Int) b keep = (if keep < 0 then m else m.lay p ⟨3, b.take keep.toNat, false⟩, 0) := by
  unfold Med.tear
  rw [if_neg (by rw [h]; decide), wrong_zero hp hc _ _ (fun _ => hb), if_neg (by decide), Int.toNat_natCast]
  split <;> rfl
theorem Med.tear_full {m : Med} (h : m.ok = true) {p : Nat} (hp : p ≤ m.cells.length) (hc : (p : Int) = m.cap) {b : List Byte} (hb : 1 ≤ b.length ∧ b.length ≤ 256) (keep : Int) : m.tear (p : Int) b keep = (Med.none, 7) := by
  unfold Med.tear
  rw [if_neg (by rw [h]; decide), wrong_full hp hc _ _ (fun _ => hb), if_pos (by decide)]
/-- A round of the law, ahead of the end of the tape: what tearing, reading, writing tell. -/
theorem grow_torn {m : Med} (h : m.ok = true) {p : Nat} (hp : p = m.cells.length) (hc : (p : Int) < m.cap) {b : List Byte} (hb : 1 ≤ b.length ∧ b.length ≤ 256) {keep : Int} {T : Med} {E : Int} (ht : m.tear (p : Int) b keep = (T, E)) :
    E = 0 ∧ T.write (p : Int) b = (m.lay p ⟨1, b, false⟩, 0) ∧ T.read (p : Int) = ([], if keep < 0 then 8 else 6) := by
  rw [Med.tear_ok h (by omega) hc hb] at ht
  simp only [Prod.mk.injEq] at ht
  obtain ⟨rfl, rfl⟩ := ht
  refine ⟨rfl, ?_⟩
  by_cases hk : keep < 0
  · rw [if_pos hk, if_pos hk]
    exact ⟨Med.write_ok h (by omega) hc hb, by rw [hp]; exact Med.read_past h⟩
  · rw [if_neg hk, if_neg hk]
    have hr : (CellP.mk 3 (b.take keep.toNat) false).right = true := by
      unfold CellP.right rightC
      rw [decide_eq_true_eq]
      exact .inr (.inr ⟨rfl, by show (b.take keep.toNat).length ≤ 256; rw [List.length_take]; omega⟩)
    have hk2 := Med.lay_ok h (p := p) (by omega) hc hr
    have hl := Med.lay_len (m := m) (p := p) (by omega) ⟨3, b.take keep.toNat, false⟩
    refine ⟨(Med.write_ok hk2 (by omega) hc hb).trans ?_, (Med.read_at hk2 (Med.lay_get (by omega) _)).trans (by simp)⟩
    show (Med.mk m.cap ((m.cells.take p ++ [_]).take p ++ [_]), (0 : Int)) = (Med.mk m.cap (m.cells.take p ++ [_]), 0)
    rw [List.take_append_of_le_length (by rw [List.length_take]; omega), List.take_take, Nat.min_self]
end Go.Proofs.Ytjngfkkbfkoedaa

/- What a store of a tape leaves: all but tapes' own variables (K). -/
namespace Go.Proofs.Ytjngfkkbfkoedaa
open Go.RowKit

structure MRel (K : Nat → Prop) (w1 w2 : World) : Prop where
  mod : Mod (fun b T => K b ∧ T = 24) w1 w2
  row : ∀ (b : Nat) (cs : Array Value), w1.heap[b]? = some (.cells cs 24 (0, 0)) → ∃ cs', w2.heap[b]? = some (.cells cs' 24 (0, 0)) ∧ cs'.size = cs.size
theorem MRel.rel (K : Nat → Prop) : Trel (MRel K) := by
  refine ⟨fun h k => ⟨h.mod.trans k.mod, fun b cs hc => ?_⟩, fun h => ⟨bmod h _, fun b cs hc => ⟨cs, (h.block b (heap_lt hc)).trans hc, rfl⟩⟩⟩
  obtain ⟨cs1, h1, e1⟩ := h.row b cs hc
  obtain ⟨cs2, h2, e2⟩ := k.row b cs1 h1
  exact ⟨cs2, h2, e2.trans e1⟩
theorem MRel.size {K : Nat → Prop} {w1 w2 : World} (h : MRel K w1 w2) : w1.heap.size ≤ w2.heap.size := h.mod.size
theorem MRel.keep {K : Nat → Prop} {w1 w2 : World} (h : MRel K w1 w2) {b : Nat} (hb : b < w1.heap.size) (hk : ¬ K b) : w2.heap[b]? = w1.heap[b]? := by
  rcases h.mod.block b hb with h | ⟨_, _, _, ⟨h, _⟩, _⟩
  · exact h
  · exact absurd h hk
theorem MRel.set {K : Nat → Prop} {w : World} {x : Nat} {old new : Array Value} (hx : K x) (hc : w.heap[x]? = some (.cells old 24 (0, 0))) (hs : old.size = new.size) : MRel K w (w.setRow x new) := by
  refine ⟨Mod.one (bsetRow (Below.refl x _) (Nat.le_refl _) _) (fun b hb => setRow_other w _ b _ hb) hc (setRow_heap w _ _ _ _ _ hc) ⟨hx, rfl⟩, fun b cs hb => ?_⟩
  by_cases hbx : b = x
  · subst hbx
    rw [hc] at hb
    simp only [Option.some.injEq, Obj.cells.injEq] at hb
    obtain ⟨rfl, _⟩ := hb
    exact ⟨new, setRow_heap w b _ _ _ _ hc, hs.symm⟩
  · exact ⟨cs, (setRow_other w x b _ hbx).trans hb, rfl⟩
theorem MedR.mrel {K : Nat → Prop} {w w' : World} {B : Nat} {M : Med} {a : Option Addr} {k c : Nat} {cs : List CellV} (h : MedR w B M a k c cs) (hm : MRel K w w') : MedR w' B M a k c cs :=
  ⟨h.own.mod hm.mod fun b T hf => ⟨fun h => by have := hf.2; subst h; revert this; decide, fun h => by have := hf.2; subst h; revert this; decide⟩, h.len, h.pls⟩
/-- An answer's tape, with its error, with nothing else. -/
def AnsT (B : Nat) (M : Med) (E : Int) (w : World) (v : Value) : Prop := ∃ a k c cs, v = .tuple #[.agg #[.int .i64 M.cap, .slice a k c], .int .i64 E] ∧ MedR w B M a k c cs ∧ k ≤ c
def AnsM (B : Nat) (M : Med) (w : World) (v : Value) : Prop := ∃ a k c cs, v = .agg #[.int .i64 M.cap, .slice a k c] ∧ MedR w B M a k c cs ∧ k ≤ c
theorem AnsT.st {K : Nat → Prop} {B : Nat} {M : Med} {E : Int} (w w' : World) (v : Value) (h : AnsT B M E w v) (hm : MRel K w w') : AnsT B M E w' v := by
  obtain ⟨a, k, c, cs, e, h, hk⟩ := h
  exact ⟨a, k, c, cs, e, h.mrel hm, hk⟩
theorem AnsM.st {K : Nat → Prop} {B : Nat} {M : Med} (w w' : World) (v : Value) (h : AnsM B M w v) (hm : MRel K w w') : AnsM B M w' v := by
  obtain ⟨a, k, c, cs, e, h, hk⟩ := h
  exact ⟨a, k, c, cs, e, h.mrel hm, hk⟩
/-- A new variable for a tape. -/
def NewV (W : Nat) (w : World) (v : Value) : Prop := ∃ x, v = .pointer (some ⟨x, 0, none⟩) ∧ W ≤ x ∧ ∃ (cs : Array Value), w.heap[x]? = some (.cells cs 24 (0, 0)) ∧ cs.size = 2
theorem NewV.st {K : Nat → Prop} {W : Nat} (w w' : World) (v : Value) (h : NewV W w v) (hm : MRel K w w') : NewV W w' v := by
  obtain ⟨x, e, hx, cs, hc, hs⟩ := h
  obtain ⟨cs', h1, h2⟩ := hm.row x cs hc
  exact ⟨x, e, hx, cs', h1, h2.trans hs⟩
end Go.Proofs.Ytjngfkkbfkoedaa

/- Lists of numbers and of booleans. -/
namespace Go.Proofs.Ytjngfkkbfkoedaa
open Go.RowKit

def ivs (zs : List Int) : List Value := zs.map (Value.int .i64)
def bovs (bs : List Bool) : List Value := bs.map Value.bool
theorem ivs_length (zs : List Int) : (ivs zs).length = zs.length := by simp [ivs]
theorem bovs_length (zs : List Bool) : (bovs zs).length = zs.length := by simp [bovs]
theorem src_ints_at {w : World} {a : Option Addr} {zs : List Int} (h : Src w a (ivs zs)) {i : Nat} (hi : i < zs.length) :
    ∃ b o, a = some ⟨b, o, none⟩ ∧ b < w.heap.size ∧ ∀ j (hj : j < zs.length), w.cell? ⟨b, o + j, none⟩ = some (.int .i64 zs[j]) := by
  obtain ⟨b, o, ha, hlt, hat⟩ := h.at (i := i) (by simpa [ivs] using hi)
  refine ⟨b, o, ha, hlt, fun j hj => ?_⟩
  rw [hat j (by simpa [ivs] using hj)]
  simp [ivs]
theorem src_bools_at {w : World} {a : Option Addr} {zs : List Bool} (h : Src w a (bovs zs)) {i : Nat} (hi : i < zs.length) :
    ∃ b o, a = some ⟨b, o, none⟩ ∧ b < w.heap.size ∧ ∀ j (hj : j < zs.length), w.cell? ⟨b, o + j, none⟩ = some (.bool zs[j]) := by
  obtain ⟨b, o, ha, hlt, hat⟩ := h.at (i := i) (by simpa [bovs] using hi)
  refine ⟨b, o, ha, hlt, fun j hj => ?_⟩
  rw [hat j (by simpa [bovs] using hj)]
  simp [bovs]
end Go.Proofs.Ytjngfkkbfkoedaa

/- A power, plain: what its methods do to a state. -/
namespace Go.Proofs.Ytjngfkkbfkoedaa

/-- A power as the page tells it. -/
structure PS where
  off : Bool
  life : Int
  keep : List Bool
  torn : Int
  trip : Option (Int × List Bool × Int)
def PS.new : PS := ⟨false, 0, [], -1, none⟩
def PS.cut (s : PS) (keep : List Bool) (torn : Int) : PS := if s.off then s else { s with off := true, keep := keep, torn := torn, trip := none }
def PS.arm (s : PS) (n : Int) (keep : List Bool) (torn : Int) : PS := { s with trip := if 1 ≤ n then some (n, keep, torn) else none }
def PS.start (s : PS) : PS := if s.off then { s with off := false, life := s.life + 1 } else s
def PS.spend (s : PS) : Bool × PS :=
  if s.off then (false, s) else match s.trip with
    | none => (true, s)
    | some (n, k, t) => if 1 < n then (true, { s with trip := some (n - 1, k, t) }) else (false, s.cut k t)
def PS.kept (s : PS) (k : Int) : Bool := decide (0 ≤ k) && (s.keep.getD k.toNat false)

end Go.Proofs.Ytjngfkkbfkoedaa
