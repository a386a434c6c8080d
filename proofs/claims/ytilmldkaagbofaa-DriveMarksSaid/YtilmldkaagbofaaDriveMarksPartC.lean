/- Several texts of this claim, one behind the other: MRel, Ints, PS. -/
import Derived.Test.YtilmldkaagbofaaTapeO
import Derived.Test.YtilmldkaagbofaaBase
/- What a store of a tape leaves: all but tapes' own variables (K). -/
namespace Go.Proofs.Ytilmldkaagbofaa
open Go.RowKit

structure MRel (K : Nat → Prop) (w1 w2 : World) : Prop where
  mod : Mod (fun b T => K b ∧ T = 32) w1 w2
  row : ∀ (b : Nat) (cs : Array Value), w1.heap[b]? = some (.cells cs 32 (0, 0)) → ∃ cs', w2.heap[b]? = some (.cells cs' 32 (0, 0)) ∧ cs'.size = cs.size
theorem MRel.rel (K : Nat → Prop) : Trel (MRel K) := by
  refine ⟨fun h k => ⟨h.mod.trans k.mod, fun b cs hc => ?_⟩, fun h => ⟨bmod h _, fun b cs hc => ⟨cs, (h.block b (heap_lt hc)).trans hc, rfl⟩⟩⟩
  obtain ⟨cs1, h1, e1⟩ := h.row b cs hc
  obtain ⟨cs2, h2, e2⟩ := k.row b cs1 h1
  exact ⟨cs2, h2, e2.trans e1⟩
theorem MRel.size {K : Nat → Prop} {w1 w2 : World} (h : MRel K w1 w2) : w1.heap.size ≤ w2.heap.size := h.mod.size
theorem MRel.keep {K : Nat → Prop} {w1 w2 : World} (h : MRel K w1 w2) {b : Nat} (hb : b < w1.heap.size) (hk : ¬ K b) : w2.heap[b]? = w1.heap[b]? := by
  rcases h.mod.block b hb with h | ⟨_, _, _, ⟨h, _⟩, _⟩
  · exact h
  · exact absurd h hk
theorem MRel.set {K : Nat → Prop} {w : World} {x : Nat} {old new : Array Value} (hx : K x) (hc : w.heap[x]? = some (.cells old 32 (0, 0))) (hs : old.size = new.size) : MRel K w (w.setRow x new) := by
  refine ⟨Mod.one (bsetRow (Below.refl x _) (Nat.le_refl _) _) (fun b hb => setRow_other w _ b _ hb) hc (setRow_heap w _ _ _ _ _ hc) ⟨hx, rfl⟩, fun b cs hb => ?_⟩
  by_cases hbx : b = x
  · subst hbx
    rw [hc] at hb
    simp only [Option.some.injEq, Obj.cells.injEq] at hb
    obtain ⟨rfl, _⟩ := hb
    exact ⟨new, setRow_heap w b _ _ _ _ hc, hs.symm⟩
  · exact ⟨cs, (setRow_other w x b _ hbx).trans hb, rfl⟩
theorem MedR.mrel {K : Nat → Prop} {w w' : World} {B : Nat} {M : Med} {a : Option Addr} {k c : Nat} {cs : List CellV} (h : MedR w B M a k c cs) (hm : MRel K w w') : MedR w' B M a k c cs :=
  ⟨h.own.mod hm.mod fun b T hf => ⟨fun h => by have := hf.2; subst h; revert this; decide, fun h => by have := hf.2; subst h; revert this; decide⟩, h.len, h.pls⟩
/-- An answer's tape, with its error, with nothing else. -/
def AnsT (B : Nat) (M : Med) (E : Int) (w : World) (v : Value) : Prop := ∃ a k c cs, v = .tuple #[.agg #[.int .i64 M.cap, .slice a k c], .int .i64 E] ∧ MedR w B M a k c cs ∧ k ≤ c
def AnsM (B : Nat) (M : Med) (w : World) (v : Value) : Prop := ∃ a k c cs, v = .agg #[.int .i64 M.cap, .slice a k c] ∧ MedR w B M a k c cs ∧ k ≤ c
theorem AnsT.st {K : Nat → Prop} {B : Nat} {M : Med} {E : Int} (w w' : World) (v : Value) (h : AnsT B M E w v) (hm : MRel K w w') : AnsT B M E w' v := by
  obtain ⟨a, k, c, cs, e, h, hk⟩ := h
  exact ⟨a, k, c, cs, e, h.mrel hm, hk⟩
theorem AnsM.st {K : Nat → Prop} {B : Nat} {M : Med} (w w' : World) (v : Value) (h : AnsM B M w v) (hm : MRel K w w') : AnsM B M w' v := by
  obtain ⟨a, k, c, cs, e, h, hk⟩ := h
  exact ⟨a, k, c, cs, e, h.mrel hm, hk⟩
/-- A new variable for a tape. -/
def NewV (W : Nat) (w : World) (v : Value) : Prop := ∃ x, v = .pointer (some ⟨x, 0, none⟩) ∧ W ≤ x ∧ ∃ (cs : Array Value), w.heap[x]? = some (.cells cs 32 (0, 0)) ∧ cs.size = 2
theorem NewV.st {K : Nat → Prop} {W : Nat} (w w' : World) (v : Value) (h : NewV W w v) (hm : MRel K w w') : NewV W w' v := by
  obtain ⟨x, e, hx, cs, hc, hs⟩ := h
  obtain ⟨cs', h1, h2⟩ := hm.row x cs hc
  exact ⟨x, e, hx, cs', h1, h2.trans hs⟩
end Go.Proofs.Ytilmldkaagbofaa

/- Lists of numbers and of booleans. -/
namespace Go.Proofs.Ytilmldkaagbofaa
open Go.RowKit

def ivs (zs : List Int) : List Value := zs.map (Value.int .i64)
def bovs (bs : List Bool) : List Value := bs.map Value.bool
theorem ivs_length (zs : List Int) : (ivs zs).length = zs.length := by simp [ivs]
theorem bovs_length (zs : List Bool) : (bovs zs).length = zs.length := by simp [bovs]
theorem src_ints_at {w : World} {a : Option Addr} {zs : List Int} (h : Src w a (ivs zs)) {i : Nat} (hi : i < zs.length) :
    ∃ b o, a = some ⟨b, o, none⟩ ∧ b < w.heap.size ∧ ∀ j (hj : j < zs.length), w.cell? ⟨b, o + j, none⟩ = some (.int .i64 zs[j]) := by
  obtain ⟨b, o, ha, hlt, hat⟩ := h.at (i := i) (by simpa [ivs] using hi)
  refine ⟨b, o, ha, hlt, fun j hj => ?_⟩
  rw [hat j (by simpa [ivs] using hj)]
  simp [ivs]
theorem src_bools_at {w : World} {a : Option Addr} {zs : List Bool} (h : Src w a (bovs zs)) {i : Nat} (hi : i < zs.length) :
    ∃ b o, a = some ⟨b, o, none⟩ ∧ b < w.heap.size ∧ ∀ j (hj : j < zs.length), w.cell? ⟨b, o + j, none⟩ = some (.bool zs[j]) := by
  obtain ⟨b, o, ha, hlt, hat⟩ := h.at (i := i) (by simpa [bovs] using hi)
  refine ⟨b, o, ha, hlt, fun j hj => ?_⟩
  rw [hat j (by simpa [bovs] using hj)]
  simp [bovs]
end Go.Proofs.Ytilmldkaagbofaa

/- A power, plain: what its methods do to a state. -/
namespace Go.Proofs.Ytilmldkaagbofaa

/-- A power as the page tells it. -/
structure PS where
  off : Bool
  life : Int
  keep : List Bool
  torn : Int
  trip : Option (Int × List Bool × Int)
def PS.new : PS := ⟨false, 0, [], -1, none⟩
def PS.cut (s : PS) (keep : List Bool) (torn : Int) : PS := if s.off then s else { s with off := true, keep := keep, torn := torn, trip := none }
def PS.arm (s : PS) (n : Int) (keep : List Bool) (torn : Int) : PS := { s with trip := if 1 ≤ n then some (n, keep, torn) else none }
def PS.start (s : PS) : PS := if s.off then { s with off := false, life := s.life + 1 } else s
def PS.spend (s : PS) : Bool × PS :=
  if s.off then (false, s) else match s.trip with
    | none => (true, s)
    | some (n, k, t) => if 1 < n then (true, { s with trip := some (n - 1, k, t) }) else (false, s.cut k t)
def PS.kept (s : PS) (k : Int) : Bool := decide (0 ≤ k) && (s.keep.getD k.toNat false)

end Go.Proofs.Ytilmldkaagbofaa
