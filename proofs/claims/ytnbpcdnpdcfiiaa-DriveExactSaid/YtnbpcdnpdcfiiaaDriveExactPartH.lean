/- Several texts of this claim, one behind the other: TapeAt, TapeO, MRel, PowWakes. -/
import Derived.Test.YtnbpcdnpdcfiiaaDriveExactPartE
import Derived.Test.YtnbpcdnpdcfiiaaKeepMed
import Derived.Test.YtnbpcdnpdcfiiaaDriveExactPartF
import Derived.Test.YtnbpcdnpdcfiiaaDriveExactPartD
import Derived.Test.YtnbpcdnpdcfiiaaPow
/- A tape in a block; 'none'. -/
namespace Go.Proofs.Ytnbpcdnpdcfiiaa
open Go.RowKit

/-- In block g stands the tape M. -/
structure TapeAt (w : World) (g : Nat) (M : Med) (a : Option Addr) (k c : Nat) (cs : List CellV) : Prop where
  box : BoxM w g M.cap a k c
  mat : CMat w a cs
  len : k = cs.length
  pls : pls cs = M.cells
  cap : k ≤ c
theorem TapeAt.ext {w w' : World} {g : Nat} {M : Med} {a : Option Addr} {k c : Nat} {cs : List CellV} (h : TapeAt w g M a k c cs) (hb : Below w.heap.size w w') : TapeAt w' g M a k c cs := ⟨h.box.ext hb, h.mat.ext hb, h.len, h.pls, h.cap⟩
theorem TapeAt.of {w : World} {g : Nat} {M : Med} {a : Option Addr} {k c : Nat} {cs : List CellV} (h : TapeAt w g M a k c cs) : medOf M.cap cs = M := by unfold medOf; rw [h.pls]
theorem TapeAt.short {w : World} {g : Nat} {M : Med} {a : Option Addr} {k c : Nat} {cs : List CellV} (h : TapeAt w g M a k c cs) {K : Nat} (hK : ∀ c ∈ M.cells, c.data.length ≤ K) : ∀ x ∈ cs, x.d.l.length ≤ K := short_of h.pls hK
/-- A tape stored into a new variable. -/
theorem TapeAt.new {w : World} {B : Nat} {M : Med} {a : Option Addr} {k c : Nat} {cs : List CellV} (cp : Int) (hcp : M.cap = cp) (h : MedR w B M a k c cs) (hc : k ≤ c) : TapeAt ((w.alloc (.cells #[.int .i64 0, .slice none 0 0] 24)).setRow w.heap.size #[.int .i64 cp, .slice a k c]) w.heap.size M a k c cs ∧
    Below w.heap.size w ((w.alloc (.cells #[.int .i64 0, .slice none 0 0] 24)).setRow w.heap.size #[.int .i64 cp, .slice a k c]) := by
  subst hcp
  have hS := bsetRow (ext_alloc w (.cells #[.int .i64 0, .slice none 0 0] 24)) (Nat.le_refl _) #[.int .i64 M.cap, .slice a k c]
  exact ⟨⟨setRow_heap (w.alloc (.cells #[.int .i64 0, .slice none 0 0] 24)) w.heap.size _ _ _ _ (heap_alloc_new w _), h.mat.ext hS, h.len.symm, h.pls, hc⟩, hS⟩
theorem MedR.size {w : World} {B : Nat} {M : Med} {a : Option Addr} {k c : Nat} {cs : List CellV} (h : MedR w B M a k c cs) : M.cells.length = k := by rw [← h.pls, pls_length, h.len]
end Go.Proofs.Ytnbpcdnpdcfiiaa

/- A tape of the call's own in a variable. -/
namespace Go.Proofs.Ytnbpcdnpdcfiiaa
open Go.RowKit

/-- In block g stands the tape M, all of whose memory is the call's own. -/
structure TapeO (w : World) (B g : Nat) (M : Med) (a : Option Addr) (k c : Nat) (cs : List CellV) : Prop where
  box : BoxM w g M.cap a k c
  r : MedR w B M a k c cs
  cap : k ≤ c
theorem TapeO.ext {w w' : World} {B g : Nat} {M : Med} {a : Option Addr} {k c : Nat} {cs : List CellV} (h : TapeO w B g M a k c cs) (hb : Below w.heap.size w w') : TapeO w' B g M a k c cs := ⟨h.box.ext hb, h.r.ext hb, h.cap⟩
theorem TapeO.at {w : World} {B g : Nat} {M : Med} {a : Option Addr} {k c : Nat} {cs : List CellV} (h : TapeO w B g M a k c cs) : TapeAt w g M a k c cs := ⟨h.box, h.r.mat, h.r.len.symm, h.r.pls, h.cap⟩
theorem TapeO.other {w : World} {B g g' : Nat} {M : Med} {a : Option Addr} {k c : Nat} {cs : List CellV} {old new : Array Value} (h : TapeO w B g M a k c cs) (hg : w.heap[g']? = some (.cells old 24 (0, 0))) (hne : g ≠ g') : TapeO (w.setRow g' new) B g M a k c cs :=
  ⟨(setRow_other w g' g _ hne).trans h.box, h.r.setRow hg, h.cap⟩
theorem TapeO.put {w : World} {B g : Nat} {M : Med} {a : Option Addr} {k c : Nat} {cs : List CellV} {old : Array Value} (cp : Int) (hcp : M.cap = cp) (h : MedR w B M a k c cs) (hc : k ≤ c) (hg : w.heap[g]? = some (.cells old 24 (0, 0))) : TapeO (w.setRow g #[.int .i64 cp, .slice a k c]) B g M a k c cs := by
  subst hcp
  exact ⟨setRow_heap w g _ _ _ _ hg, h.setRow hg, hc⟩
theorem TapeO.mono {w : World} {B B' g : Nat} {M : Med} {a : Option Addr} {k c : Nat} {cs : List CellV} (h : TapeO w B g M a k c cs) (hB : B' ≤ B) : TapeO w B' g M a k c cs := ⟨h.box, h.r.mono hB, h.cap⟩

/- Tapes that grow. -/
def cellOf (b : List Byte) : CellP := if b.length = 0 then ⟨2, [], false⟩ else ⟨1, b, false⟩
def grown (size : Int) (ps : List Bsl) : Med := ⟨size, ps.map fun p => cellOf p.l⟩
theorem grown_len (size : Int) (ps : List Bsl) : (grown size ps).cells.length = ps.length := List.length_map _
theorem cellOf_right {b : List Byte} (h : b.length ≤ 256) : (cellOf b).right = true := by
  unfold cellOf
  split
  · decide
  · exact right_blk ⟨by omega, h⟩
theorem grown_ok {size : Int} {ps : List Bsl} (h1 : 1 ≤ size) (h2 : size ≤ 400) (hl : (ps.length : Int) ≤ size) (hs : ∀ p ∈ ps, p.l.length ≤ 256) : (grown size ps).ok = true := by
  rw [Med.ok_iff]
  refine ⟨⟨h1, h2, by rw [grown_len]; exact hl⟩, fun c hc => ?_⟩
  obtain ⟨p, hp, rfl⟩ := List.mem_map.1 hc
  exact cellOf_right (hs p hp)
theorem grown_step {size : Int} {ps : List Bsl} {k : Nat} (hk : k < ps.length) : (Med.mk size (((ps.take k).map fun p => cellOf p.l) ++ [cellOf ps[k].l])) = grown size (ps.take (k + 1)) := by
  unfold grown
  rw [take_succ_list ps k hk, List.map_append]
  rfl
theorem grown_take {size : Int} {ps : List Bsl} {k : Nat} (hk : k ≤ ps.length) (x : CellP) : (grown size (ps.take k)).lay k x = ⟨size, ((ps.take k).map fun p => cellOf p.l) ++ [x]⟩ := by
  unfold Med.lay grown
  show Med.mk size ((((ps.take k).map fun p => cellOf p.l)).take k ++ [x]) = _
  rw [List.take_of_length_le (by rw [List.length_map, List.length_take]; omega)]
theorem Med.tear_ok {m : Med} (h : m.ok = true) {p : Nat} (hp : p ≤ m.cells.length) (hc : (p : Int) < m.cap) {b : List Byte} (hb : 1 ≤ b.length ∧ b.length ≤ 256) (keep : Int) : m.tear (p : Int) b keep = (if keep < 0 then m else m.lay p ⟨3, b.take keep.toNat, false⟩, 0) := by
  unfold Med.tear
  rw [if_neg (by rw [h]; decide), wrong_zero hp hc _ _ (fun _ => hb), if_neg (by decide), Int.toNat_natCast]
  split <;> rfl
theorem Med.tear_full {m : Med} (h : m.ok = true) {p : Nat} (hp : p ≤ m.cells.length) (hc : (p : Int) = m.cap) {b : List Byte} (hb : 1 ≤ b.length ∧ b.length ≤ 256) (keep : Int) : m.tear (p : Int) b keep = (Med.none, 7) := by
  unfold Med.tear
  rw [if_neg (by rw [h]; decide), wrong_full hp hc _ _ (fun _ => hb), if_pos (by decide)]
/-- A round of the law, ahead of the end of the tape: what tearing, reading, writing tell. -/
theorem grow_torn {m : Med} (h : m.ok = true) {p : Nat} (hp : p = m.cells.length) (hc : (p : Int) < m.cap) {b : List Byte} (hb : 1 ≤ b.length ∧ b.length ≤ 256) {keep : Int} {T : Med} {E : Int} (ht : m.tear (p : Int) b keep = (T, E)) :
    E = 0 ∧ T.write (p : Int) b = (m.lay p ⟨1, b, false⟩, 0) ∧ T.read (p : Int) = ([], if keep < 0 then 8 else 6) := by
  rw [Med.tear_ok h (by omega) hc hb] at ht
  simp only [Prod.mk.injEq] at ht
  obtain ⟨rfl, rfl⟩ := ht
  refine ⟨rfl, ?_⟩
  by_cases hk : keep < 0
  · rw [if_pos hk, if_pos hk]
    exact ⟨Med.write_ok h (by omega) hc hb, by rw [hp]; exact Med.read_past h⟩
  · rw [if_neg hk, if_neg hk]
    have hr : (CellP.mk 3 (b.take keep.toNat) false).right = true := by
      unfold CellP.right rightC
      rw [decide_eq_true_eq]
      exact .inr (.inr ⟨rfl, by show (b.take keep.toNat).length ≤ 256; rw [List.length_take]; omega⟩)
    have hk2 := Med.lay_ok h (p := p) (by omega) hc hr
    have hl := Med.lay_len (m := m) (p := p) (by omega) ⟨3, b.take keep.toNat, false⟩
    refine ⟨(Med.write_ok hk2 (by omega) hc hb).trans ?_, (Med.read_at hk2 (Med.lay_get (by omega) _)).trans (by simp)⟩
    show (Med.mk m.cap ((m.cells.take p ++ [_]).take p ++ [_]), (0 : Int)) = (Med.mk m.cap (m.cells.take p ++ [_]), 0)
    rw [List.take_append_of_le_length (by rw [List.length_take]; omega), List.take_take, Nat.min_self]
end Go.Proofs.Ytnbpcdnpdcfiiaa

/- What a store of a tape leaves: all but tapes' own variables (K). -/
namespace Go.Proofs.Ytnbpcdnpdcfiiaa
open Go.RowKit

structure MRel (K : Nat → Prop) (w1 w2 : World) : Prop where
  mod : Mod (fun b T => K b ∧ T = 24) w1 w2
  row : ∀ (b : Nat) (cs : Array Value), w1.heap[b]? = some (.cells cs 24 (0, 0)) → ∃ cs', w2.heap[b]? = some (.cells cs' 24 (0, 0)) ∧ cs'.size = cs.size
theorem MRel.rel (K : Nat → Prop) : Trel (MRel K) := by
  refine ⟨fun h k => ⟨h.mod.trans k.mod, fun b cs hc => ?_⟩, fun h => ⟨bmod h _, fun b cs hc => ⟨cs, (h.block b (heap_lt hc)).trans hc, rfl⟩⟩⟩
  obtain ⟨cs1, h1, e1⟩ := h.row b cs hc
  obtain ⟨cs2, h2, e2⟩ := k.row b cs1 h1
  exact ⟨cs2, h2, e2.trans e1⟩
theorem MRel.size {K : Nat → Prop} {w1 w2 : World} (h : MRel K w1 w2) : w1.heap.size ≤ w2.heap.size := h.mod.size
theorem MRel.keep {K : Nat → Prop} {w1 w2 : World} (h : MRel K w1 w2) {b : Nat} (hb : b < w1.heap.size) (hk : ¬ K b) : w2.heap[b]? = w1.heap[b]? := by
  rcases h.mod.block b hb with h | ⟨_, _, _, ⟨h, _⟩, _⟩
  · exact h
  · exact absurd h hk
theorem MRel.set {K : Nat → Prop} {w : World} {x : Nat} {old new : Array Value} (hx : K x) (hc : w.heap[x]? = some (.cells old 24 (0, 0))) (hs : old.size = new.size) : MRel K w (w.setRow x new) := by
  refine ⟨Mod.one (bsetRow (Below.refl x _) (Nat.le_refl _) _) (fun b hb => setRow_other w _ b _ hb) hc (setRow_heap w _ _ _ _ _ hc) ⟨hx, rfl⟩, fun b cs hb => ?_⟩
  by_cases hbx : b = x
  · subst hbx
    rw [hc] at hb
    simp only [Option.some.injEq, Obj.cells.injEq] at hb
    obtain ⟨rfl, _⟩ := hb
    exact ⟨new, setRow_heap w b _ _ _ _ hc, hs.symm⟩
  · exact ⟨cs, (setRow_other w x b _ hbx).trans hb, rfl⟩
theorem MedR.mrel {K : Nat → Prop} {w w' : World} {B : Nat} {M : Med} {a : Option Addr} {k c : Nat} {cs : List CellV} (h : MedR w B M a k c cs) (hm : MRel K w w') : MedR w' B M a k c cs :=
  ⟨h.own.mod hm.mod fun b T hf => ⟨fun h => by have := hf.2; subst h; revert this; decide, fun h => by have := hf.2; subst h; revert this; decide⟩, h.len, h.pls⟩
/-- An answer's tape, with its error, with nothing else. -/
def AnsT (B : Nat) (M : Med) (E : Int) (w : World) (v : Value) : Prop := ∃ a k c cs, v = .tuple #[.agg #[.int .i64 M.cap, .slice a k c], .int .i64 E] ∧ MedR w B M a k c cs ∧ k ≤ c
def AnsM (B : Nat) (M : Med) (w : World) (v : Value) : Prop := ∃ a k c cs, v = .agg #[.int .i64 M.cap, .slice a k c] ∧ MedR w B M a k c cs ∧ k ≤ c
theorem AnsT.st {K : Nat → Prop} {B : Nat} {M : Med} {E : Int} (w w' : World) (v : Value) (h : AnsT B M E w v) (hm : MRel K w w') : AnsT B M E w' v := by
  obtain ⟨a, k, c, cs, e, h, hk⟩ := h
  exact ⟨a, k, c, cs, e, h.mrel hm, hk⟩
theorem AnsM.st {K : Nat → Prop} {B : Nat} {M : Med} (w w' : World) (v : Value) (h : AnsM B M w v) (hm : MRel K w w') : AnsM B M w' v := by
  obtain ⟨a, k, c, cs, e, h, hk⟩ := h
  exact ⟨a, k, c, cs, e, h.mrel hm, hk⟩
/-- A new variable for a tape. -/
def NewV (W : Nat) (w : World) (v : Value) : Prop := ∃ x, v = .pointer (some ⟨x, 0, none⟩) ∧ W ≤ x ∧ ∃ (cs : Array Value), w.heap[x]? = some (.cells cs 24 (0, 0)) ∧ cs.size = 2
theorem NewV.st {K : Nat → Prop} {W : Nat} (w w' : World) (v : Value) (h : NewV W w v) (hm : MRel K w w') : NewV W w' v := by
  obtain ⟨x, e, hx, cs, hc, hs⟩ := h
  obtain ⟨cs', h1, h2⟩ := hm.row x cs hc
  exact ⟨x, e, hx, cs', h1, h2.trans hs⟩
end Go.Proofs.Ytnbpcdnpdcfiiaa

/- power: the contracts with their answers as variables. -/
namespace Go.Proofs.Ytnbpcdnpdcfiiaa
open Go.RowKit

theorem spend_some (L : Int) (K : List Bool) (T n : Int) (k : List Bool) (t : Int) : (PS.mk false L K T (some (n, k, t))).spend = if 1 < n then (true, ⟨false, L, K, T, some (n - 1, k, t)⟩) else (false, ⟨true, L, k, t, none⟩) := rfl
theorem spend_at {B g : Nat} {s s' : PS} {r : Bool} {w : World} (hB : B ≤ w.heap.size) (hp : Pow B w g s) (hs : s.spend = (r, s')) :
    Calls Try.prog 75 #[.pointer (some ⟨g, 0, none⟩)] w fun e w' => e = .returned (.bool r) ∧ Pow B w' g s' ∧ Mod (PF B) w w' := by
  have h := power_spend B g s w hB hp
  rw [hs] at h
  exact h
theorem start_at {B g : Nat} {s s' : PS} {w : World} (hp : Pow B w g s) (hs : s.start = s') (hl0 : 0 ≤ s.life) (hl1 : s.life ≤ 4611686018427387904) :
    Calls Try.prog 30 #[.pointer (some ⟨g, 0, none⟩)] w fun e w' => e = .returned (.tuple #[]) ∧ Pow B w' g s' ∧ Mod (PF B) w w' := by
  subst hs; exact power_start B g s w hp hl0 hl1
theorem arm_nil {B g : Nat} {s s' : PS} {n t : Int} {w : World} (hB : B ≤ w.heap.size) (hp : Pow B w g s) (hs : s.arm n [] t = s') (hn : n ≤ 9223372036854775807) :
    Calls Try.prog 28 #[.pointer (some ⟨g, 0, none⟩), .int .i64 n, .slice none 0 0, .int .i64 t] w fun e w' => e = .returned (.tuple #[]) ∧ Pow B w' g s' ∧ Mod (PF B) w w' := by
  subst hs; exact power_arm B g s none 0 0 [] n t w hB hp (Src.nil _ _) rfl (by omega) hn
theorem cut_nil {B g : Nat} {s s' : PS} {t : Int} {w : World} (hB : B ≤ w.heap.size) (hp : Pow B w g s) (hs : s.cut [] t = s') :
    Calls Try.prog 32 #[.pointer (some ⟨g, 0, none⟩), .slice none 0 0, .int .i64 t] w fun e w' => e = .returned (.tuple #[]) ∧ Pow B w' g s' ∧ Mod (PF B) w w' := by
  subst hs; exact power_cut B g s none 0 0 [] t w hB hp (Src.nil _ _) rfl (by omega)
theorem off_at {B g : Nat} {s : PS} {r : Bool} {w : World} (hp : Pow B w g s) (hs : s.off = r) :
    Calls Try.prog 71 #[.pointer (some ⟨g, 0, none⟩)] w fun e w' => e = .returned (.bool r) ∧ w = w' := by subst hs; exact power_off B g s w hp
theorem life_at {B g : Nat} {s : PS} {r : Int} {w : World} (hp : Pow B w g s) (hs : s.life = r) :
    Calls Try.prog 90 #[.pointer (some ⟨g, 0, none⟩)] w fun e w' => e = .returned (.int .i64 r) ∧ w = w' := by subst hs; exact power_life B g s w hp
theorem torn_at {B g : Nat} {s : PS} {r : Int} {w : World} (hp : Pow B w g s) (hs : s.torn = r) :
    Calls Try.prog 76 #[.pointer (some ⟨g, 0, none⟩)] w fun e w' => e = .returned (.int .i64 r) ∧ w = w' := by subst hs; exact power_torn B g s w hp
theorem kept_at {B g : Nat} {s : PS} {k : Int} {r : Bool} {w : World} (hp : Pow B w g s) (hs : s.kept k = r) :
    Calls Try.prog 105 #[.pointer (some ⟨g, 0, none⟩), .int .i64 k] w fun e w' => e = .returned (.bool r) ∧ w = w' := by subst hs; exact power_kept B g s k w hp

end Go.Proofs.Ytnbpcdnpdcfiiaa
