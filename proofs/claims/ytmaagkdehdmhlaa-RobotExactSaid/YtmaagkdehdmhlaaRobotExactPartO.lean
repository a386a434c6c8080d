/- Several texts of this claim, one behind the other: OwnMods, DrvKeep. -/
import Derived.Test.YtmaagkdehdmhlaaRobotExactPartN
import Derived.Test.YtmaagkdehdmhlaaRobotExactPartH
import Derived.Test.YtmaagkdehdmhlaaRobotExactPartM
/- What stays of rows of one's own when blocks of a range are written. -/
namespace Go.Proofs.Ytmaagkdehdmhlaa
open Go.RowKit

theorem Own.bnd {w : World} {B : Nat} {e : TypeId} {k n c : Nat} {a : Option Addr} {xs : List Value} (h : Own w B e k a n c xs) : ∀ g, a = some ⟨g, 0, none⟩ → (n ≠ 0 ∨ c ≠ 0) → g < w.heap.size := by
  intro g hg hn
  obtain ⟨_, ⟨h1, h2⟩ | ⟨g', cur, ha, _, hh, _⟩⟩ := h
  · omega
  · rw [ha] at hg
    simp only [Option.some.injEq, Addr.mk.injEq, and_true] at hg
    rw [← hg]
    exact heap_lt hh
theorem Own.modI {F : Nat → TypeId → Prop} {w w' : World} {B N : Nat} {e : TypeId} {k n c : Nat} {a : Option Addr} {xs : List Value} (h : Own w B e k a n c xs) (hm : Mod F w w') (hN : ∀ g, a = some ⟨g, 0, none⟩ → (n ≠ 0 ∨ c ≠ 0) → g < N) (hF : ∀ g, B ≤ g → g < N → ¬ F g e) : Own w' B e k a n c xs := by
  obtain ⟨hl, h0 | ⟨g, cur, ha, hb, hh, hn, hr⟩⟩ := h
  · exact ⟨hl, .inl h0⟩
  · by_cases hz : n = 0 ∧ c = 0
    · exact ⟨hl, .inl hz⟩
    · exact ⟨hl, .inr ⟨g, cur, ha, hb, hm.keep hh (hF g hb (hN g ha (by omega))), hn, hr⟩⟩
theorem Own.modB {F : Nat → TypeId → Prop} {w w' : World} {B : Nat} {e : TypeId} {k n c : Nat} {a : Option Addr} {xs : List Value} (h : Own w B e k a n c xs) (hm : Mod F w w') (hF : ∀ g, B ≤ g → ¬ F g e) : Own w' B e k a n c xs :=
  h.modI hm h.bnd fun g hg _ => hF g hg
theorem OwnM.modB {F : Nat → TypeId → Prop} {w w' : World} {B c : Nat} {a : Option Addr} {cs : List CellV} (h : OwnM w B a c cs) (hm : Mod F w w') (hF : ∀ g T, B ≤ g → ¬ F g T) : OwnM w' B a c cs :=
  ⟨h.row.modB hm fun g hg => hF g _ hg, fun x hx => (h.dat x hx).modB hm fun g hg => hF g _ hg, h.apart⟩
theorem OwnM.bnd {w : World} {B c n : Nat} {a : Option Addr} {cs : List CellV} (h : OwnM w B a c cs) (hn : cs.length = n) : (∀ x, a = some ⟨x, 0, none⟩ → n ≠ 0 → x < w.heap.size) ∧ ∀ y ∈ cs, y.d.l ≠ [] → ∀ x, y.d.a = some ⟨x, 0, none⟩ → x < w.heap.size := by
  refine ⟨fun x hx h0 => h.row.bnd x hx (.inl (by omega)), fun y hy h0 x hx => (h.dat y hy).bnd x hx (.inl fun e => h0 (List.eq_nil_of_length_eq_zero e))⟩
/-- A tape of one's own stored into a new variable. -/
theorem TapeO.new {w : World} {B : Nat} {M : Med} {a : Option Addr} {k c : Nat} {cs : List CellV} (cp : Int) (hcp : M.cap = cp) (h : MedR w B M a k c cs) (hc : k ≤ c) : TapeO ((w.alloc (.cells #[.int .i64 0, .slice none 0 0] 45)).setRow w.heap.size #[.int .i64 cp, .slice a k c]) B w.heap.size M a k c cs ∧
    Below w.heap.size w ((w.alloc (.cells #[.int .i64 0, .slice none 0 0] 45)).setRow w.heap.size #[.int .i64 cp, .slice a k c]) :=
  ⟨TapeO.put cp hcp (h.ext (ext_alloc w _)) hc (heap_alloc_new w _), bsetRow (ext_alloc w _) (Nat.le_refl _) _⟩
theorem Med.write_no {m : Med} (h : m.ok = false) (p : Int) (b : List Byte) : m.write p b = (Med.none, 1) := by unfold Med.write; rw [if_pos h]
theorem Med.tear_no {m : Med} (h : m.ok = false) (p : Int) (b : List Byte) (k : Int) : m.tear p b k = (Med.none, 1) := by unfold Med.tear; rw [if_pos h]
theorem Med.mark_no {m : Med} (h : m.ok = false) (p : Int) : m.mark p = (Med.none, 1) := by unfold Med.mark; rw [if_pos h]
theorem Med.end_no {m : Med} (h : m.ok = false) (p : Int) : m.end_ p = (Med.none, 1) := by unfold Med.end_; rw [if_pos (.inl h)]
theorem Med.read_no {m : Med} (h : m.ok = false) (p : Int) : m.read p = ([], 1) := by unfold Med.read; rw [if_pos h]
theorem Med.file_no {m : Med} (h : m.ok = false) (p : Int) : m.file p = (0, 1) := by unfold Med.file; rw [if_pos h]
theorem Med.file_behind {m : Med} (h : m.ok = true) (p : Int) : m.file p = m.behind p := by unfold Med.file; rw [if_neg (by rw [h]; decide)]
theorem Med.files_no {m : Med} (h : m.ok = false) : m.files = 0 := by unfold Med.files; rw [if_pos h]
theorem Med.spoil_no {m : Med} (h : m.ok = false) (p : Int) : m.spoil p = (Med.none, 1) := by unfold Med.spoil; rw [if_pos h]
theorem Med.flip_no {m : Med} (h : m.ok = false) (p b : Int) : m.flip p b = (Med.none, 1) := by unfold Med.flip; rw [if_pos h]
theorem Med.write_bound {m T : Med} {E p : Int} {b : List Byte} (h : m.write p b = (T, E)) {n K : Nat} (hn : m.cells.length ≤ n) (hs : ∀ c ∈ m.cells, c.data.length ≤ K) (hb : b.length ≤ K) : T.cells.length ≤ n + 1 ∧ ∀ c ∈ T.cells, c.data.length ≤ K := by
  have h0 : T = (m.write p b).1 := by rw [h]
  subst h0
  unfold Med.write
  split
  · exact ⟨Nat.zero_le _, by simp [Med.none]⟩
  split
  · exact ⟨Nat.zero_le _, by simp [Med.none]⟩
  · refine ⟨?_, fun c hc => ?_⟩
    · show (m.cells.take p.toNat ++ [_]).length ≤ n + 1
      rw [List.length_append, List.length_take]
      show min p.toNat m.cells.length + 1 ≤ n + 1
      omega
    · rcases List.mem_append.1 (show c ∈ m.cells.take p.toNat ++ [_] from hc) with h | h
      · exact hs c (List.mem_of_mem_take h)
      · rw [List.mem_singleton.1 h]
        exact hb
theorem Med.spoil_bound {m T : Med} {E p : Int} (h : m.spoil p = (T, E)) {n K : Nat} (hn : m.cells.length ≤ n) (hs : ∀ c ∈ m.cells, c.data.length ≤ K) : T.cells.length ≤ n ∧ ∀ c ∈ T.cells, c.data.length ≤ K := by
  have h0 : T = (m.spoil p).1 := by rw [h]
  subst h0
  unfold Med.spoil
  split
  · exact ⟨Nat.zero_le _, by simp [Med.none]⟩
  split
  · exact ⟨Nat.zero_le _, by simp [Med.none]⟩
  split
  · exact ⟨Nat.zero_le _, by simp [Med.none]⟩
  · rename_i c0 hc0
    refine ⟨by show (m.cells.set _ _).length ≤ n; rw [List.length_set]; exact hn, fun c hc => ?_⟩
    rcases List.mem_or_eq_of_mem_set (show c ∈ m.cells.set _ _ from hc) with h | rfl
    · exact hs c h
    · exact hs c0 (List.mem_of_getElem? hc0)
theorem MedR.len63 {w : World} {B : Nat} {M : Med} {a : Option Addr} {k c : Nat} {cs : List CellV} (h : MedR w B M a k c cs) : k ≤ 9223372036854775807 := by
  have h1 := h.own.row.len
  rw [h.len] at h1
  have h2 := h1.2
  unfold maxLen at h2
  omega
end Go.Proofs.Ytmaagkdehdmhlaa

/- Drives: plain lemmas of their writes; power's methods beside a drive; what stays beside a drive. -/
namespace Go.Proofs.Ytmaagkdehdmhlaa
open Go.RowKit

theorem locate_zero {m : Med} (h : marks m.cells = 0) {p : Nat} (hp : p ≤ m.cells.length) (q : Int) : m.locate 0 (p : Int) q = (0, (p : Int)) := by
  have hb : m.behind 0 = (0, 0) := by unfold Med.behind; rw [if_pos rfl]
  have hn : ((m.cells.drop 0).take p).any isMark = false := by
    rw [List.drop_zero, Bool.eq_false_iff]
    intro hc
    rw [List.any_eq_true] at hc
    obtain ⟨y, hy, hm⟩ := hc
    unfold marks at h
    rw [List.countP_eq_zero] at h
    exact h y (List.mem_of_mem_take hy) hm
  unfold Med.locate
  rw [if_neg (by omega), hb, if_neg (by simp; omega)]
  show (if ((m.cells.drop (0 : Int).toNat).take (p : Int).toNat).any isMark = true then (8, q) else (0, 0 + (p : Int))) = _
  rw [Int.toNat_natCast, show (0 : Int).toNat = 0 from rfl, hn]
  simp
theorem dvWrite_full {m : Med} {p : Nat} (hp : p ≤ m.cells.length) (hc : (p : Int) = m.cap) {b : List Byte} (hb : 1 ≤ b.length ∧ b.length ≤ 256) : dvWrite PS.new m p b = (7, PS.new, m, (p : Int)) := by
  unfold dvWrite
  rw [if_neg (by decide), wrong_full hp hc _ _ (fun _ => hb), if_pos (by decide)]
theorem dvWrite_ok {m : Med} {p : Nat} (hp : p ≤ m.cells.length) (hc : (p : Int) < m.cap) {b : List Byte} (hb : 1 ≤ b.length ∧ b.length ≤ 256) : dvWrite PS.new m p b = (0, PS.new, m.lay p ⟨1, b, false⟩, (p : Int) + 1) := by
  unfold dvWrite
  rw [if_neg (by decide), wrong_zero hp hc _ _ (fun _ => hb), if_neg (by decide)]
  rfl
theorem dvMark_ok {m : Med} {p : Nat} (hp : p ≤ m.cells.length) (hc : (p : Int) < m.cap) : dvMark PS.new m p = (0, PS.new, m.lay p ⟨2, [], false⟩, (p : Int) + 1) := by
  unfold dvMark
  rw [if_neg (by decide), wrong_zero hp hc _ _ (fun h => by cases h), if_neg (by decide)]
  rfl
/-- The power that goes at the first write. -/
def PS.last (t : Int) : PS := PS.new.arm 1 [] t
def PS.gone (t : Int) : PS := ⟨true, 0, [], t, none⟩
theorem PS.last_spend (t : Int) : (PS.last t).spend = (false, PS.gone t) := rfl
theorem PS.gone_torn (t : Int) : (PS.gone t).torn = t := rfl
/-- What is behind a write that was cut. -/
def tornM (m : Med) (p : Nat) (X : List CellP) (t : Int) : Med := if 0 ≤ t then ⟨m.cap, m.cells.take p ++ X⟩ else m
theorem tornM_cap (m : Med) (p : Nat) (X : List CellP) (t : Int) : (tornM m p X t).cap = m.cap := by unfold tornM; split <;> rfl
theorem tornM_len (m : Med) (p : Nat) (X : List CellP) (t : Int) : (tornM m p X t).cells.length ≤ m.cells.length + X.length := by
  unfold tornM
  split
  · rw [List.length_append, List.length_take]; omega
  · omega
theorem tornM_ge {m : Med} {p : Nat} (X : List CellP) (t : Int) (h : p ≤ m.cells.length) : p ≤ (tornM m p X t).cells.length := by
  unfold tornM
  split
  · rw [List.length_append, List.length_take]; omega
  · exact h
theorem tornM_mem {m : Med} {p : Nat} {X : List CellP} {t : Int} {y : CellP} (h : y ∈ (tornM m p X t).cells) : y ∈ m.cells ∨ y ∈ X := by
  unfold tornM at h
  split at h
  · rcases List.mem_append.1 h with h | h
    · exact .inl (List.mem_of_mem_take h)
    · exact .inr h
  · exact .inl h
theorem tornM_get {m : Med} {p : Nat} (X : List CellP) (t : Int) {j : Nat} (hj : j < p) (h : p ≤ m.cells.length) : (tornM m p X t).cells[j]? = m.cells[j]? := by
  unfold tornM
  split
  · rw [List.getElem?_append_left (by rw [List.length_take]; omega), List.getElem?_take, if_pos hj]
  · rfl
theorem tornM_end {m : Med} {p : Nat} (x : CellP) {t : Int} (ht : 0 ≤ t) (h : p ≤ m.cells.length) : (tornM m p [x] t).cells[p]? = some x := by
  unfold tornM
  rw [if_pos ht, List.getElem?_append_right (by rw [List.length_take]; omega), List.length_take, Nat.min_eq_left h, Nat.sub_self]
  rfl
theorem tornM_pos {m : Med} {p : Nat} (X : List CellP) {t : Int} (ht : 0 ≤ t) (h : p ≤ m.cells.length) : (tornM m p X t).cells.length = p + X.length := by
  unfold tornM
  rw [if_pos ht, List.length_append, List.length_take, Nat.min_eq_left h]
theorem dvWrite_cut {m : Med} {p : Nat} (hp : p ≤ m.cells.length) (hc : (p : Int) < m.cap) {b : List Byte} (hb : 1 ≤ b.length ∧ b.length ≤ 256) (t : Int) : dvWrite (PS.last t) m p b = (5, PS.gone t, tornM m p [⟨3, b.take t.toNat, false⟩] t, (p : Int)) := by
  unfold dvWrite
  rw [if_neg (by simp [PS.last, PS.arm, PS.new]), wrong_zero hp hc _ _ (fun _ => hb), if_neg (by decide), PS.last_spend, if_neg (by simp), PS.gone_torn]
  unfold tornM
  split <;> rfl
theorem dvMark_cut {m : Med} {p : Nat} (hp : p ≤ m.cells.length) (hc : (p : Int) < m.cap) (t : Int) : dvMark (PS.last t) m p = (5, PS.gone t, tornM m p [⟨2, [], false⟩] t, (p : Int)) := by
  unfold dvMark
  rw [if_neg (by simp [PS.last, PS.arm, PS.new]), wrong_zero hp hc _ _ (fun h => by cases h), if_neg (by decide), PS.last_spend, if_neg (by simp), PS.gone_torn]
  unfold tornM
  split <;> rfl
theorem dvEnd_cut {m : Med} {p : Nat} (t : Int) : dvEnd (PS.last t) m p = (5, PS.gone t, tornM m p [] t) := by
  unfold dvEnd
  rw [if_neg (by simp [PS.last, PS.arm, PS.new]), PS.last_spend, if_neg (by simp), PS.gone_torn]
  unfold tornM
  rw [List.append_nil]
  split <;> rfl

variable {B : Nat} {K K' : Nat → Prop} {w w' : World} {d g : Nat} {M : Med} {at_ : Int} {s : PS}
theorem DrvP.rek (h : DrvP B K w d g M at_ s) (hK : ∀ b, B ≤ b → b < w.heap.size → K b → K' b) : DrvP B K' w d g M at_ s := by
  obtain ⟨⟨a, k, c, cs, h⟩, hp⟩ := h
  have hrw := h.r.own.row
  rw [h.r.len] at hrw
  exact ⟨⟨a, k, c, cs, h.low, hK _ h.low (heap_lt h.obj) h.kd, h.obj, h.r, h.cap, hrw.rowInAnd h.kr hK, fun x hx => (h.r.own.dat x hx).rowInAnd (h.du x hx) hK⟩, hp⟩
theorem DrvP.pow (h : DrvP B K w d g M at_ s) : Pow B w g s := h.2
theorem DrvP.low (h : DrvP B K w d g M at_ s) : B ≤ w.heap.size := by
  obtain ⟨⟨a, k, c, cs, h⟩, hp⟩ := h
  exact Nat.le_of_lt (Nat.lt_of_le_of_lt h.low (heap_lt h.obj))
theorem drv_trip (n t : Int) (s' : PS) (w : World) (hd : DrvP B K w d g M at_ s) (hn : n ≤ 9223372036854775807) (hs : s.arm n [] t = s') :
    Calls Try.prog 22 #[.pointer (some ⟨g, 0, none⟩), .int .i64 n, .slice none 0 0, .int .i64 t] w fun e w' => e = .returned (.tuple #[]) ∧ DrvP B K w' d g M at_ s' ∧ Mod (VF B K) w w' := by
  have hB := hd.low
  obtain ⟨⟨a, k, c, cs, h⟩, hp⟩ := hd
  refine (arm_nil hB hp hs hn).mono ?_
  rintro e w2 ⟨rfl, hp2, hm⟩
  exact ⟨rfl, ⟨⟨a, k, c, cs, h.pf hm⟩, hp2⟩, PF.vf hm⟩
/-- A tape of one's own beside a drive. -/
theorem MedR.vf {W : Nat} {M : Med} {a : Option Addr} {k c : Nat} {cs : List CellV} (h : MedR w W M a k c cs) (hm : Mod (VF B K) w w') (hK : ∀ b, W ≤ b → b < w.heap.size → ¬ K b) : MedR w' W M a k c cs := by
  refine ⟨⟨h.own.row.modI (N := w.heap.size) hm h.own.row.bnd fun b h1 h2 hf => ?_, fun x hx => (h.own.dat x hx).mod hm fun b _ _ => VF_no_u8 b, h.own.apart⟩, h.len, h.pls⟩
  rcases hf.2 with hf | hf
  · revert hf; decide
  · exact hK b h1 h2 hf.1
theorem VF_no_med (b : Nat) : ¬ VF B K b 45 := by
  rintro ⟨_, h | ⟨_, h⟩⟩ <;> revert h <;> decide
theorem TapeO.vf {W g : Nat} {M : Med} {a : Option Addr} {k c : Nat} {cs : List CellV} (h : TapeO w W g M a k c cs) (hm : Mod (VF B K) w w') (hK : ∀ b, W ≤ b → b < w.heap.size → ¬ K b) : TapeO w' W g M a k c cs :=
  ⟨hm.keep h.box (VF_no_med _), h.r.vf hm hK, h.cap⟩
/-- What stands at a place of a tape. -/
theorem TapeAt.cell {G : Nat} {M : Med} {a : Option Addr} {k c : Nat} {cs : List CellV} (h : TapeAt w G M a k c cs) {j : Nat} {y : CellP} (hj : M.cells[j]? = some y) :
    ∃ x o da dc, a = some ⟨x, o, none⟩ ∧ x < w.heap.size ∧ w.cell? ⟨x, o + j * 3, none⟩ = some (.int .i64 y.kind) ∧ w.cell? ⟨x, o + j * 3 + 1, none⟩ = some (.slice da y.data.length dc) ∧ w.cell? ⟨x, o + j * 3 + 2, none⟩ = some (.bool y.bad) ∧ Src w da (bvs y.data) ∧ j < k := by
  have hjl := (List.getElem?_eq_some_iff.1 hj).1
  rw [← h.pls, pls_length] at hjl
  obtain ⟨x, o, ha, hlx, hat⟩ := h.mat.src.elem CellV.len (by decide) hjl
  have hg := pls_get hjl
  rw [h.pls, hj] at hg
  obtain rfl : y = cs[j].pl := by simpa using hg
  exact ⟨x, o, cs[j].d.a, cs[j].d.c, ha, hlx, hat j hjl 0 _ rfl, hat j hjl 1 _ rfl, hat j hjl 2 _ rfl, (h.mat.row _ (List.getElem_mem hjl)).1, by rw [h.len]; exact hjl⟩
end Go.Proofs.Ytmaagkdehdmhlaa
