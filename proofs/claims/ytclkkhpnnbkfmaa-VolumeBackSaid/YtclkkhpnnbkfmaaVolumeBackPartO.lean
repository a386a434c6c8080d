/- Several texts of this claim, one behind the other: OwnMods, DrvKeep, BinDef, FramePlain. -/
import Derived.Test.YtclkkhpnnbkfmaaVolumeBackPartN
import Derived.Test.YtclkkhpnnbkfmaaVolumeBackPartH
import Derived.Test.YtclkkhpnnbkfmaaVolumeBackPartM
import Derived.Test.YtclkkhpnnbkfmaaBase
import Derived.Test.YtclkkhpnnbkfmaaVolumeBackPartK
/- What stays of rows of one's own when blocks of a range are written. -/
namespace Go.Proofs.Ytclkkhpnnbkfmaa
open Go.RowKit

theorem Own.bnd {w : World} {B : Nat} {e : TypeId} {k n c : Nat} {a : Option Addr} {xs : List Value} (h : Own w B e k a n c xs) : ∀ g, a = some ⟨g, 0, none⟩ → (n ≠ 0 ∨ c ≠ 0) → g < w.heap.size := by
  intro g hg hn
  obtain ⟨_, ⟨h1, h2⟩ | ⟨g', cur, ha, _, hh, _⟩⟩ := h
  · omega
  · rw [ha] at hg
    simp only [Option.some.injEq, Addr.mk.injEq, and_true] at hg
    rw [← hg]
    exact heap_lt hh
theorem Own.modI {F : Nat → TypeId → Prop} {w w' : World} {B N : Nat} {e : TypeId} {k n c : Nat} {a : Option Addr} {xs : List Value} (h : Own w B e k a n c xs) (hm : Mod F w w') (hN : ∀ g, a = some ⟨g, 0, none⟩ → (n ≠ 0 ∨ c ≠ 0) → g < N) (hF : ∀ g, B ≤ g → g < N → ¬ F g e) : Own w' B e k a n c xs := by
  obtain ⟨hl, h0 | ⟨g, cur, ha, hb, hh, hn, hr⟩⟩ := h
  · exact ⟨hl, .inl h0⟩
  · by_cases hz : n = 0 ∧ c = 0
    · exact ⟨hl, .inl hz⟩
    · exact ⟨hl, .inr ⟨g, cur, ha, hb, hm.keep hh (hF g hb (hN g ha (by omega))), hn, hr⟩⟩
theorem Own.modB {F : Nat → TypeId → Prop} {w w' : World} {B : Nat} {e : TypeId} {k n c : Nat} {a : Option Addr} {xs : List Value} (h : Own w B e k a n c xs) (hm : Mod F w w') (hF : ∀ g, B ≤ g → ¬ F g e) : Own w' B e k a n c xs :=
  h.modI hm h.bnd fun g hg _ => hF g hg
theorem OwnM.modB {F : Nat → TypeId → Prop} {w w' : World} {B c : Nat} {a : Option Addr} {cs : List CellV} (h : OwnM w B a c cs) (hm : Mod F w w') (hF : ∀ g T, B ≤ g → ¬ F g T) : OwnM w' B a c cs :=
  ⟨h.row.modB hm fun g hg => hF g _ hg, fun x hx => (h.dat x hx).modB hm fun g hg => hF g _ hg, h.apart⟩
theorem OwnM.bnd {w : World} {B c n : Nat} {a : Option Addr} {cs : List CellV} (h : OwnM w B a c cs) (hn : cs.length = n) : (∀ x, a = some ⟨x, 0, none⟩ → n ≠ 0 → x < w.heap.size) ∧ ∀ y ∈ cs, y.d.l ≠ [] → ∀ x, y.d.a = some ⟨x, 0, none⟩ → x < w.heap.size := by
  refine ⟨fun x hx h0 => h.row.bnd x hx (.inl (by omega)), fun y hy h0 x hx => (h.dat y hy).bnd x hx (.inl fun e => h0 (List.eq_nil_of_length_eq_zero e))⟩
/-- A tape of one's own stored into a new variable. -/
theorem TapeO.new {w : World} {B : Nat} {M : Med} {a : Option Addr} {k c : Nat} {cs : List CellV} (cp : Int) (hcp : M.cap = cp) (h : MedR w B M a k c cs) (hc : k ≤ c) : TapeO ((w.alloc (.cells #[.int .i64 0, .slice none 0 0] 31)).setRow w.heap.size #[.int .i64 cp, .slice a k c]) B w.heap.size M a k c cs ∧
    Below w.heap.size w ((w.alloc (.cells #[.int .i64 0, .slice none 0 0] 31)).setRow w.heap.size #[.int .i64 cp, .slice a k c]) :=
  ⟨TapeO.put cp hcp (h.ext (ext_alloc w _)) hc (heap_alloc_new w _), bsetRow (ext_alloc w _) (Nat.le_refl _) _⟩
theorem Med.write_no {m : Med} (h : m.ok = false) (p : Int) (b : List Byte) : m.write p b = (Med.none, 1) := by unfold Med.write; rw [if_pos h]
theorem Med.tear_no {m : Med} (h : m.ok = false) (p : Int) (b : List Byte) (k : Int) : m.tear p b k = (Med.none, 1) := by unfold Med.tear; rw [if_pos h]
theorem Med.mark_no {m : Med} (h : m.ok = false) (p : Int) : m.mark p = (Med.none, 1) := by unfold Med.mark; rw [if_pos h]
theorem Med.end_no {m : Med} (h : m.ok = false) (p : Int) : m.end_ p = (Med.none, 1) := by unfold Med.end_; rw [if_pos (.inl h)]
theorem Med.read_no {m : Med} (h : m.ok = false) (p : Int) : m.read p = ([], 1) := by unfold Med.read; rw [if_pos h]
theorem Med.file_no {m : Med} (h : m.ok = false) (p : Int) : m.file p = (0, 1) := by unfold Med.file; rw [if_pos h]
theorem Med.file_behind {m : Med} (h : m.ok = true) (p : Int) : m.file p = m.behind p := by unfold Med.file; rw [if_neg (by rw [h]; decide)]
theorem Med.files_no {m : Med} (h : m.ok = false) : m.files = 0 := by unfold Med.files; rw [if_pos h]
theorem Med.spoil_no {m : Med} (h : m.ok = false) (p : Int) : m.spoil p = (Med.none, 1) := by unfold Med.spoil; rw [if_pos h]
theorem Med.flip_no {m : Med} (h : m.ok = false) (p b : Int) : m.flip p b = (Med.none, 1) := by unfold Med.flip; rw [if_pos h]
theorem Med.write_bound {m T : Med} {E p : Int} {b : List Byte} (h : m.write p b = (T, E)) {n K : Nat} (hn : m.cells.length ≤ n) (hs : ∀ c ∈ m.cells, c.data.length ≤ K) (hb : b.length ≤ K) : T.cells.length ≤ n + 1 ∧ ∀ c ∈ T.cells, c.data.length ≤ K := by
  have h0 : T = (m.write p b).1 := by rw [h]
  subst h0
  unfold Med.write
  split
  · exact ⟨Nat.zero_le _, by simp [Med.none]⟩
  split
  · exact ⟨Nat.zero_le _, by simp [Med.none]⟩
  · refine ⟨?_, fun c hc => ?_⟩
    · show (m.cells.take p.toNat ++ [_]).length ≤ n + 1
      rw [List.length_append, List.length_take]
      show min p.toNat m.cells.length + 1 ≤ n + 1
      omega
    · rcases List.mem_append.1 (show c ∈ m.cells.take p.toNat ++ [_] from hc) with h | h
      · exact hs c (List.mem_of_mem_take h)
      · rw [List.mem_singleton.1 h]
        exact hb
theorem Med.spoil_bound {m T : Med} {E p : Int} (h : m.spoil p = (T, E)) {n K : Nat} (hn : m.cells.length ≤ n) (hs : ∀ c ∈ m.cells, c.data.length ≤ K) : T.cells.length ≤ n ∧ ∀ c ∈ T.cells, c.data.length ≤ K := by
  have h0 : T = (m.spoil p).1 := by rw [h]
  subst h0
  unfold Med.spoil
  split
  · exact ⟨Nat.zero_le _, by simp [Med.none]⟩
  split
  · exact ⟨Nat.zero_le _, by simp [Med.none]⟩
  split
  · exact ⟨Nat.zero_le _, by simp [Med.none]⟩
  · rename_i c0 hc0
    refine ⟨by show (m.cells.set _ _).length ≤ n; rw [List.length_set]; exact hn, fun c hc => ?_⟩
    rcases List.mem_or_eq_of_mem_set (show c ∈ m.cells.set _ _ from hc) with h | rfl
    · exact hs c h
    · exact hs c0 (List.mem_of_getElem? hc0)
theorem MedR.len63 {w : World} {B : Nat} {M : Med} {a : Option Addr} {k c : Nat} {cs : List CellV} (h : MedR w B M a k c cs) : k ≤ 9223372036854775807 := by
  have h1 := h.own.row.len
  rw [h.len] at h1
  have h2 := h1.2
  unfold maxLen at h2
  omega
end Go.Proofs.Ytclkkhpnnbkfmaa

/- Drives: plain lemmas of their writes; power's methods beside a drive; what stays beside a drive. -/
namespace Go.Proofs.Ytclkkhpnnbkfmaa
open Go.RowKit

theorem locate_zero {m : Med} (h : marks m.cells = 0) {p : Nat} (hp : p ≤ m.cells.length) (q : Int) : m.locate 0 (p : Int) q = (0, (p : Int)) := by
  have hb : m.behind 0 = (0, 0) := by unfold Med.behind; rw [if_pos rfl]
  have hn : ((m.cells.drop 0).take p).any isMark = false := by
    rw [List.drop_zero, Bool.eq_false_iff]
    intro hc
    rw [List.any_eq_true] at hc
    obtain ⟨y, hy, hm⟩ := hc
    unfold marks at h
    rw [List.countP_eq_zero] at h
    exact h y (List.mem_of_mem_take hy) hm
  unfold Med.locate
  rw [if_neg (by omega), hb, if_neg (by simp; omega)]
  show (if ((m.cells.drop (0 : Int).toNat).take (p : Int).toNat).any isMark = true then (8, q) else (0, 0 + (p : Int))) = _
  rw [Int.toNat_natCast, show (0 : Int).toNat = 0 from rfl, hn]
  simp
theorem dvWrite_full {m : Med} {p : Nat} (hp : p ≤ m.cells.length) (hc : (p : Int) = m.cap) {b : List Byte} (hb : 1 ≤ b.length ∧ b.length ≤ 256) : dvWrite PS.new m p b = (7, PS.new, m, (p : Int)) := by
  unfold dvWrite
  rw [if_neg (by decide), wrong_full hp hc _ _ (fun _ => hb), if_pos (by decide)]
theorem dvWrite_ok {m : Med} {p : Nat} (hp : p ≤ m.cells.length) (hc : (p : Int) < m.cap) {b : List Byte} (hb : 1 ≤ b.length ∧ b.length ≤ 256) : dvWrite PS.new m p b = (0, PS.new, m.lay p ⟨1, b, false⟩, (p : Int) + 1) := by
  unfold dvWrite
  rw [if_neg (by decide), wrong_zero hp hc _ _ (fun _ => hb), if_neg (by decide)]
  rfl
theorem dvMark_ok {m : Med} {p : Nat} (hp : p ≤ m.cells.length) (hc : (p : Int) < m.cap) : dvMark PS.new m p = (0, PS.new, m.lay p ⟨2, [], false⟩, (p : Int) + 1) := by
  unfold dvMark
  rw [if_neg (by decide), wrong_zero hp hc _ _ (fun h => by cases h), if_neg (by decide)]
  rfl
/-- The power that goes at the first write. -/
def PS.last (t : Int) : PS := PS.new.arm 1 [] t
def PS.gone (t : Int) : PS := ⟨true, 0, [], t, none⟩
theorem PS.last_spend (t : Int) : (PS.last t).spend = (false, PS.gone t) := rfl
theorem PS.gone_torn (t : Int) : (PS.gone t).torn = t := rfl
/-- What is behind a write that was cut. -/
def tornM (m : Med) (p : Nat) (X : List CellP) (t : Int) : Med := if 0 ≤ t then ⟨m.cap, m.cells.take p ++ X⟩ else m
theorem tornM_cap (m : Med) (p : Nat) (X : List CellP) (t : Int) : (tornM m p X t).cap = m.cap := by unfold tornM; split <;> rfl
theorem tornM_len (m : Med) (p : Nat) (X : List CellP) (t : Int) : (tornM m p X t).cells.length ≤ m.cells.length + X.length := by
  unfold tornM
  split
  · rw [List.length_append, List.length_take]; omega
  · omega
theorem tornM_ge {m : Med} {p : Nat} (X : List CellP) (t : Int) (h : p ≤ m.cells.length) : p ≤ (tornM m p X t).cells.length := by
  unfold tornM
  split
  · rw [List.length_append, List.length_take]; omega
  · exact h
theorem tornM_mem {m : Med} {p : Nat} {X : List CellP} {t : Int} {y : CellP} (h : y ∈ (tornM m p X t).cells) : y ∈ m.cells ∨ y ∈ X := by
  unfold tornM at h
  split at h
  · rcases List.mem_append.1 h with h | h
    · exact .inl (List.mem_of_mem_take h)
    · exact .inr h
  · exact .inl h
theorem tornM_get {m : Med} {p : Nat} (X : List CellP) (t : Int) {j : Nat} (hj : j < p) (h : p ≤ m.cells.length) : (tornM m p X t).cells[j]? = m.cells[j]? := by
  unfold tornM
  split
  · rw [List.getElem?_append_left (by rw [List.length_take]; omega), List.getElem?_take, if_pos hj]
  · rfl
theorem tornM_end {m : Med} {p : Nat} (x : CellP) {t : Int} (ht : 0 ≤ t) (h : p ≤ m.cells.length) : (tornM m p [x] t).cells[p]? = some x := by
  unfold tornM
  rw [if_pos ht, List.getElem?_append_right (by rw [List.length_take]; omega), List.length_take, Nat.min_eq_left h, Nat.sub_self]
  rfl
theorem tornM_pos {m : Med} {p : Nat} (X : List CellP) {t : Int} (ht : 0 ≤ t) (h : p ≤ m.cells.length) : (tornM m p X t).cells.length = p + X.length := by
  unfold tornM
  rw [if_pos ht, List.length_append, List.length_take, Nat.min_eq_left h]
theorem dvWrite_cut {m : Med} {p : Nat} (hp : p ≤ m.cells.length) (hc : (p : Int) < m.cap) {b : List Byte} (hb : 1 ≤ b.length ∧ b.length ≤ 256) (t : Int) : dvWrite (PS.last t) m p b = (5, PS.gone t, tornM m p [⟨3, b.take t.toNat, false⟩] t, (p : Int)) := by
  unfold dvWrite
  rw [if_neg (by simp [PS.last, PS.arm, PS.new]), wrong_zero hp hc _ _ (fun _ => hb), if_neg (by decide), PS.last_spend, if_neg (by simp), PS.gone_torn]
  unfold tornM
  split <;> rfl
theorem dvMark_cut {m : Med} {p : Nat} (hp : p ≤ m.cells.length) (hc : (p : Int) < m.cap) (t : Int) : dvMark (PS.last t) m p = (5, PS.gone t, tornM m p [⟨2, [], false⟩] t, (p : Int)) := by
  unfold dvMark
  rw [if_neg (by simp [PS.last, PS.arm, PS.new]), wrong_zero hp hc _ _ (fun h => by cases h), if_neg (by decide), PS.last_spend, if_neg (by simp), PS.gone_torn]
  unfold tornM
  split <;> rfl
theorem dvEnd_cut {m : Med} {p : Nat} (t : Int) : dvEnd (PS.last t) m p = (5, PS.gone t, tornM m p [] t) := by
  unfold dvEnd
  rw [if_neg (by simp [PS.last, PS.arm, PS.new]), PS.last_spend, if_neg (by simp), PS.gone_torn]
  unfold tornM
  rw [List.append_nil]
  split <;> rfl

variable {B : Nat} {K K' : Nat → Prop} {w w' : World} {d g : Nat} {M : Med} {at_ : Int} {s : PS}
theorem DrvP.rek (h : DrvP B K w d g M at_ s) (hK : ∀ b, B ≤ b → b < w.heap.size → K b → K' b) : DrvP B K' w d g M at_ s := by
  obtain ⟨⟨a, k, c, cs, h⟩, hp⟩ := h
  have hrw := h.r.own.row
  rw [h.r.len] at hrw
  exact ⟨⟨a, k, c, cs, h.low, hK _ h.low (heap_lt h.obj) h.kd, h.obj, h.r, h.cap, hrw.rowInAnd h.kr hK, fun x hx => (h.r.own.dat x hx).rowInAnd (h.du x hx) hK⟩, hp⟩
theorem DrvP.pow (h : DrvP B K w d g M at_ s) : Pow B w g s := h.2
theorem DrvP.low (h : DrvP B K w d g M at_ s) : B ≤ w.heap.size := by
  obtain ⟨⟨a, k, c, cs, h⟩, hp⟩ := h
  exact Nat.le_of_lt (Nat.lt_of_le_of_lt h.low (heap_lt h.obj))
theorem drv_trip (n t : Int) (s' : PS) (w : World) (hd : DrvP B K w d g M at_ s) (hn : n ≤ 9223372036854775807) (hs : s.arm n [] t = s') :
    Calls Try.prog 38 #[.pointer (some ⟨g, 0, none⟩), .int .i64 n, .slice none 0 0, .int .i64 t] w fun e w' => e = .returned (.tuple #[]) ∧ DrvP B K w' d g M at_ s' ∧ Mod (VF B K) w w' := by
  have hB := hd.low
  obtain ⟨⟨a, k, c, cs, h⟩, hp⟩ := hd
  refine (arm_nil hB hp hs hn).mono ?_
  rintro e w2 ⟨rfl, hp2, hm⟩
  exact ⟨rfl, ⟨⟨a, k, c, cs, h.pf hm⟩, hp2⟩, PF.vf hm⟩
/-- A tape of one's own beside a drive. -/
theorem MedR.vf {W : Nat} {M : Med} {a : Option Addr} {k c : Nat} {cs : List CellV} (h : MedR w W M a k c cs) (hm : Mod (VF B K) w w') (hK : ∀ b, W ≤ b → b < w.heap.size → ¬ K b) : MedR w' W M a k c cs := by
  refine ⟨⟨h.own.row.modI (N := w.heap.size) hm h.own.row.bnd fun b h1 h2 hf => ?_, fun x hx => (h.own.dat x hx).mod hm fun b _ _ => VF_no_u8 b, h.own.apart⟩, h.len, h.pls⟩
  rcases hf.2 with hf | hf
  · revert hf; decide
  · exact hK b h1 h2 hf.1
theorem VF_no_med (b : Nat) : ¬ VF B K b 31 := by
  rintro ⟨_, h | ⟨_, h⟩⟩ <;> revert h <;> decide
theorem TapeO.vf {W g : Nat} {M : Med} {a : Option Addr} {k c : Nat} {cs : List CellV} (h : TapeO w W g M a k c cs) (hm : Mod (VF B K) w w') (hK : ∀ b, W ≤ b → b < w.heap.size → ¬ K b) : TapeO w' W g M a k c cs :=
  ⟨hm.keep h.box (VF_no_med _), h.r.vf hm hK, h.cap⟩
/-- What stands at a place of a tape. -/
theorem TapeAt.cell {G : Nat} {M : Med} {a : Option Addr} {k c : Nat} {cs : List CellV} (h : TapeAt w G M a k c cs) {j : Nat} {y : CellP} (hj : M.cells[j]? = some y) :
    ∃ x o da dc, a = some ⟨x, o, none⟩ ∧ x < w.heap.size ∧ w.cell? ⟨x, o + j * 3, none⟩ = some (.int .i64 y.kind) ∧ w.cell? ⟨x, o + j * 3 + 1, none⟩ = some (.slice da y.data.length dc) ∧ w.cell? ⟨x, o + j * 3 + 2, none⟩ = some (.bool y.bad) ∧ Src w da (bvs y.data) ∧ j < k := by
  have hjl := (List.getElem?_eq_some_iff.1 hj).1
  rw [← h.pls, pls_length] at hjl
  obtain ⟨x, o, ha, hlx, hat⟩ := h.mat.src.elem CellV.len (by decide) hjl
  have hg := pls_get hjl
  rw [h.pls, hj] at hg
  obtain rfl : y = cs[j].pl := by simpa using hg
  exact ⟨x, o, cs[j].d.a, cs[j].d.c, ha, hlx, hat j hjl 0 _ rfl, hat j hjl 1 _ rfl, hat j hjl 2 _ rfl, (h.mat.row _ (List.getElem_mem hjl)).1, by rw [h.len]; exact hjl⟩
end Go.Proofs.Ytclkkhpnnbkfmaa

/- Numbers as bytes, the highest first: plain. -/
namespace Go.Proofs.Ytclkkhpnnbkfmaa

def be (n : Nat) : Nat → List Byte
  | 0 => []
  | s + 1 => BitVec.ofNat 8 (n / 256 ^ s) :: be n s
def numOf (l : List Byte) : Nat := l.foldl (fun n c => n * 256 + c.toNat) 0

theorem be_length (n s : Nat) : (be n s).length = s := by
  induction s with
  | zero => rfl
  | succ s ih => simp [be, ih]
theorem numOf_snoc (l : List Byte) (c : Byte) : numOf (l ++ [c]) = numOf l * 256 + c.toNat := by simp [numOf]
theorem foldl_num (l : List Byte) : ∀ n : Nat, l.foldl (fun n c => n * 256 + c.toNat) n = n * 256 ^ l.length + l.foldl (fun n (c : Byte) => n * 256 + c.toNat) 0 := by
  induction l with
  | nil => intro n; simp
  | cons x l ih =>
    intro n
    simp only [List.foldl_cons, List.length_cons]
    rw [ih (n * 256 + x.toNat), ih (0 * 256 + x.toNat), Nat.pow_succ]
    rw [Nat.add_mul, Nat.zero_mul, Nat.zero_add, Nat.mul_assoc, Nat.mul_comm 256]
    omega
theorem numOf_cons (x : Byte) (l : List Byte) : numOf (x :: l) = x.toNat * 256 ^ l.length + numOf l := by
  unfold numOf
  rw [List.foldl_cons, foldl_num]
  simp
theorem numOf_lt (l : List Byte) : numOf l < 256 ^ l.length := by
  induction l with
  | nil => simp [numOf]
  | cons x l ih =>
    rw [numOf_cons, List.length_cons, Nat.pow_succ]
    have hx := x.isLt
    have h1 : x.toNat * 256 ^ l.length ≤ 255 * 256 ^ l.length := Nat.mul_le_mul_right _ (by omega)
    omega
theorem numOf_be (n s : Nat) : numOf (be n s) = n % 256 ^ s := by
  induction s with
  | zero => simp [be, numOf, Nat.mod_one]
  | succ s ih =>
    rw [be, numOf_cons, be_length, ih, Nat.pow_succ, Nat.mod_mul, BitVec.toNat_ofNat, Nat.mul_comm, show (2 : Nat) ^ 8 = 256 from rfl]
    omega
theorem be_congr {n m s : Nat} (h : n % 256 ^ s = m % 256 ^ s) : be n s = be m s := by
  induction s with
  | zero => rfl
  | succ s ih =>
    rw [Nat.pow_succ, Nat.mod_mul, Nat.mod_mul] at h
    have hp : 0 < 256 ^ s := Nat.pow_pos (by omega)
    have hn := Nat.mod_lt n hp
    have hm := Nat.mod_lt m hp
    have h1 : n % 256 ^ s = m % 256 ^ s := by
      have := congrArg (· % 256 ^ s) h
      simpa [Nat.add_mul_mod_self_left, Nat.mod_mod] using this
    have h2 : n / 256 ^ s % 256 = m / 256 ^ s % 256 := by
      rw [h1] at h
      have h3 : 256 ^ s * (n / 256 ^ s % 256) = 256 ^ s * (m / 256 ^ s % 256) := by omega
      exact Nat.eq_of_mul_eq_mul_left hp h3
    rw [be, be, ih h1]
    congr 1
    apply BitVec.eq_of_toNat_eq
    simpa using h2
theorem be_numOf (l : List Byte) : be (numOf l) l.length = l := by
  induction l with
  | nil => rfl
  | cons x l ih =>
    have hp : 0 < 256 ^ l.length := Nat.pow_pos (by omega)
    have hl := numOf_lt l
    have hd : numOf (x :: l) / 256 ^ l.length = x.toNat := by
      rw [numOf_cons, Nat.add_comm, Nat.add_mul_div_right _ _ hp, Nat.div_eq_of_lt hl, Nat.zero_add]
    have hm : numOf (x :: l) % 256 ^ l.length = numOf l % 256 ^ l.length := by
      rw [numOf_cons, Nat.add_comm, Nat.add_mul_mod_self_right]
    rw [List.length_cons, be, hd, be_congr hm, ih]
    congr 1
    simp
theorem numOf_be_of_lt {n s : Nat} (h : n < 256 ^ s) : numOf (be n s) = n := by rw [numOf_be, Nat.mod_eq_of_lt h]
theorem be_take_succ (n s j : Nat) (h : j < s) : (be n s).take (j + 1) = (be n s).take j ++ [BitVec.ofNat 8 (n / 256 ^ (s - 1 - j))] := by
  have hg : ∀ (s j : Nat) (h : j < (be n s).length), (be n s)[j] = BitVec.ofNat 8 (n / 256 ^ (s - 1 - j)) := by
    intro s
    induction s with
    | zero => intro j h; simp [be] at h
    | succ s ih =>
      intro j h
      cases j with
      | zero => simp [be]
      | succ j =>
        simp only [be, List.getElem_cons_succ]
        rw [ih j (by simpa [be] using h), show s - 1 - j = s + 1 - 1 - (j + 1) by omega]
  rw [take_succ_list _ j (by rw [be_length]; exact h), hg]
theorem pow8 (s : Nat) : 2 ^ (8 * s) = 256 ^ s := by rw [Nat.pow_mul]
theorem pow256_le {s : Nat} (h : s ≤ 7) : 256 ^ s ≤ 72057594037927936 := by
  have := Nat.pow_le_pow_right (n := 256) (by omega) h
  simpa using this
theorem numOf_take_succ (l : List Byte) (k : Nat) (h : k < l.length) : numOf (l.take (k + 1)) = numOf (l.take k) * 256 + l[k].toNat := by
  rw [take_succ_list l k h, numOf_snoc]
end Go.Proofs.Ytclkkhpnnbkfmaa

/- Records' frames: plain. -/
namespace Go.Proofs.Ytclkkhpnnbkfmaa

theorem crcBytesOf_len (z : BitVec 32) : (crcBytesOf z).length = 4 := rfl

structure Rec where
  kind : Int
  seq : Int
  d : List Byte
def Rec.zero : Rec := ⟨0, 0, []⟩
/-- Why a record may not be; 0: it may. -/
def recE (kind seq : Int) (n : Nat) : Int := if kind < 1 ∨ 5 < kind ∨ seq < 0 ∨ 1073741824 ≤ seq then 1 else if 8000 < n then 2 else 0
def Rec.e (r : Rec) : Int := recE r.kind r.seq r.d.length
def fhead (r : Rec) : List Byte := be r.kind.toNat 1 ++ (be r.seq.toNat 4 ++ be r.d.length 4)
def frameOf (r : Rec) : List Byte := fhead r ++ (crcBytesOf (crc (fhead r ++ r.d)) ++ r.d)
def joinB (l : List Rec) : List Byte := (l.map frameOf).flatten
def joinE : List Rec → Int
  | [] => 0
  | r :: l => if r.e = 0 then joinE l else r.e
/-- What is joined: nothing where a record may not be. -/
def joinR (l : List Rec) : List Byte := if joinE l = 0 then joinB l else []

def readF (b : List Byte) (at_ : Int) : Rec × Int × Int :=
  if at_ < 0 ∨ (b.length : Int) < at_ then (Rec.zero, 0, 1)
  else if b.length < at_.toNat + 13 then (Rec.zero, 0, 3)
  else
    if recE ((b.getD at_.toNat 0#8).toNat : Int) ((numOf ((b.drop (at_.toNat + 1)).take 4) : Nat) : Int) 0 ≠ 0 ∨ 8000 < numOf ((b.drop (at_.toNat + 5)).take 4) ∨ b.length < at_.toNat + 13 + numOf ((b.drop (at_.toNat + 5)).take 4) then (Rec.zero, 0, 3)
    else if crcBytesOf (crc ((b.drop at_.toNat).take 9 ++ (b.drop (at_.toNat + 13)).take (numOf ((b.drop (at_.toNat + 5)).take 4)))) = (b.drop (at_.toNat + 9)).take 4 then
      (⟨((b.getD at_.toNat 0#8).toNat : Int), ((numOf ((b.drop (at_.toNat + 1)).take 4) : Nat) : Int), (b.drop (at_.toNat + 13)).take (numOf ((b.drop (at_.toNat + 5)).take 4))⟩, ((at_.toNat + 13 + numOf ((b.drop (at_.toNat + 5)).take 4) : Nat) : Int), 0)
    else (Rec.zero, 0, 4)

/-- Split: from a place on; the records that were read. -/
def splitFrom (b : List Byte) : Nat → Nat → List Rec → List Rec × Int
  | 0, _, acc => (acc, 0)
  | fuel + 1, p, acc =>
    if p < b.length then
      if (readF b p).2.2 = 0 then splitFrom b fuel (readF b p).2.1.toNat (acc ++ [(readF b p).1]) else ([], (readF b p).2.2)
    else (acc, 0)
def splitF (b : List Byte) : List Rec × Int := splitFrom b b.length 0 []

theorem recE_ok {k s : Int} {n : Nat} : recE k s n = 0 ↔ 1 ≤ k ∧ k ≤ 5 ∧ 0 ≤ s ∧ s < 1073741824 ∧ n ≤ 8000 := by
  unfold recE; split
  · constructor
    · intro h; omega
    · omega
  · split
    · constructor
      · intro h; omega
      · omega
    · constructor
      · omega
      · intro; rfl
theorem fhead_length (r : Rec) : (fhead r).length = 9 := by simp [fhead, be_length]
theorem frameOf_length (r : Rec) : (frameOf r).length = 13 + r.d.length := by
  simp [frameOf, fhead_length, crcBytesOf_len]; omega
theorem joinB_cons (r : Rec) (l : List Rec) : joinB (r :: l) = frameOf r ++ joinB l := by simp [joinB]
theorem joinB_snoc (l : List Rec) (r : Rec) : joinB (l ++ [r]) = joinB l ++ frameOf r := by simp [joinB]
theorem joinB_append (l m : List Rec) : joinB (l ++ m) = joinB l ++ joinB m := by simp [joinB]
theorem joinE_ok {l : List Rec} : joinE l = 0 ↔ ∀ r ∈ l, r.e = 0 := by
  induction l with
  | nil => simp [joinE]
  | cons r l ih =>
    simp only [joinE, List.mem_cons, forall_eq_or_imp]
    split
    · next h => rw [ih]; simp [h]
    · next h => simp [h]
/-- The first that may not be tells the error. -/
theorem joinE_at {l : List Rec} {k : Nat} (hk : k < l.length) (h : ∀ r ∈ l.take k, r.e = 0) (hne : l[k].e ≠ 0) : joinE l = l[k].e := by
  induction l generalizing k with
  | nil => simp at hk
  | cons r l ih =>
    cases k with
    | zero => simp only [joinE, List.getElem_cons_zero] at hne ⊢; rw [if_neg hne]
    | succ k =>
      simp only [List.take_succ_cons, List.mem_cons, forall_eq_or_imp] at h
      simp only [joinE, List.getElem_cons_succ] at hne ⊢
      rw [if_pos h.1]
      exact ih _ h.2 hne

theorem getD_append_left {α : Type} (l m : List α) (i : Nat) (x : α) (h : i < l.length) : (l ++ m).getD i x = l.getD i x := by
  simp [List.getD_eq_getElem?_getD, List.getElem?_append_left h]

/-- A frame that stands in bytes is read. -/
theorem readF_frame (pre post : List Byte) (r : Rec) (h : r.e = 0) : readF (pre ++ (frameOf r ++ post)) pre.length = (r, ((pre.length + 13 + r.d.length : Nat) : Int), 0) := by
  obtain ⟨h1, h2, h3, h4, h5⟩ := recE_ok.1 h
  obtain ⟨K, hK⟩ := Int.eq_ofNat_of_zero_le (show 0 ≤ r.kind by omega)
  obtain ⟨S, hS⟩ := Int.eq_ofNat_of_zero_le h3
  have hfl := frameOf_length r
  have e0 : ((pre.length : Int)).toNat = pre.length := by simp
  have d0 : (pre ++ (frameOf r ++ post)).drop pre.length = frameOf r ++ post := by simp
  have hd : ∀ k, (pre ++ (frameOf r ++ post)).drop (pre.length + k) = (frameOf r ++ post).drop k := by intro k; rw [← List.drop_drop, d0]
  have hb1 : (be r.kind.toNat 1).length = 1 := be_length _ _
  have hbs : (be r.seq.toNat 4).length = 4 := be_length _ _
  have hbn : (be r.d.length 4).length = 4 := be_length _ _
  have hform : frameOf r ++ post = be r.kind.toNat 1 ++ (be r.seq.toNat 4 ++ (be r.d.length 4 ++ (crcBytesOf (crc (fhead r ++ r.d)) ++ (r.d ++ post)))) := by
    simp [frameOf, fhead, List.append_assoc]
  have hbe1 : be r.kind.toNat 1 = [BitVec.ofNat 8 K] := by rw [hK]; simp [be]
  have g0 : (pre ++ (frameOf r ++ post)).getD pre.length 0#8 = BitVec.ofNat 8 K := by
    rw [hform, hbe1]
    simp [List.getD_eq_getElem?_getD]
  have g1 : ((frameOf r ++ post).drop 1).take 4 = be r.seq.toNat 4 := by
    rw [hform, List.drop_left' hb1, List.take_left' hbs]
  have g5 : ((frameOf r ++ post).drop 5).take 4 = be r.d.length 4 := by
    rw [hform, show (5 : Nat) = 1 + 4 from rfl, ← List.drop_drop, List.drop_left' hb1, List.drop_left' hbs, List.take_left' hbn]
  have g9 : (frameOf r ++ post).take 9 = fhead r := by
    rw [frameOf, List.append_assoc, List.take_left' (fhead_length r)]
  have g9' : ((frameOf r ++ post).drop 9).take 4 = crcBytesOf (crc (fhead r ++ r.d)) := by
    rw [frameOf, List.append_assoc, List.drop_left' (fhead_length r), List.append_assoc, List.take_left' (crcBytesOf_len _)]
  have g13 : ((frameOf r ++ post).drop 13).take r.d.length = r.d := by
    rw [frameOf, List.append_assoc, show (13 : Nat) = 9 + 4 from rfl, ← List.drop_drop, List.drop_left' (fhead_length r), List.append_assoc, List.drop_left' (crcBytesOf_len _), List.take_left' rfl]
  have p4 : (256 : Nat) ^ 4 = 4294967296 := by decide
  have n1 : numOf (be r.seq.toNat 4) = S := by rw [numOf_be_of_lt (by rw [p4]; omega), hS]; simp
  have n5 : numOf (be r.d.length 4) = r.d.length := numOf_be_of_lt (by rw [p4]; omega)
  have hlen : (pre ++ (frameOf r ++ post)).length = pre.length + (13 + r.d.length) + post.length := by simp [hfl]; omega
  unfold readF
  rw [e0, d0, hd 1, hd 5, hd 9, hd 13, g0, g1, g5, g9, g9', n1, n5, g13]
  have hk8 : ((BitVec.ofNat 8 K).toNat : Int) = r.kind := by rw [BitVec.toNat_ofNat]; omega
  rw [if_neg (by rw [hlen]; omega), if_neg (by rw [hlen]; omega), hk8, if_neg (by
    rw [hlen]
    intro hh
    rcases hh with hh | hh | hh
    · exact hh (recE_ok.2 ⟨h1, h2, by omega, by omega, by omega⟩)
    · omega
    · omega), if_pos rfl]
  refine Prod.ext ?_ rfl
  obtain ⟨kind, seq, d⟩ := r
  simp only [Rec.mk.injEq, and_true, true_and]
  simpa using hS.symm
end Go.Proofs.Ytclkkhpnnbkfmaa
