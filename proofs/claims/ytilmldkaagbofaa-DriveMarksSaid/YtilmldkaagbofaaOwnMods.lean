/- What stays of rows of one's own when blocks of a range are written. -/
import Derived.Test.YtilmldkaagbofaaKeepSpoilM
import Derived.Test.YtilmldkaagbofaaDriveMarksPartC
namespace Go.Proofs.Ytilmldkaagbofaa
open Go.RowKit

theorem Own.bnd {w : World} {B : Nat} {e : TypeId} {k n c : Nat} {a : Option Addr} {xs : List Value} (h : Own w B e k a n c xs) : ∀ g, a = some ⟨g, 0, none⟩ → (n ≠ 0 ∨ c ≠ 0) → g < w.heap.size := by
  intro g hg hn
  obtain ⟨_, ⟨h1, h2⟩ | ⟨g', cur, ha, _, hh, _⟩⟩ := h
  · omega
  · rw [ha] at hg
    simp only [Option.some.injEq, Addr.mk.injEq, and_true] at hg
    rw [← hg]
    exact heap_lt hh
theorem Own.modI {F : Nat → TypeId → Prop} {w w' : World} {B N : Nat} {e : TypeId} {k n c : Nat} {a : Option Addr} {xs : List Value} (h : Own w B e k a n c xs) (hm : Mod F w w') (hN : ∀ g, a = some ⟨g, 0, none⟩ → (n ≠ 0 ∨ c ≠ 0) → g < N) (hF : ∀ g, B ≤ g → g < N → ¬ F g e) : Own w' B e k a n c xs := by
  obtain ⟨hl, h0 | ⟨g, cur, ha, hb, hh, hn, hr⟩⟩ := h
  · exact ⟨hl, .inl h0⟩
  · by_cases hz : n = 0 ∧ c = 0
    · exact ⟨hl, .inl hz⟩
    · exact ⟨hl, .inr ⟨g, cur, ha, hb, hm.keep hh (hF g hb (hN g ha (by omega))), hn, hr⟩⟩
theorem Own.modB {F : Nat → TypeId → Prop} {w w' : World} {B : Nat} {e : TypeId} {k n c : Nat} {a : Option Addr} {xs : List Value} (h : Own w B e k a n c xs) (hm : Mod F w w') (hF : ∀ g, B ≤ g → ¬ F g e) : Own w' B e k a n c xs :=
  h.modI hm h.bnd fun g hg _ => hF g hg
theorem OwnM.modB {F : Nat → TypeId → Prop} {w w' : World} {B c : Nat} {a : Option Addr} {cs : List CellV} (h : OwnM w B a c cs) (hm : Mod F w w') (hF : ∀ g T, B ≤ g → ¬ F g T) : OwnM w' B a c cs :=
  ⟨h.row.modB hm fun g hg => hF g _ hg, fun x hx => (h.dat x hx).modB hm fun g hg => hF g _ hg, h.apart⟩
theorem OwnM.bnd {w : World} {B c n : Nat} {a : Option Addr} {cs : List CellV} (h : OwnM w B a c cs) (hn : cs.length = n) : (∀ x, a = some ⟨x, 0, none⟩ → n ≠ 0 → x < w.heap.size) ∧ ∀ y ∈ cs, y.d.l ≠ [] → ∀ x, y.d.a = some ⟨x, 0, none⟩ → x < w.heap.size := by
  refine ⟨fun x hx h0 => h.row.bnd x hx (.inl (by omega)), fun y hy h0 x hx => (h.dat y hy).bnd x hx (.inl fun e => h0 (List.eq_nil_of_length_eq_zero e))⟩
/-- A tape of one's own stored into a new variable. -/
theorem TapeO.new {w : World} {B : Nat} {M : Med} {a : Option Addr} {k c : Nat} {cs : List CellV} (cp : Int) (hcp : M.cap = cp) (h : MedR w B M a k c cs) (hc : k ≤ c) : TapeO ((w.alloc (.cells #[.int .i64 0, .slice none 0 0] 32)).setRow w.heap.size #[.int .i64 cp, .slice a k c]) B w.heap.size M a k c cs ∧
    Below w.heap.size w ((w.alloc (.cells #[.int .i64 0, .slice none 0 0] 32)).setRow w.heap.size #[.int .i64 cp, .slice a k c]) :=
  ⟨TapeO.put cp hcp (h.ext (ext_alloc w _)) hc (heap_alloc_new w _), bsetRow (ext_alloc w _) (Nat.le_refl _) _⟩
theorem Med.write_no {m : Med} (h : m.ok = false) (p : Int) (b : List Byte) : m.write p b = (Med.none, 1) := by unfold Med.write; rw [if_pos h]
theorem Med.tear_no {m : Med} (h : m.ok = false) (p : Int) (b : List Byte) (k : Int) : m.tear p b k = (Med.none, 1) := by unfold Med.tear; rw [if_pos h]
theorem Med.mark_no {m : Med} (h : m.ok = false) (p : Int) : m.mark p = (Med.none, 1) := by unfold Med.mark; rw [if_pos h]
theorem Med.end_no {m : Med} (h : m.ok = false) (p : Int) : m.end_ p = (Med.none, 1) := by unfold Med.end_; rw [if_pos (.inl h)]
theorem Med.read_no {m : Med} (h : m.ok = false) (p : Int) : m.read p = ([], 1) := by unfold Med.read; rw [if_pos h]
theorem Med.file_no {m : Med} (h : m.ok = false) (p : Int) : m.file p = (0, 1) := by unfold Med.file; rw [if_pos h]
theorem Med.file_behind {m : Med} (h : m.ok = true) (p : Int) : m.file p = m.behind p := by unfold Med.file; rw [if_neg (by rw [h]; decide)]
theorem Med.files_no {m : Med} (h : m.ok = false) : m.files = 0 := by unfold Med.files; rw [if_pos h]
theorem Med.spoil_no {m : Med} (h : m.ok = false) (p : Int) : m.spoil p = (Med.none, 1) := by unfold Med.spoil; rw [if_pos h]
theorem Med.flip_no {m : Med} (h : m.ok = false) (p b : Int) : m.flip p b = (Med.none, 1) := by unfold Med.flip; rw [if_pos h]
theorem Med.write_bound {m T : Med} {E p : Int} {b : List Byte} (h : m.write p b = (T, E)) {n K : Nat} (hn : m.cells.length ≤ n) (hs : ∀ c ∈ m.cells, c.data.length ≤ K) (hb : b.length ≤ K) : T.cells.length ≤ n + 1 ∧ ∀ c ∈ T.cells, c.data.length ≤ K := by
  have h0 : T = (m.write p b).1 := by rw [h]
  subst h0
  unfold Med.write
  split
  · exact ⟨Nat.zero_le _, by simp [Med.none]⟩
  split
  · exact ⟨Nat.zero_le _, by simp [Med.none]⟩
  · refine ⟨?_, fun c hc => ?_⟩
    · show (m.cells.take p.toNat ++ [_]).length ≤ n + 1
      rw [List.length_append, List.length_take]
      show min p.toNat m.cells.length + 1 ≤ n + 1
      omega
    · rcases List.mem_append.1 (show c ∈ m.cells.take p.toNat ++ [_] from hc) with h | h
      · exact hs c (List.mem_of_mem_take h)
      · rw [List.mem_singleton.1 h]
        exact hb
theorem Med.spoil_bound {m T : Med} {E p : Int} (h : m.spoil p = (T, E)) {n K : Nat} (hn : m.cells.length ≤ n) (hs : ∀ c ∈ m.cells, c.data.length ≤ K) : T.cells.length ≤ n ∧ ∀ c ∈ T.cells, c.data.length ≤ K := by
  have h0 : T = (m.spoil p).1 := by rw [h]
  subst h0
  unfold Med.spoil
  split
  · exact ⟨Nat.zero_le _, by simp [Med.none]⟩
  split
  · exact ⟨Nat.zero_le _, by simp [Med.none]⟩
  split
  · exact ⟨Nat.zero_le _, by simp [Med.none]⟩
  · rename_i c0 hc0
    refine ⟨by show (m.cells.set _ _).length ≤ n; rw [List.length_set]; exact hn, fun c hc => ?_⟩
    rcases List.mem_or_eq_of_mem_set (show c ∈ m.cells.set _ _ from hc) with h | rfl
    · exact hs c h
    · exact hs c0 (List.mem_of_getElem? hc0)
theorem MedR.len63 {w : World} {B : Nat} {M : Med} {a : Option Addr} {k c : Nat} {cs : List CellV} (h : MedR w B M a k c cs) : k ≤ 9223372036854775807 := by
  have h1 := h.own.row.len
  rw [h.len] at h1
  have h2 := h1.2
  unfold maxLen at h2
  omega
end Go.Proofs.Ytilmldkaagbofaa
