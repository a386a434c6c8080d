/- Several texts of this claim, one behind the other: MedEndsP, TapeAt. -/
import Derived.Test.YtilmldkaagbofaaDriveMarksPartA
import Derived.Test.YtilmldkaagbofaaMedPos
import Derived.Test.YtilmldkaagbofaaMedLaw
import Derived.Test.YtilmldkaagbofaaKeepMed
/- Tapes that are cut, plain. -/
namespace Go.Proofs.Ytilmldkaagbofaa
open Go.RowKit

theorem Med.ok_take {m : Med} (h : m.ok = true) (p : Nat) : (Med.mk m.cap (m.cells.take p)).ok = true := by
  rw [Med.ok_iff] at h ⊢
  obtain ⟨⟨h1, h2, h3⟩, h4⟩ := h
  refine ⟨⟨h1, h2, ?_⟩, fun c hc => h4 c (List.mem_of_mem_take hc)⟩
  have : (m.cells.take p).length ≤ m.cells.length := by rw [List.length_take]; omega
  show ((m.cells.take p).length : Int) ≤ m.cap
  omega
theorem Med.end_ok {m : Med} (h : m.ok = true) {p : Nat} (hp : p ≤ m.cells.length) : m.end_ (p : Int) = (⟨m.cap, m.cells.take p⟩, 0) := by
  unfold Med.end_
  rw [if_neg (by rw [h]; simp; omega), Int.toNat_natCast]
theorem Med.read_past {m : Med} (h : m.ok = true) : m.read (m.cells.length : Int) = ([], 8) := by
  unfold Med.read Med.look
  rw [if_neg (by rw [h]; decide), if_pos (.inr (Int.le_refl _))]
theorem Med.files_ok {m : Med} (h : m.ok = true) : m.files = (marks m.cells : Int) := by
  unfold Med.files
  rw [if_neg (by rw [h]; decide)]
/-- What the law says of the cut tapes. -/
structure EndsP (m : Med) (p q : Nat) : Prop where
  e1 : m.end_ (p : Int) = (⟨m.cap, m.cells.take p⟩, 0)
  e2 : (Med.mk m.cap (m.cells.take p)).end_ (q : Int) = (⟨m.cap, m.cells.take q⟩, 0)
  e3 : m.end_ (q : Int) = (⟨m.cap, m.cells.take q⟩, 0)
  rd : (Med.mk m.cap (m.cells.take p)).read (p : Int) = ([], 8)
  fa : (Med.mk m.cap (m.cells.take p)).files = (marks (m.cells.take p) : Int)
  fm : m.files = (marks m.cells : Int)
  le : marks (m.cells.take p) ≤ marks m.cells
theorem endsP {m : Med} (h : m.ok = true) {p q : Nat} (hp : p ≤ m.cells.length) (hq : q ≤ p) : EndsP m p q := by
  have hk := Med.ok_take h p
  have hl : (m.cells.take p).length = p := by rw [List.length_take]; omega
  refine ⟨Med.end_ok h hp, ?_, Med.end_ok h (by omega), ?_, Med.files_ok hk, Med.files_ok h, ?_⟩
  · rw [Med.end_ok hk (by show q ≤ (m.cells.take p).length; omega)]
    show (Med.mk m.cap ((m.cells.take p).take q), (0 : Int)) = _
    rw [List.take_take, Nat.min_eq_left hq]
  · have := Med.read_past hk
    rwa [show (Med.mk m.cap (m.cells.take p)).cells.length = p from hl] at this
  · have := marks_mono m.cells hp
    rwa [List.take_length] at this
end Go.Proofs.Ytilmldkaagbofaa

/- A tape in a block; 'none'. -/
namespace Go.Proofs.Ytilmldkaagbofaa
open Go.RowKit

/-- In block g stands the tape M. -/
structure TapeAt (w : World) (g : Nat) (M : Med) (a : Option Addr) (k c : Nat) (cs : List CellV) : Prop where
  box : BoxM w g M.cap a k c
  mat : CMat w a cs
  len : k = cs.length
  pls : pls cs = M.cells
  cap : k ≤ c
theorem TapeAt.ext {w w' : World} {g : Nat} {M : Med} {a : Option Addr} {k c : Nat} {cs : List CellV} (h : TapeAt w g M a k c cs) (hb : Below w.heap.size w w') : TapeAt w' g M a k c cs := ⟨h.box.ext hb, h.mat.ext hb, h.len, h.pls, h.cap⟩
theorem TapeAt.of {w : World} {g : Nat} {M : Med} {a : Option Addr} {k c : Nat} {cs : List CellV} (h : TapeAt w g M a k c cs) : medOf M.cap cs = M := by unfold medOf; rw [h.pls]
theorem TapeAt.short {w : World} {g : Nat} {M : Med} {a : Option Addr} {k c : Nat} {cs : List CellV} (h : TapeAt w g M a k c cs) {K : Nat} (hK : ∀ c ∈ M.cells, c.data.length ≤ K) : ∀ x ∈ cs, x.d.l.length ≤ K := short_of h.pls hK
/-- A tape stored into a new variable. -/
theorem TapeAt.new {w : World} {B : Nat} {M : Med} {a : Option Addr} {k c : Nat} {cs : List CellV} (cp : Int) (hcp : M.cap = cp) (h : MedR w B M a k c cs) (hc : k ≤ c) : TapeAt ((w.alloc (.cells #[.int .i64 0, .slice none 0 0] 32)).setRow w.heap.size #[.int .i64 cp, .slice a k c]) w.heap.size M a k c cs ∧
    Below w.heap.size w ((w.alloc (.cells #[.int .i64 0, .slice none 0 0] 32)).setRow w.heap.size #[.int .i64 cp, .slice a k c]) := by
  subst hcp
  have hS := bsetRow (ext_alloc w (.cells #[.int .i64 0, .slice none 0 0] 32)) (Nat.le_refl _) #[.int .i64 M.cap, .slice a k c]
  exact ⟨⟨setRow_heap (w.alloc (.cells #[.int .i64 0, .slice none 0 0] 32)) w.heap.size _ _ _ _ (heap_alloc_new w _), h.mat.ext hS, h.len.symm, h.pls, hc⟩, hS⟩
theorem MedR.size {w : World} {B : Nat} {M : Med} {a : Option Addr} {k c : Nat} {cs : List CellV} (h : MedR w B M a k c cs) : M.cells.length = k := by rw [← h.pls, pls_length, h.len]

set_option maxRecDepth 100000 in
set_option maxHeartbeats 2000000 in
theorem none07_any (cap : Int) (a : Option Addr) (c n : Nat) (cs : List CellV) (r : Bool) (w : World) (hs : CMat w a cs) (hn : n = cs.length) (hn2 : n ≤ 9223372036854775807) (hr : r = true ↔ (cap = 0 ∧ pls cs = [])) :
    Calls Try.prog 57 #[.agg #[.int .i64 cap, .slice a n c]] w fun e w' => e = .returned (.bool r) ∧ Below w.heap.size w w' := by
  have Hs := Lib.hid hs
  have Hn := Lib.hid hn
  have Hr := Lib.hid hr
  have hb1 := ext_alloc w (.cells #[.int .i64 cap, .slice a n c] 32)
  clear hs hn hr
  go_enter Try.func57, Try.ntmps57
  go_wp2_with fail
  refine (keepmed_any cap 0 a none c n 0 0 cs [] r _ (Hs.out.ext hb1) (CMat.nil _ _) Hn.out rfl hn2 (by decide) Hr.out).mono ?_
  rintro e w2 ⟨rfl, hb2⟩
  go_wp2
  go_ret
  exact ⟨rfl, bthen hb1 hb2 (Nat.le_refl _)⟩
end Go.Proofs.Ytilmldkaagbofaa
