/- Tapes that are cut, plain. -/
import Derived.Test.YtilmldkaagbofaaBoxM
import Derived.Test.YtilmldkaagbofaaMedPos
import Derived.Test.YtilmldkaagbofaaMedLaw
namespace Go.Proofs.Ytilmldkaagbofaa
open Go.RowKit

theorem Med.ok_take {m : Med} (h : m.ok = true) (p : Nat) : (Med.mk m.cap (m.cells.take p)).ok = true := by
  rw [Med.ok_iff] at h ⊢
  obtain ⟨⟨h1, h2, h3⟩, h4⟩ := h
  refine ⟨⟨h1, h2, ?_⟩, fun c hc => h4 c (List.mem_of_mem_take hc)⟩
  have : (m.cells.take p).length ≤ m.cells.length := by rw [List.length_take]; omega
  show ((m.cells.take p).length : Int) ≤ m.cap
  omega
theorem Med.end_ok {m : Med} (h : m.ok = true) {p : Nat} (hp : p ≤ m.cells.length) : m.end_ (p : Int) = (⟨m.cap, m.cells.take p⟩, 0) := by
  unfold Med.end_
  rw [if_neg (by rw [h]; simp; omega), Int.toNat_natCast]
theorem Med.read_past {m : Med} (h : m.ok = true) : m.read (m.cells.length : Int) = ([], 8) := by
  unfold Med.read Med.look
  rw [if_neg (by rw [h]; decide), if_pos (.inr (Int.le_refl _))]
theorem Med.files_ok {m : Med} (h : m.ok = true) : m.files = (marks m.cells : Int) := by
  unfold Med.files
  rw [if_neg (by rw [h]; decide)]
/-- What the law says of the cut tapes. -/
structure EndsP (m : Med) (p q : Nat) : Prop where
  e1 : m.end_ (p : Int) = (⟨m.cap, m.cells.take p⟩, 0)
  e2 : (Med.mk m.cap (m.cells.take p)).end_ (q : Int) = (⟨m.cap, m.cells.take q⟩, 0)
  e3 : m.end_ (q : Int) = (⟨m.cap, m.cells.take q⟩, 0)
  rd : (Med.mk m.cap (m.cells.take p)).read (p : Int) = ([], 8)
  fa : (Med.mk m.cap (m.cells.take p)).files = (marks (m.cells.take p) : Int)
  fm : m.files = (marks m.cells : Int)
  le : marks (m.cells.take p) ≤ marks m.cells
theorem endsP {m : Med} (h : m.ok = true) {p q : Nat} (hp : p ≤ m.cells.length) (hq : q ≤ p) : EndsP m p q := by
  have hk := Med.ok_take h p
  have hl : (m.cells.take p).length = p := by rw [List.length_take]; omega
  refine ⟨Med.end_ok h hp, ?_, Med.end_ok h (by omega), ?_, Med.files_ok hk, Med.files_ok h, ?_⟩
  · rw [Med.end_ok hk (by show q ≤ (m.cells.take p).length; omega)]
    show (Med.mk m.cap ((m.cells.take p).take q), (0 : Int)) = _
    rw [List.take_take, Nat.min_eq_left hq]
  · have := Med.read_past hk
    rwa [show (Med.mk m.cap (m.cells.take p)).cells.length = p from hl] at this
  · have := marks_mono m.cells hp
    rwa [List.take_length] at this
end Go.Proofs.Ytilmldkaagbofaa
