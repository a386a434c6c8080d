/- A tape in a block; 'none'. -/
import Derived.Test.YtilmldkaagbofaaBoxM
import Derived.Test.YtilmldkaagbofaaKeepMed
import Derived.Test.YtilmldkaagbofaaMedEndsP
namespace Go.Proofs.Ytilmldkaagbofaa
open Go.RowKit

/-- In block g stands the tape M. -/
structure TapeAt (w : World) (g : Nat) (M : Med) (a : Option Addr) (k c : Nat) (cs : List CellV) : Prop where
  box : BoxM w g M.cap a k c
  mat : CMat w a cs
  len : k = cs.length
  pls : pls cs = M.cells
  cap : k ≤ c
theorem TapeAt.ext {w w' : World} {g : Nat} {M : Med} {a : Option Addr} {k c : Nat} {cs : List CellV} (h : TapeAt w g M a k c cs) (hb : Below w.heap.size w w') : TapeAt w' g M a k c cs := ⟨h.box.ext hb, h.mat.ext hb, h.len, h.pls, h.cap⟩
theorem TapeAt.of {w : World} {g : Nat} {M : Med} {a : Option Addr} {k c : Nat} {cs : List CellV} (h : TapeAt w g M a k c cs) : medOf M.cap cs = M := by unfold medOf; rw [h.pls]
theorem TapeAt.short {w : World} {g : Nat} {M : Med} {a : Option Addr} {k c : Nat} {cs : List CellV} (h : TapeAt w g M a k c cs) {K : Nat} (hK : ∀ c ∈ M.cells, c.data.length ≤ K) : ∀ x ∈ cs, x.d.l.length ≤ K := short_of h.pls hK
/-- A tape stored into a new variable. -/
theorem TapeAt.new {w : World} {B : Nat} {M : Med} {a : Option Addr} {k c : Nat} {cs : List CellV} (cp : Int) (hcp : M.cap = cp) (h : MedR w B M a k c cs) (hc : k ≤ c) : TapeAt ((w.alloc (.cells #[.int .i64 0, .slice none 0 0] 32)).setRow w.heap.size #[.int .i64 cp, .slice a k c]) w.heap.size M a k c cs ∧
    Below w.heap.size w ((w.alloc (.cells #[.int .i64 0, .slice none 0 0] 32)).setRow w.heap.size #[.int .i64 cp, .slice a k c]) := by
  subst hcp
  have hS := bsetRow (ext_alloc w (.cells #[.int .i64 0, .slice none 0 0] 32)) (Nat.le_refl _) #[.int .i64 M.cap, .slice a k c]
  exact ⟨⟨setRow_heap (w.alloc (.cells #[.int .i64 0, .slice none 0 0] 32)) w.heap.size _ _ _ _ (heap_alloc_new w _), h.mat.ext hS, h.len.symm, h.pls, hc⟩, hS⟩
theorem MedR.size {w : World} {B : Nat} {M : Med} {a : Option Addr} {k c : Nat} {cs : List CellV} (h : MedR w B M a k c cs) : M.cells.length = k := by rw [← h.pls, pls_length, h.len]

set_option maxRecDepth 100000 in
set_option maxHeartbeats 2000000 in
theorem none07_any (cap : Int) (a : Option Addr) (c n : Nat) (cs : List CellV) (r : Bool) (w : World) (hs : CMat w a cs) (hn : n = cs.length) (hn2 : n ≤ 9223372036854775807) (hr : r = true ↔ (cap = 0 ∧ pls cs = [])) :
    Calls Try.prog 57 #[.agg #[.int .i64 cap, .slice a n c]] w fun e w' => e = .returned (.bool r) ∧ Below w.heap.size w w' := by
  have Hs := Lib.hid hs
  have Hn := Lib.hid hn
  have Hr := Lib.hid hr
  have hb1 := ext_alloc w (.cells #[.int .i64 cap, .slice a n c] 32)
  clear hs hn hr
  go_enter Try.func57, Try.ntmps57
  go_wp2_with fail
  refine (keepmed_any cap 0 a none c n 0 0 cs [] r _ (Hs.out.ext hb1) (CMat.nil _ _) Hn.out rfl hn2 (by decide) Hr.out).mono ?_
  rintro e w2 ⟨rfl, hb2⟩
  go_wp2
  go_ret
  exact ⟨rfl, bthen hb1 hb2 (Nat.le_refl _)⟩
end Go.Proofs.Ytilmldkaagbofaa
