/- Lists of lists of booleans. -/
import Derived.Test.YthhgngknmjocpaaInts
namespace Go.Proofs.Ythhgngknmjocpaa
open Go.RowKit

structure Bbl where
  a : Option Addr
  c : Nat
  l : List Bool
def Bbl.val (p : Bbl) : Value := .slice p.a p.l.length p.c
def Bbl.ok (w : World) (p : Bbl) : Prop := Src w p.a (bovs p.l) ∧ p.l.length ≤ 9223372036854775807
theorem Bbl.ok.ext {w w' : World} {p : Bbl} (h : p.ok w) (hb : Below w.heap.size w w') : p.ok w' := ⟨h.1.ext hb, h.2⟩
/-- The slice reads the rows ps. -/
structure BMat (w : World) (a : Option Addr) (ps : List Bbl) : Prop where
  src : Src w a (ps.map Bbl.val)
  row : ∀ p ∈ ps, p.ok w
theorem BMat.ext {w w' : World} {a : Option Addr} {ps : List Bbl} (h : BMat w a ps) (hb : Below w.heap.size w w') : BMat w' a ps :=
  ⟨h.src.ext hb, fun p hp => (h.row p hp).ext hb⟩
theorem BMat.at {w : World} {a : Option Addr} {ps : List Bbl} (h : BMat w a ps) {i : Nat} (hi : i < ps.length) :
    ∃ b o, a = some ⟨b, o, none⟩ ∧ b < w.heap.size ∧ ∀ j (hj : j < ps.length), w.cell? ⟨b, o + j, none⟩ = some (.slice ps[j].a ps[j].l.length ps[j].c) := by
  obtain ⟨b, o, ha, hlt, hat⟩ := h.src.at (i := i) (by simpa using hi)
  refine ⟨b, o, ha, hlt, fun j hj => ?_⟩
  rw [hat j (by simpa using hj)]
  simp [Bbl.val]
end Go.Proofs.Ythhgngknmjocpaa
