/- What is read ends behind it; records that lie in rows of the call's own. -/
import Derived.Test.YtclkkhpnnbkfmaaFrameRead
namespace Go.Proofs.Ytclkkhpnnbkfmaa
open Go.RowKit

set_option maxRecDepth 100000

theorem infoRec : (Try.prog.info? 54).map (fun i => (i.zero, i.size, i.bytes)) = some (some (.agg #[.int .i64 0, .int .i64 0, .slice none 0 0]), 3, 40) := by kernel_rfl

/-- What is read ends behind it. -/
theorem readF_ok {l : List Byte} {p : Nat} {r : Rec} {nx : Int} (h : readF l (p : Int) = (r, nx, 0)) : nx = ((p + 13 + r.d.length : Nat) : Int) ∧ p + 13 + r.d.length ≤ l.length ∧ r.d.length ≤ 8000 := by
  have e0 : ((p : Int)).toNat = p := by simp
  unfold readF at h
  rw [e0] at h
  split at h
  · simp only [Prod.mk.injEq] at h; omega
  · split at h
    · simp only [Prod.mk.injEq] at h; omega
    · split at h
      · simp only [Prod.mk.injEq] at h; omega
      · next h3 =>
        have hlen : ((l.drop (p + 13)).take (numOf ((l.drop (p + 5)).take 4))).length = numOf ((l.drop (p + 5)).take 4) := by simp; omega
        split at h
        · simp only [Prod.mk.injEq, and_true] at h
          obtain ⟨rfl, h2⟩ := h
          simp only [hlen]
          exact ⟨h2.symm, by omega, by omega⟩
        · simp only [Prod.mk.injEq] at h; omega

/-- Records that lie in rows of the call's own. -/
structure OwnRecs (w : World) (B : Nat) (a : Option Addr) (c : Nat) (vs : List RecV) : Prop where
  row : Own w B 54 3 a vs.length c (rvs vs)
  dat : ∀ v ∈ vs, Own w B 5 1 v.d.a v.d.l.length v.d.c (bvs v.d.l)
theorem OwnRecs.ext {w w' : World} {B : Nat} {a : Option Addr} {c : Nat} {vs : List RecV} (h : OwnRecs w B a c vs) (hb : Below w.heap.size w w') : OwnRecs w' B a c vs :=
  ⟨h.row.ext hb, fun v hv => (h.dat v hv).ext hb⟩
theorem OwnRecs.mat {w : World} {B : Nat} {a : Option Addr} {c : Nat} {vs : List RecV} (h : OwnRecs w B a c vs) : RMat w a vs :=
  ⟨h.row.src, fun v hv => ⟨(h.dat v hv).src, by have := (h.dat v hv).len; simp only [maxLen] at this; omega⟩⟩
theorem OwnRecs.mono {w : World} {B B' : Nat} {a : Option Addr} {c : Nat} {vs : List RecV} (h : OwnRecs w B a c vs) (hB : B' ≤ B) : OwnRecs w B' a c vs :=
  ⟨h.row.mono hB, fun v hv => (h.dat v hv).mono hB⟩
end Go.Proofs.Ytclkkhpnnbkfmaa
