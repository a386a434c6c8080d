/- SpoilBytes of bytes of one's own, made between two worlds. -/
import Derived.Test.YtclkkhpnnbkfmaaSpoilM
namespace Go.Proofs.Ytclkkhpnnbkfmaa
open Go.RowKit

set_option maxHeartbeats 1000000 in
theorem spoilIn_nil (a : Option Addr) (c : Nat) (w : World) :
    Calls Try.prog 62 #[.slice a 0 c] w fun e w' => e = .returned (.tuple #[]) ∧ Below w.heap.size w w' := by
  go_enter Try.func62, Try.ntmps62
  go_wp2_with fail
  go_loopw [2] (fun i wr => i = .int .i64 0 ∧ Below w.heap.size w wr) (fun i _ => 0)
  case atStart => exact ⟨rfl, Below.refl _ _⟩
  case round =>
    rename_i wr
    obtain ⟨rfl, hb⟩ := hrel
    go_wp2
    go_end0
    exact ⟨rfl, hb⟩
/-- Bytes from B on, below N. -/
def BF (B N : Nat) : Nat → TypeId → Prop := fun b T => B ≤ b ∧ b < N ∧ T = 5
theorem spoil_in {B : Nat} {w2 w : World} {a : Option Addr} {c n : Nat} {l : List Byte} (ho2 : Own w2 B 5 1 a n c (bvs l)) (ho : Own w B 5 1 a n c (bvs l)) (hn : n = l.length) (hl : n ≤ 140737488355328) :
    Calls Try.prog 62 #[.slice a n c] w fun e w' => e = .returned (.tuple #[]) ∧ Mod (BF B w2.heap.size) w w' := by
  obtain ⟨hl2, ⟨rfl, rfl⟩ | ⟨g, cur, ha, hb, hh, _⟩⟩ := id ho2
  · exact (spoilIn_nil a 0 w).mono fun e w' ⟨he, hb⟩ => ⟨he, bmod hb _⟩
  · refine (spoil_mod B a c n l w ho hn hl).mono fun e w' ⟨he, hm, _⟩ => ⟨he, hm.mono fun b T _ hf => ?_⟩
    obtain ⟨h1, h2⟩ := hf
    rw [ha] at h1
    simp only [Option.some.injEq, Addr.mk.injEq, and_self, and_true] at h1
    subst h1
    exact ⟨hb, heap_lt hh, h2⟩
end Go.Proofs.Ytclkkhpnnbkfmaa
