/- The law BinSizes: the cases joined. -/
import Derived.Test.YtobgiapfehffcaaBinSizes
namespace Go.Proofs.Ytobgiapfehffcaa
open Go.RowKit

set_option maxRecDepth 100000 in
set_option maxHeartbeats 1000000 in
theorem binSizes_walk (w : World) (n : Int) (wn : (Lit.int .i64 n).wf = true) (size : Int) (ws : (Lit.int .i64 size).wf = true) (at_ : Int) (wa : (Lit.int .i64 at_).wf = true) (a0 : Option Addr) (c0 : Nat) (l : List Byte) (ha : Src w a0 (bvs l)) (hl : l.length ≤ 9223372036854775807) (k0 : l.length ≤ c0) :
    Calls Try.prog 9 #[.int .i64 n, .int .i64 size, .int .i64 at_, .slice a0 l.length c0] w fun e w' => e = .returned (.bool true) ∧ Below w.heap.size w w' := by
  by_cases h : l.length ≤ 2000
  · by_cases hs : 1 ≤ size ∧ size ≤ 7
    · obtain ⟨s, rfl⟩ := Int.eq_ofNat_of_zero_le (show 0 ≤ size by omega)
      have h1 : 1 ≤ s := by omega
      have h7 : s ≤ 7 := by omega
      by_cases hn : n < 0
      · exact binSizes_neg w n at_ s a0 c0 l ha h k0 h1 h7 hn
      · by_cases hb : n < ((256 ^ s : Nat) : Int)
        · by_cases h6 : s < 7
          · exact binSizes_fit w n at_ s a0 c0 l ha h k0 h1 h7 (by omega) hb h6
          · exact binSizes_fit7 w n at_ s a0 c0 l ha h k0 h1 h7 (by omega) hb (by omega)
        · by_cases h6 : s < 7
          · exact binSizes_big w n at_ s a0 c0 l ha h k0 h1 h7 (by omega) h6
          · exact binSizes_big7 w n at_ s a0 c0 l ha h k0 h1 h7 (by omega) (by omega)
    · exact binSizes_none w n size at_ a0 c0 l h hs
  · go_enter Try.func9, Try.ntmps9
    go_wp2
    go_ret
    exact ⟨rfl, Below.refl _ _⟩
end Go.Proofs.Ytobgiapfehffcaa
