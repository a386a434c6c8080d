/- The page's be of layer 1. -/
import Derived.Test.YtogcejmnhiphgaaBin
namespace Go.Proofs.Ytogcejmnhiphgaa
open Go.RowKit

set_option maxRecDepth 100000

set_option maxHeartbeats 1000000 in
theorem be01_at (n s : Nat) (N S : Int) (w : World) (hN : N = (n : Int)) (hS : S = (s : Int)) (h2 : s ≤ 7) (hn : n < 72057594037927936) :
    Calls Try.prog 81 #[.int .i64 N, .int .i64 S] w fun e w' => ∃ a' c', e = .returned (.slice a' s c') ∧ Own w' w.heap.size 5 1 a' s c' (bvs (be n s)) ∧ Below w.heap.size w w' := by
  subst hN; subst hS
  obtain ⟨i0, hi, hz0, hz1, hz2⟩ := info_parts info8
  go_enter Try.func81, Try.ntmps81
  go_wp2_with fail
  go_loopw [5, 6] (fun v i wr => ∃ (j : Nat) (a' : Option Addr) (c' : Nat), j ≤ s ∧ i = .int .i64 ((s : Int) - 1 - (j : Int)) ∧ v = .slice a' j c' ∧ Own wr w.heap.size 5 1 a' j c' (bvs ((be n s).take j)) ∧ Below w.heap.size w wr) (fun _ i _ => (intOf i + 1).toNat)
  case atStart => exact ⟨0, none, 0, by omega, by go_num, rfl, Own.nil _ _ _ _ _, Below.refl _ _⟩
  case round =>
    rename_i wr
    obtain ⟨j, a', c', hj, rfl, rfl, hown, hb⟩ := hrel
    by_cases hlt : j < s
    · obtain ⟨q, hq⟩ : ∃ q, q = s - 1 - j := ⟨_, rfl⟩
      have eq1 : (s : Int) - 1 - (j : Int) = (q : Int) := by omega
      have Hq := Lib.hid hq
      have Htk := Lib.hid (be_take_succ n s j hlt)
      have hq6 : q ≤ 6 := by omega
      have et : (8 * (q : Int)).toNat = 8 * q := by omega
      have hv : Value.int IntKind.u8 ((n : Int) / 2 ^ (8 * q) % 256) = u8v (BitVec.ofNat 8 (n / 256 ^ q)) := by
        simp only [u8v, BitVec.toNat_ofNat, Value.int.injEq, true_and]
        rw [← pow8]
        have e3 : ((2 ^ (8 * q) : Nat) : Int) = (2 : Int) ^ (8 * q) := by simp
        rw [← e3]
        generalize (2 : Nat) ^ (8 * q) = v
        omega
      have Hv := Lib.hid hv
      clear hv hq
      rw [eq1]
      have hsz := hb.size
      go_wp2_with (refine wpList_app rfl (.tmp 13) (.tmp 20) 34 rfl w.heap.size 5 i0 (.int .u8 0) 1 1 Try.underlying34 hi hz0 hz1 hz2 rfl (by decide) a' j c' (bvs ((be n s).take j)) rfl (hown.ext (ext_alloc wr _)) (some ⟨wr.heap.size, 0, none⟩) 1 1 [.int .u8 ((n : Int) / 2 ^ (8 * q) % 256)] rfl rfl (src_new wr _ _) (by simp [Value.oneCell']) (by unfold maxLen; omega) (by omega) (by rw [World.size_alloc]; omega) ?_; intro a2 c2 w2 hown2 hb2)
      go_roundw
      case rel =>
        refine ⟨j + 1, a2, c2, by omega, ?_, rfl, ?_, (hb.alloc hb.size _).trans hb2⟩
        · have := Hq.out
          congr 1
          omega
        · rw [Hv.out] at hown2
          rw [Htk.out, ← Hq.out, bvs_append _ [_]]
          exact hown2
      case measure => simp [intOf] <;> omega
    · obtain rfl : j = s := by omega
      go_wp2
      go_ret
      exact ⟨a', c', rfl, by rw [List.take_of_length_le (by rw [be_length]; omega)] at hown; exact hown, hb⟩
end Go.Proofs.Ytogcejmnhiphgaa
