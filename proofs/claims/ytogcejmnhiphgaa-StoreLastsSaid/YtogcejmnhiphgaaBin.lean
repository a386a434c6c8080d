/- bin.Put, Get: what they return. -/
import Derived.Test.YtogcejmnhiphgaaBinDef
import Derived.Test.YtogcejmnhiphgaaKeep
namespace Go.Proofs.Ytogcejmnhiphgaa
open Go.RowKit

set_option maxRecDepth 100000

theorem room_any (s : Nat) (S : Int) (w : World) (hS : S = (s : Int)) (h1 : 1 ≤ s) (h2 : s ≤ 7) :
    Calls Try.prog 84 #[.int .i64 S] w fun e w' => e = .returned (.int .i64 ((256 ^ s : Nat) : Int)) ∧ w = w' := by
  subst hS
  have h3 := pow256_le h2
  have e1 : (8 * (s : Int)).toNat = 8 * s := by omega
  go_enter Try.func84, Try.ntmps84
  go_wp2
  go_ret
  refine ⟨?_, rfl⟩
  have e2 : wrap64 (2 ^ (8 * s)) = ((256 ^ s : Nat) : Int) := by
    rw [← pow8]
    rw [← pow8] at h3
    have e3 : ((2 ^ (8 * s) : Nat) : Int) = (2 : Int) ^ (8 * s) := by simp
    rw [← e3]
    generalize (2 : Nat) ^ (8 * s) = v at *
    exact IntWalk.wrap64_in _ ⟨by omega, by omega⟩
  rw [← e2]
  rfl

/-- Put refuses. -/
theorem put_no (a : Option Addr) (L c : Nat) (n S : Int) (w : World) (h : ¬ (1 ≤ S ∧ S ≤ 7 ∧ 0 ≤ n ∧ n < 256 ^ S.toNat)) :
    Calls Try.prog 76 #[.slice a L c, .int .i64 n, .int .i64 S] w fun e w' => e = .returned (.tuple #[.slice none 0 0, .int .i64 1]) ∧ w = w' := by
  by_cases h1 : 1 ≤ S
  · by_cases h2 : S ≤ 7
    · obtain ⟨s, rfl⟩ := Int.eq_ofNat_of_zero_le (show 0 ≤ S by omega)
      by_cases h3 : 0 ≤ n
      · have h4 : ((256 ^ s : Nat) : Int) ≤ n := by
          simp only [h1, h2, h3, true_and, Int.toNat_natCast, Int.not_lt] at h
          simpa using h
        have h5 : ¬ n < ((256 ^ s : Nat) : Int) := by omega
        have Hr : Hid (∀ w, Calls Try.prog 84 #[.int .i64 (s : Int)] w fun e w' => e = .returned (.int .i64 ((256 ^ s : Nat) : Int)) ∧ w = w') := Lib.hid fun w => room_any s _ w rfl (by omega) (by omega)
        clear h
        generalize ((256 ^ s : Nat) : Int) = R at *
        go_enter Try.func76, Try.ntmps76
        go_wp2_with fail
        refine (Hr.out w).mono ?_
        rintro e w' ⟨rfl, rfl⟩
        go_wp2
        go_ret2
        exact ⟨rfl, rfl⟩
      · go_enter Try.func76, Try.ntmps76
        go_wp2_with fail
        go_ret2
        exact ⟨rfl, rfl⟩
    · go_enter Try.func76, Try.ntmps76
      go_wp2_with fail
      go_ret2
      exact ⟨rfl, rfl⟩
  · go_enter Try.func76, Try.ntmps76
    go_wp2_with fail
    go_ret2
    exact ⟨rfl, rfl⟩

set_option maxHeartbeats 1000000 in
/-- Put puts. -/
theorem put_ok (a : Option Addr) (c L : Nat) (l : List Byte) (n s : Nat) (N S : Int) (w : World) (hs : Src w a (bvs l)) (hL : L = l.length) (hN : N = (n : Int)) (hS : S = (s : Int)) (hl : L ≤ 140737488355000) (h1 : 1 ≤ s) (h2 : s ≤ 7) (h3 : n < 256 ^ s) :
    Calls Try.prog 76 #[.slice a L c, .int .i64 N, .int .i64 S] w fun e w' => ∃ a' c', e = .returned (.tuple #[.slice a' (L + s) c', .int .i64 0]) ∧ Own w' w.heap.size 5 1 a' (L + s) c' (bvs (l ++ be n s)) ∧ Below w.heap.size w w' := by
  subst hL; subst hN; subst hS
  obtain ⟨i0, hi, hz0, hz1, hz2⟩ := info_parts info8
  have h4 : ((n : Nat) : Int) < ((256 ^ s : Nat) : Int) := by omega
  have h5 := pow256_le h2
  have Hr : Hid (∀ w, Calls Try.prog 84 #[.int .i64 (s : Int)] w fun e w' => e = .returned (.int .i64 ((256 ^ s : Nat) : Int)) ∧ w = w') := Lib.hid fun w => room_any s _ w rfl (by omega) (by omega)
  have hn : n < 72057594037927936 := by omega
  clear h3 h5
  generalize ((256 ^ s : Nat) : Int) = R at *
  go_enter Try.func76, Try.ntmps76
  go_wp2_with fail
  refine (Hr.out w).mono ?_
  rintro e w' ⟨rfl, rfl⟩
  go_wp2_with fail
  refine (clone_any a c l w hs (by omega)).mono ?_
  rintro e w1 ⟨a1, c1, rfl, hown1, hb1⟩
  go_wp2_with fail
  clear h4 Hr
  go_loopw [8, 9] (fun v i wr => ∃ (j : Nat) (a' : Option Addr) (c' : Nat), j ≤ s ∧ i = .int .i64 ((s : Int) - 1 - (j : Int)) ∧ v = .slice a' (l.length + j) c' ∧ Own wr w.heap.size 5 1 a' (l.length + j) c' (bvs (l ++ (be n s).take j)) ∧ Below w.heap.size w wr) (fun _ i _ => (intOf i + 1).toNat)
  case atStart => exact ⟨0, a1, c1, by omega, by go_num, rfl, by simpa using hown1, hb1⟩
  case round =>
    rename_i wr
    obtain ⟨j, a', c', hj, rfl, rfl, hown, hb⟩ := hrel
    by_cases hlt : j < s
    · obtain ⟨q, hq⟩ : ∃ q, q = s - 1 - j := ⟨_, rfl⟩
      have eq1 : (s : Int) - 1 - (j : Int) = (q : Int) := by omega
      have Hq := Lib.hid hq
      have Htk := Lib.hid (be_take_succ n s j hlt)
      have hq6 : q ≤ 6 := by omega
      have et : (8 * (q : Int)).toNat = 8 * q := by omega
      have hv : Value.int IntKind.u8 ((n : Int) / 2 ^ (8 * q) % 256) = u8v (BitVec.ofNat 8 (n / 256 ^ q)) := by
        simp only [u8v, BitVec.toNat_ofNat, Value.int.injEq, true_and]
        rw [← pow8]
        have e3 : ((2 ^ (8 * q) : Nat) : Int) = (2 : Int) ^ (8 * q) := by simp
        rw [← e3]
        generalize (2 : Nat) ^ (8 * q) = v
        omega
      have Hv := Lib.hid hv
      clear hv hq
      rw [eq1]
      have hsz := hb.size
      go_wp2_with (refine wpList_app rfl (.tmp 34) (.tmp 40) 34 rfl w.heap.size 5 i0 (.int .u8 0) 1 1 Try.underlying34 hi hz0 hz1 hz2 rfl (by decide) a' (l.length + j) c' (bvs (l ++ (be n s).take j)) rfl (hown.ext (ext_alloc wr _)) (some ⟨wr.heap.size, 0, none⟩) 1 1 [.int .u8 ((n : Int) / 2 ^ (8 * q) % 256)] rfl rfl (src_new wr _ _) (by simp [Value.oneCell']) (by unfold maxLen; omega) (by omega) (by rw [World.size_alloc]; omega) ?_; intro a2 c2 w2 hown2 hb2)
      go_roundw
      case rel =>
        refine ⟨j + 1, a2, c2, by omega, ?_, rfl, ?_, (hb.alloc hb.size _).trans hb2⟩
        · have := Hq.out
          congr 1
          omega
        · rw [Hv.out] at hown2
          rw [Htk.out, ← Hq.out, ← List.append_assoc, bvs_append _ [_]]
          exact hown2
      case measure => simp [intOf] <;> omega
    · obtain rfl : j = s := by omega
      go_wp2
      go_ret2
      exact ⟨a', c', rfl, by rw [List.take_of_length_le (by rw [be_length]; omega)] at hown; exact hown, hb⟩
/-- Get refuses: an argument. -/
theorem get_arg (a : Option Addr) (L c : Nat) (A S : Int) (w : World) (hL : L ≤ 9223372036854775807) (h : ¬ (1 ≤ S ∧ S ≤ 7 ∧ 0 ≤ A ∧ A ≤ (L : Int))) :
    Calls Try.prog 50 #[.slice a L c, .int .i64 A, .int .i64 S] w fun e w' => e = .returned (.tuple #[.int .i64 0, .int .i64 0, .int .i64 1]) ∧ w = w' := by
  by_cases h1 : 1 ≤ S
  · by_cases h2 : S ≤ 7
    · by_cases h3 : 0 ≤ A
      · have h4 : (L : Int) < A := by omega
        clear h
        go_enter Try.func50, Try.ntmps50
        go_wp2
        go_ret3
        exact ⟨rfl, rfl⟩
      · go_enter Try.func50, Try.ntmps50
        go_wp2
        go_ret3
        exact ⟨rfl, rfl⟩
    · go_enter Try.func50, Try.ntmps50
      go_wp2
      go_ret3
      exact ⟨rfl, rfl⟩
  · go_enter Try.func50, Try.ntmps50
    go_wp2
    go_ret3
    exact ⟨rfl, rfl⟩

/-- Get refuses: too few bytes. -/
theorem get_few (a : Option Addr) (L c : Nat) (A S : Int) (w : World) (hL : L ≤ 9223372036854775807) (h1 : 1 ≤ S) (h2 : S ≤ 7) (h3 : 0 ≤ A) (h4 : A ≤ (L : Int)) (h5 : (L : Int) - A < S) :
    Calls Try.prog 50 #[.slice a L c, .int .i64 A, .int .i64 S] w fun e w' => e = .returned (.tuple #[.int .i64 0, .int .i64 0, .int .i64 3]) ∧ w = w' := by
  go_enter Try.func50, Try.ntmps50
  go_wp2
  go_ret3
  exact ⟨rfl, rfl⟩

theorem wraps_i64_63 (n : Int) (h₀ : 0 ≤ n) (h₁ : n < 2 ^ 63) : IntKind.i64.wrap n = n := by rw [IntKind.wrap_i64]; omega
theorem or_byte (v : Nat) (x : Byte) (h : v < 281474976710656) : bits .or .i64 ((v : Int) * 256) (x.toNat : Int) = ((v * 256 + x.toNat : Nat) : Int) := by
  have hx := x.isLt
  rw [bits_join .i64 63 (by decide) wraps_i64_63 8 _ _ (by omega) (by omega) (by omega) (by omega) (by omega) (by omega)]
  omega

set_option maxHeartbeats 1000000 in
/-- Get gets. -/
theorem get_ok (a : Option Addr) (c L : Nat) (l : List Byte) (p s : Nat) (A S : Int) (w : World) (hs : Src w a (bvs l)) (hL : L = l.length) (hA : A = (p : Int)) (hS : S = (s : Int)) (hl : L ≤ 4611686018427387904) (hc : L ≤ c) (h1 : 1 ≤ s) (h2 : s ≤ 7) (h3 : p + s ≤ L) :
    Calls Try.prog 50 #[.slice a L c, .int .i64 A, .int .i64 S] w fun e w' => e = .returned (.tuple #[.int .i64 ((numOf ((l.drop p).take s) : Nat) : Int), .int .i64 ((p + s : Nat) : Int), .int .i64 0]) ∧ w = w' := by
  subst hL; subst hA; subst hS
  have hne : 0 < l.length := by omega
  obtain ⟨b, o, rfl, hlb, hat⟩ := src_bytes_at hs hne
  go_enter Try.func50, Try.ntmps50
  go_wp2_with fail
  rw [show p + s - p = s by omega]
  have hdl : ((l.drop p).take s).length = s := by simp; omega
  go_loop [6, 42] (fun v i => ∃ j : Nat, j ≤ s ∧ i = .int .i64 (j : Int) ∧ v = .int .i64 ((numOf ((l.drop p).take j) : Nat) : Int)) (fun _ i => s - (intOf i).toNat)
  case atStart => exact ⟨0, by omega, rfl, rfl⟩
  case round =>
    obtain ⟨j, hj, rfl, rfl⟩ := hrel
    by_cases hlt : j < s
    · have hc1 := hat (p + j) (by omega)
      rw [← Nat.add_assoc] at hc1
      have Htk : Hid (numOf ((l.drop p).take (j + 1)) = numOf ((l.drop p).take j) * 256 + (l[p + j]'(by omega)).toNat) := Lib.hid (by
        rw [numOf_take_succ _ j (by simp; omega)]; simp)
      have hv : numOf ((l.drop p).take j) < 281474976710656 := by
        have h8 := numOf_lt ((l.drop p).take j)
        have h9 : ((l.drop p).take j).length = j := by simp; omega
        rw [h9] at h8
        have h10 := Nat.pow_le_pow_right (n := 256) (by omega) (show j ≤ 6 by omega)
        have : (256 : Nat) ^ 6 = 281474976710656 := by decide
        omega
      generalize l[p + j]'(by omega) = x at hc1 Htk
      generalize numOf ((l.drop p).take j) = v at *
      have hor := or_byte v x hv
      have Hor := Lib.hid hor
      clear hor
      clear hat hs
      go_wp2
      go_round
      case rel => exact ⟨j + 1, by omega, by go_num, by rw [Hor.out, Htk.out]⟩
      case measure => simp [intOf] <;> omega
    · obtain rfl : j = s := by omega
      go_wp2
      go_ret3
      exact ⟨rfl, rfl⟩
end Go.Proofs.Ytogcejmnhiphgaa
