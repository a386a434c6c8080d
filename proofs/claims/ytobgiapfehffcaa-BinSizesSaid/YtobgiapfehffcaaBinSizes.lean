/- The law BinSizes, walked. -/
import Derived.Test.YtobgiapfehffcaaBinWakes
import Derived.Test.YtobgiapfehffcaaBinPlain
namespace Go.Proofs.Ytobgiapfehffcaa
open Go.RowKit

set_option maxRecDepth 100000 in
set_option maxHeartbeats 2000000 in
/-- The size is none. -/
theorem binSizes_none (w : World) (n size at_ : Int) (a0 : Option Addr) (c0 : Nat) (l : List Byte) (hl : l.length ≤ 2000) (hs : ¬ (1 ≤ size ∧ size ≤ 7)) :
    Calls Try.prog 9 #[.int .i64 n, .int .i64 size, .int .i64 at_, .slice a0 l.length c0] w fun e w' => e = .returned (.bool true) ∧ Below w.heap.size w w' := by
  have HP : Hid (∀ w, Calls Try.prog 25 #[.slice a0 l.length c0, .int .i64 n, .int .i64 size] w fun e w' => e = .returned (.tuple #[.slice none 0 0, .int .i64 1]) ∧ w = w') :=
    Lib.hid fun w => put_no a0 _ c0 _ _ w (fun h => hs ⟨h.1, h.2.1⟩)
  have HG : Hid (∀ w, Calls Try.prog 27 #[.slice a0 l.length c0, .int .i64 at_, .int .i64 size] w fun e w' => e = .returned (.tuple #[.int .i64 0, .int .i64 0, .int .i64 1]) ∧ w = w') :=
    Lib.hid fun w => get_arg a0 _ c0 _ _ w (by omega) (fun h => hs ⟨h.1, h.2.1⟩)
  rcases (show size < 1 ∨ 7 < size by omega) with h | h
  all_goals
    clear hs
    go_enter Try.func9, Try.ntmps9
    go_wp2_with fail
    refine (HP.out _).mono ?_
    rintro e w1 ⟨rfl, rfl⟩
    go_wp2_with fail
    refine (HG.out _).mono ?_
    rintro e w1 ⟨rfl, rfl⟩
    go_wp2_with fail
    refine (wakes01_any _).mono ?_
    rintro e w5 ⟨rfl, hb5⟩
    go_wp2
    go_ret
    exact ⟨rfl, hb5⟩

set_option maxRecDepth 100000 in
set_option maxHeartbeats 2000000 in
theorem binSizes_neg (w : World) (n at_ : Int) (s : Nat) (a0 : Option Addr) (c0 : Nat) (l : List Byte) (ha : Src w a0 (bvs l)) (hl : l.length ≤ 2000) (k0 : l.length ≤ c0) (h1 : 1 ≤ s) (h7 : s ≤ 7) (hn : n < 0) :
    Calls Try.prog 9 #[.int .i64 n, .int .i64 (s : Int), .int .i64 at_, .slice a0 l.length c0] w fun e w' => e = .returned (.bool true) ∧ Below w.heap.size w w' := by
  have HP0 : Hid (∀ w, Calls Try.prog 25 #[.slice a0 l.length c0, .int .i64 n, .int .i64 (s : Int)] w fun e w' => e = .returned (.tuple #[.slice none 0 0, .int .i64 1]) ∧ w = w') :=
    Lib.hid fun w => put_no a0 _ c0 _ _ w (fun h => by omega)
  go_enter Try.func9, Try.ntmps9
  go_wp2_with fail
  refine (HP0.out _).mono ?_
  rintro e w1 ⟨rfl, rfl⟩
  clear HP0
  go_wp2_with fail
  rcases (show at_ < 0 ∨ (l.length : Int) < at_ ∨ (0 ≤ at_ ∧ at_ ≤ (l.length : Int) ∧ (l.length : Int) - at_ < (s : Int)) ∨ (0 ≤ at_ ∧ at_ + (s : Int) ≤ (l.length : Int)) by omega) with g1 | g1 | ⟨g1, g2, g3⟩ | ⟨g1, g2⟩
  · refine (get_arg a0 _ c0 at_ _ w (by omega) (by omega)).mono ?_
    rintro e w5 ⟨rfl, rfl⟩
    go_wp2_with fail
    refine (wakes01_any _).mono ?_
    rintro e w6 ⟨rfl, hb6⟩
    go_wp2
    go_ret
    exact ⟨rfl, bthen (Below.refl _ _) hb6 (Nat.le_refl _)⟩
  · refine (get_arg a0 _ c0 at_ _ w (by omega) (by omega)).mono ?_
    rintro e w5 ⟨rfl, rfl⟩
    go_wp2_with fail
    refine (wakes01_any _).mono ?_
    rintro e w6 ⟨rfl, hb6⟩
    go_wp2
    go_ret
    exact ⟨rfl, bthen (Below.refl _ _) hb6 (Nat.le_refl _)⟩
  · refine (get_few a0 _ c0 at_ _ w (by omega) (by omega) (by omega) g1 g2 g3).mono ?_
    rintro e w5 ⟨rfl, rfl⟩
    go_wp2_with fail
    refine (wakes01_any _).mono ?_
    rintro e w6 ⟨rfl, hb6⟩
    go_wp2
    go_ret
    exact ⟨rfl, bthen (Below.refl _ _) hb6 (Nat.le_refl _)⟩
  · obtain ⟨p, rfl⟩ := Int.eq_ofNat_of_zero_le g1
    refine (get_ok a0 c0 _ l p s _ _ w (ha.ext ((Below.refl _ _))) rfl rfl rfl (by omega) (by omega) (by omega) (by omega) (by omega)).mono ?_
    rintro e w5 ⟨rfl, rfl⟩
    have hlen : ((l.drop p).take s).length = s := by simp; omega
    have hnl := numOf_lt ((l.drop p).take s)
    have hbe := be_numOf ((l.drop p).take s)
    rw [hlen] at hnl hbe
    have hsub : Src w (if c0 = p then a0 else a0.map fun x => x.add p) (bvs ((l.drop p).take s)) := by
      rw [bvs_take, bvs_drop]; exact (src_drop (ha.ext ((Below.refl _ _))) c0 p (by rw [bvs_length]; omega)).take _
    rw [if_neg (by omega)] at hsub
    have HP : Hid (∀ w, Calls Try.prog 25 #[.slice none 0 0, .int .i64 ((numOf ((l.drop p).take s) : Nat) : Int), .int .i64 (s : Int)] w fun e w' => ∃ a' c', e = .returned (.tuple #[.slice a' s c', .int .i64 0]) ∧ Own w' w.heap.size 5 1 a' s c' (bvs ((l.drop p).take s)) ∧ Below w.heap.size w w') := by
      refine Lib.hid fun w => ?_
      have := put_ok none 0 0 [] (numOf ((l.drop p).take s)) s _ _ w (Src.nil _ _) rfl rfl rfl (by omega) (by omega) (by omega) hnl
      rw [hbe] at this; simpa using this
    have hdec : ((p : Int) + (s : Int)).toNat = p + s := by omega
    have Hlen := Lib.hid hlen
    clear hnl hbe hlen hdec
    generalize numOf ((l.drop p).take s) = K at *
    generalize (l.drop p).take s = m at *
    go_wp2_with fail
    refine (HP.out _).mono ?_
    rintro e w6 ⟨a6, c6, rfl, ho6, hb6⟩
    have hs6 := ho6.src
    have ht6 := hsub.ext hb6
    clear HP ho6 hsub
    go_wp2_with fail
    rw [show p + s - p = s by omega]
    refine (bytes_at a6 c6 m _ _ m w6 s s true hs6 ht6 Hlen.out.symm Hlen.out.symm (by omega) (by omega) (by simp)).mono ?_
    rintro e w7 ⟨rfl, nn, rfl⟩
    go_wp2_with fail
    refine (wakes01_any _).mono ?_
    rintro e w8 ⟨rfl, hb8⟩
    go_wp2
    go_ret
    exact ⟨rfl, bthen (below_drewN (bthen (Below.refl _ _) hb6 (Nat.le_refl _)) nn) hb8 (Nat.le_refl _)⟩

set_option maxRecDepth 100000 in
set_option maxHeartbeats 2000000 in
theorem binSizes_big7 (w : World) (n at_ : Int) (s : Nat) (a0 : Option Addr) (c0 : Nat) (l : List Byte) (ha : Src w a0 (bvs l)) (hl : l.length ≤ 2000) (k0 : l.length ≤ c0) (h1 : 1 ≤ s) (h7 : s ≤ 7) (hn : ((256 ^ s : Nat) : Int) ≤ n) (hs : 7 ≤ s) :
    Calls Try.prog 9 #[.int .i64 n, .int .i64 (s : Int), .int .i64 at_, .slice a0 l.length c0] w fun e w' => e = .returned (.bool true) ∧ Below w.heap.size w w' := by
  have HP0 : Hid (∀ w, Calls Try.prog 25 #[.slice a0 l.length c0, .int .i64 n, .int .i64 (s : Int)] w fun e w' => e = .returned (.tuple #[.slice none 0 0, .int .i64 1]) ∧ w = w') :=
    Lib.hid fun w => put_no a0 _ c0 _ _ w (fun h => by have := h.2.2.2; rw [Int.toNat_natCast, show (256 : Int) ^ s = ((256 ^ s : Nat) : Int) by simp] at this; omega)
  have e7 : s = 7 := by omega
  have hR : (256 : Nat) ^ s = 72057594037927936 := by rw [e7]
  rw [hR] at hn
  have t7 : (((s : Nat) : Int) == 7) = true := by simp; omega
  clear hR e7
  go_enter Try.func9, Try.ntmps9
  go_wp2_with fail
  refine (HP0.out _).mono ?_
  rintro e w1 ⟨rfl, rfl⟩
  clear HP0
  go_wp2_with fail
  rcases (show at_ < 0 ∨ (l.length : Int) < at_ ∨ (0 ≤ at_ ∧ at_ ≤ (l.length : Int) ∧ (l.length : Int) - at_ < (s : Int)) ∨ (0 ≤ at_ ∧ at_ + (s : Int) ≤ (l.length : Int)) by omega) with g1 | g1 | ⟨g1, g2, g3⟩ | ⟨g1, g2⟩
  · refine (get_arg a0 _ c0 at_ _ w (by omega) (by omega)).mono ?_
    rintro e w5 ⟨rfl, rfl⟩
    go_wp2_with fail
    refine (wakes01_any _).mono ?_
    rintro e w6 ⟨rfl, hb6⟩
    go_wp2
    go_ret
    exact ⟨rfl, bthen (Below.refl _ _) hb6 (Nat.le_refl _)⟩
  · refine (get_arg a0 _ c0 at_ _ w (by omega) (by omega)).mono ?_
    rintro e w5 ⟨rfl, rfl⟩
    go_wp2_with fail
    refine (wakes01_any _).mono ?_
    rintro e w6 ⟨rfl, hb6⟩
    go_wp2
    go_ret
    exact ⟨rfl, bthen (Below.refl _ _) hb6 (Nat.le_refl _)⟩
  · refine (get_few a0 _ c0 at_ _ w (by omega) (by omega) (by omega) g1 g2 g3).mono ?_
    rintro e w5 ⟨rfl, rfl⟩
    go_wp2_with fail
    refine (wakes01_any _).mono ?_
    rintro e w6 ⟨rfl, hb6⟩
    go_wp2
    go_ret
    exact ⟨rfl, bthen (Below.refl _ _) hb6 (Nat.le_refl _)⟩
  · obtain ⟨p, rfl⟩ := Int.eq_ofNat_of_zero_le g1
    refine (get_ok a0 c0 _ l p s _ _ w (ha.ext ((Below.refl _ _))) rfl rfl rfl (by omega) (by omega) (by omega) (by omega) (by omega)).mono ?_
    rintro e w5 ⟨rfl, rfl⟩
    have hlen : ((l.drop p).take s).length = s := by simp; omega
    have hnl := numOf_lt ((l.drop p).take s)
    have hbe := be_numOf ((l.drop p).take s)
    rw [hlen] at hnl hbe
    have hsub : Src w (if c0 = p then a0 else a0.map fun x => x.add p) (bvs ((l.drop p).take s)) := by
      rw [bvs_take, bvs_drop]; exact (src_drop (ha.ext ((Below.refl _ _))) c0 p (by rw [bvs_length]; omega)).take _
    rw [if_neg (by omega)] at hsub
    have HP : Hid (∀ w, Calls Try.prog 25 #[.slice none 0 0, .int .i64 ((numOf ((l.drop p).take s) : Nat) : Int), .int .i64 (s : Int)] w fun e w' => ∃ a' c', e = .returned (.tuple #[.slice a' s c', .int .i64 0]) ∧ Own w' w.heap.size 5 1 a' s c' (bvs ((l.drop p).take s)) ∧ Below w.heap.size w w') := by
      refine Lib.hid fun w => ?_
      have := put_ok none 0 0 [] (numOf ((l.drop p).take s)) s _ _ w (Src.nil _ _) rfl rfl rfl (by omega) (by omega) (by omega) hnl
      rw [hbe] at this; simpa using this
    have hdec : ((p : Int) + (s : Int)).toNat = p + s := by omega
    have Hlen := Lib.hid hlen
    clear hnl hbe hlen hdec
    generalize numOf ((l.drop p).take s) = K at *
    generalize (l.drop p).take s = m at *
    go_wp2_with fail
    refine (HP.out _).mono ?_
    rintro e w6 ⟨a6, c6, rfl, ho6, hb6⟩
    have hs6 := ho6.src
    have ht6 := hsub.ext hb6
    clear HP ho6 hsub
    go_wp2_with fail
    rw [show p + s - p = s by omega]
    refine (bytes_at a6 c6 m _ _ m w6 s s true hs6 ht6 Hlen.out.symm Hlen.out.symm (by omega) (by omega) (by simp)).mono ?_
    rintro e w7 ⟨rfl, nn, rfl⟩
    go_wp2_with fail
    refine (wakes01_any _).mono ?_
    rintro e w8 ⟨rfl, hb8⟩
    go_wp2
    go_ret
    exact ⟨rfl, bthen (below_drewN (bthen (Below.refl _ _) hb6 (Nat.le_refl _)) nn) hb8 (Nat.le_refl _)⟩

set_option maxRecDepth 100000 in
set_option maxHeartbeats 2000000 in
theorem binSizes_big (w : World) (n at_ : Int) (s : Nat) (a0 : Option Addr) (c0 : Nat) (l : List Byte) (ha : Src w a0 (bvs l)) (hl : l.length ≤ 2000) (k0 : l.length ≤ c0) (h1 : 1 ≤ s) (h7 : s ≤ 7) (hn : ((256 ^ s : Nat) : Int) ≤ n) (hs : s < 7) :
    Calls Try.prog 9 #[.int .i64 n, .int .i64 (s : Int), .int .i64 at_, .slice a0 l.length c0] w fun e w' => e = .returned (.bool true) ∧ Below w.heap.size w w' := by
  have HP0 : Hid (∀ w, Calls Try.prog 25 #[.slice a0 l.length c0, .int .i64 n, .int .i64 (s : Int)] w fun e w' => e = .returned (.tuple #[.slice none 0 0, .int .i64 1]) ∧ w = w') :=
    Lib.hid fun w => put_no a0 _ c0 _ _ w (fun h => by have := h.2.2.2; rw [Int.toNat_natCast, show (256 : Int) ^ s = ((256 ^ s : Nat) : Int) by simp] at this; omega)
  have hp : 0 < 256 ^ s := Nat.pow_pos (by omega)
  have ew := wrap_pow s h7
  generalize 256 ^ s = R at *

  go_enter Try.func9, Try.ntmps9
  go_wp2_with fail
  refine (HP0.out _).mono ?_
  rintro e w1 ⟨rfl, rfl⟩
  clear HP0
  go_wp2_with fail
  rcases (show at_ < 0 ∨ (l.length : Int) < at_ ∨ (0 ≤ at_ ∧ at_ ≤ (l.length : Int) ∧ (l.length : Int) - at_ < (s : Int)) ∨ (0 ≤ at_ ∧ at_ + (s : Int) ≤ (l.length : Int)) by omega) with g1 | g1 | ⟨g1, g2, g3⟩ | ⟨g1, g2⟩
  · refine (get_arg a0 _ c0 at_ _ w (by omega) (by omega)).mono ?_
    rintro e w5 ⟨rfl, rfl⟩
    go_wp2_with fail
    refine (wakes01_any _).mono ?_
    rintro e w6 ⟨rfl, hb6⟩
    go_wp2
    go_ret
    exact ⟨rfl, bthen (Below.refl _ _) hb6 (Nat.le_refl _)⟩
  · refine (get_arg a0 _ c0 at_ _ w (by omega) (by omega)).mono ?_
    rintro e w5 ⟨rfl, rfl⟩
    go_wp2_with fail
    refine (wakes01_any _).mono ?_
    rintro e w6 ⟨rfl, hb6⟩
    go_wp2
    go_ret
    exact ⟨rfl, bthen (Below.refl _ _) hb6 (Nat.le_refl _)⟩
  · refine (get_few a0 _ c0 at_ _ w (by omega) (by omega) (by omega) g1 g2 g3).mono ?_
    rintro e w5 ⟨rfl, rfl⟩
    go_wp2_with fail
    refine (wakes01_any _).mono ?_
    rintro e w6 ⟨rfl, hb6⟩
    go_wp2
    go_ret
    exact ⟨rfl, bthen (Below.refl _ _) hb6 (Nat.le_refl _)⟩
  · obtain ⟨p, rfl⟩ := Int.eq_ofNat_of_zero_le g1
    refine (get_ok a0 c0 _ l p s _ _ w (ha.ext ((Below.refl _ _))) rfl rfl rfl (by omega) (by omega) (by omega) (by omega) (by omega)).mono ?_
    rintro e w5 ⟨rfl, rfl⟩
    have hlen : ((l.drop p).take s).length = s := by simp; omega
    have hnl := numOf_lt ((l.drop p).take s)
    have hbe := be_numOf ((l.drop p).take s)
    rw [hlen] at hnl hbe
    have hsub : Src w (if c0 = p then a0 else a0.map fun x => x.add p) (bvs ((l.drop p).take s)) := by
      rw [bvs_take, bvs_drop]; exact (src_drop (ha.ext ((Below.refl _ _))) c0 p (by rw [bvs_length]; omega)).take _
    rw [if_neg (by omega)] at hsub
    have HP : Hid (∀ w, Calls Try.prog 25 #[.slice none 0 0, .int .i64 ((numOf ((l.drop p).take s) : Nat) : Int), .int .i64 (s : Int)] w fun e w' => ∃ a' c', e = .returned (.tuple #[.slice a' s c', .int .i64 0]) ∧ Own w' w.heap.size 5 1 a' s c' (bvs ((l.drop p).take s)) ∧ Below w.heap.size w w') := by
      refine Lib.hid fun w => ?_
      have := put_ok none 0 0 [] (numOf ((l.drop p).take s)) s _ _ w (Src.nil _ _) rfl rfl rfl (by omega) (by omega) (by omega) hnl
      rw [hbe] at this; simpa using this
    have hdec : ((p : Int) + (s : Int)).toNat = p + s := by omega
    have Hlen := Lib.hid hlen
    clear hnl hbe hlen hdec
    generalize numOf ((l.drop p).take s) = K at *
    generalize (l.drop p).take s = m at *
    go_wp2_with fail
    refine (HP.out _).mono ?_
    rintro e w6 ⟨a6, c6, rfl, ho6, hb6⟩
    have hs6 := ho6.src
    have ht6 := hsub.ext hb6
    clear HP ho6 hsub
    go_wp2_with fail
    rw [show p + s - p = s by omega]
    refine (bytes_at a6 c6 m _ _ m w6 s s true hs6 ht6 Hlen.out.symm Hlen.out.symm (by omega) (by omega) (by simp)).mono ?_
    rintro e w7 ⟨rfl, nn, rfl⟩
    go_wp2_with fail
    refine (wakes01_any _).mono ?_
    rintro e w8 ⟨rfl, hb8⟩
    go_wp2
    go_ret
    exact ⟨rfl, bthen (below_drewN (bthen (Below.refl _ _) hb6 (Nat.le_refl _)) nn) hb8 (Nat.le_refl _)⟩

set_option maxRecDepth 100000 in
set_option maxHeartbeats 2000000 in
theorem binSizes_fit7 (w : World) (n at_ : Int) (s : Nat) (a0 : Option Addr) (c0 : Nat) (l : List Byte) (ha : Src w a0 (bvs l)) (hl : l.length ≤ 2000) (k0 : l.length ≤ c0) (h1 : 1 ≤ s) (h7 : s ≤ 7) (hn0 : 0 ≤ n) (hn : n < ((256 ^ s : Nat) : Int)) (hs : 7 ≤ s) :
    Calls Try.prog 9 #[.int .i64 n, .int .i64 (s : Int), .int .i64 at_, .slice a0 l.length c0] w fun e w' => e = .returned (.bool true) ∧ Below w.heap.size w w' := by
  have HP0 : Hid (Calls Try.prog 25 #[.slice a0 l.length c0, .int .i64 n, .int .i64 (s : Int)] w fun e w' => ∃ a' c', e = .returned (.tuple #[.slice a' (l.length + s) c', .int .i64 0]) ∧ Own w' w.heap.size 5 1 a' (l.length + s) c' (bvs (l ++ be n.toNat s)) ∧ Below w.heap.size w w') :=
    Lib.hid (put_ok a0 c0 _ l n.toNat s _ _ w ha rfl (by omega) rfl (by omega) h1 h7 (by omega))
  have e7 : s = 7 := by omega
  have hR : (256 : Nat) ^ s = 72057594037927936 := by rw [e7]
  rw [hR] at hn
  have t7 : (((s : Nat) : Int) == 7) = true := by simp; omega
  clear hR e7
  go_enter Try.func9, Try.ntmps9
  go_wp2_with fail
  refine HP0.out.mono ?_
  rintro e w1 ⟨a1, c1, rfl, ho1, hb1⟩
  have hs1 := ho1.src
  have hlc := ho1.len
  have hs1t : Src w1 a1 (bvs l) := by
    have := hs1.take l.length
    rw [← bvs_take, List.take_left] at this
    exact this
  have hs1b := ha.ext hb1
  clear HP0 ho1 hs1
  go_wp2_with fail
  refine (bytes_at a1 c1 l a0 c0 l w1 _ _ true hs1t hs1b rfl rfl (by omega) (by omega) (by simp)).mono ?_
  rintro e w2 ⟨rfl, n1, rfl⟩
  have hb2 := below_drewN hb1 n1
  clear hb1 hs1b hs1t
  generalize w1.drewN n1 = w2 at *
  go_wp2_with fail
  rcases (show at_ < 0 ∨ (l.length : Int) < at_ ∨ (0 ≤ at_ ∧ at_ ≤ (l.length : Int) ∧ (l.length : Int) - at_ < (s : Int)) ∨ (0 ≤ at_ ∧ at_ + (s : Int) ≤ (l.length : Int)) by omega) with g1 | g1 | ⟨g1, g2, g3⟩ | ⟨g1, g2⟩
  · refine (get_arg a0 _ c0 at_ _ w2 (by omega) (by omega)).mono ?_
    rintro e w5 ⟨rfl, rfl⟩
    go_wp2_with fail
    refine (wakes01_any _).mono ?_
    rintro e w6 ⟨rfl, hb6⟩
    go_wp2
    go_ret
    exact ⟨rfl, bthen hb2 hb6 (Nat.le_refl _)⟩
  · refine (get_arg a0 _ c0 at_ _ w2 (by omega) (by omega)).mono ?_
    rintro e w5 ⟨rfl, rfl⟩
    go_wp2_with fail
    refine (wakes01_any _).mono ?_
    rintro e w6 ⟨rfl, hb6⟩
    go_wp2
    go_ret
    exact ⟨rfl, bthen hb2 hb6 (Nat.le_refl _)⟩
  · refine (get_few a0 _ c0 at_ _ w2 (by omega) (by omega) (by omega) g1 g2 g3).mono ?_
    rintro e w5 ⟨rfl, rfl⟩
    go_wp2_with fail
    refine (wakes01_any _).mono ?_
    rintro e w6 ⟨rfl, hb6⟩
    go_wp2
    go_ret
    exact ⟨rfl, bthen hb2 hb6 (Nat.le_refl _)⟩
  · obtain ⟨p, rfl⟩ := Int.eq_ofNat_of_zero_le g1
    refine (get_ok a0 c0 _ l p s _ _ w2 (ha.ext (hb2)) rfl rfl rfl (by omega) (by omega) (by omega) (by omega) (by omega)).mono ?_
    rintro e w5 ⟨rfl, rfl⟩
    have hlen : ((l.drop p).take s).length = s := by simp; omega
    have hnl := numOf_lt ((l.drop p).take s)
    have hbe := be_numOf ((l.drop p).take s)
    rw [hlen] at hnl hbe
    have hsub : Src w2 (if c0 = p then a0 else a0.map fun x => x.add p) (bvs ((l.drop p).take s)) := by
      rw [bvs_take, bvs_drop]; exact (src_drop (ha.ext (hb2)) c0 p (by rw [bvs_length]; omega)).take _
    rw [if_neg (by omega)] at hsub
    have HP : Hid (∀ w, Calls Try.prog 25 #[.slice none 0 0, .int .i64 ((numOf ((l.drop p).take s) : Nat) : Int), .int .i64 (s : Int)] w fun e w' => ∃ a' c', e = .returned (.tuple #[.slice a' s c', .int .i64 0]) ∧ Own w' w.heap.size 5 1 a' s c' (bvs ((l.drop p).take s)) ∧ Below w.heap.size w w') := by
      refine Lib.hid fun w => ?_
      have := put_ok none 0 0 [] (numOf ((l.drop p).take s)) s _ _ w (Src.nil _ _) rfl rfl rfl (by omega) (by omega) (by omega) hnl
      rw [hbe] at this; simpa using this
    have hdec : ((p : Int) + (s : Int)).toNat = p + s := by omega
    have Hlen := Lib.hid hlen
    clear hnl hbe hlen hdec
    generalize numOf ((l.drop p).take s) = K at *
    generalize (l.drop p).take s = m at *
    go_wp2_with fail
    refine (HP.out _).mono ?_
    rintro e w6 ⟨a6, c6, rfl, ho6, hb6⟩
    have hs6 := ho6.src
    have ht6 := hsub.ext hb6
    clear HP ho6 hsub
    go_wp2_with fail
    rw [show p + s - p = s by omega]
    refine (bytes_at a6 c6 m _ _ m w6 s s true hs6 ht6 Hlen.out.symm Hlen.out.symm (by omega) (by omega) (by simp)).mono ?_
    rintro e w7 ⟨rfl, nn, rfl⟩
    go_wp2_with fail
    refine (wakes01_any _).mono ?_
    rintro e w8 ⟨rfl, hb8⟩
    go_wp2
    go_ret
    exact ⟨rfl, bthen (below_drewN (bthen hb2 hb6 (Nat.le_refl _)) nn) hb8 (Nat.le_refl _)⟩

set_option maxRecDepth 100000 in
set_option maxHeartbeats 2000000 in
theorem binSizes_fit (w : World) (n at_ : Int) (s : Nat) (a0 : Option Addr) (c0 : Nat) (l : List Byte) (ha : Src w a0 (bvs l)) (hl : l.length ≤ 2000) (k0 : l.length ≤ c0) (h1 : 1 ≤ s) (h7 : s ≤ 7) (hn0 : 0 ≤ n) (hn : n < ((256 ^ s : Nat) : Int)) (hs : s < 7) :
    Calls Try.prog 9 #[.int .i64 n, .int .i64 (s : Int), .int .i64 at_, .slice a0 l.length c0] w fun e w' => e = .returned (.bool true) ∧ Below w.heap.size w w' := by
  have HP0 : Hid (Calls Try.prog 25 #[.slice a0 l.length c0, .int .i64 n, .int .i64 (s : Int)] w fun e w' => ∃ a' c', e = .returned (.tuple #[.slice a' (l.length + s) c', .int .i64 0]) ∧ Own w' w.heap.size 5 1 a' (l.length + s) c' (bvs (l ++ be n.toNat s)) ∧ Below w.heap.size w w') :=
    Lib.hid (put_ok a0 c0 _ l n.toNat s _ _ w ha rfl (by omega) rfl (by omega) h1 h7 (by omega))
  have ew := wrap_pow s h7
  generalize 256 ^ s = R at *

  go_enter Try.func9, Try.ntmps9
  go_wp2_with fail
  refine HP0.out.mono ?_
  rintro e w1 ⟨a1, c1, rfl, ho1, hb1⟩
  have hs1 := ho1.src
  have hlc := ho1.len
  have hs1t : Src w1 a1 (bvs l) := by
    have := hs1.take l.length
    rw [← bvs_take, List.take_left] at this
    exact this
  have hs1b := ha.ext hb1
  clear HP0 ho1 hs1
  go_wp2_with fail
  refine (bytes_at a1 c1 l a0 c0 l w1 _ _ true hs1t hs1b rfl rfl (by omega) (by omega) (by simp)).mono ?_
  rintro e w2 ⟨rfl, n1, rfl⟩
  have hb2 := below_drewN hb1 n1
  clear hb1 hs1b hs1t
  generalize w1.drewN n1 = w2 at *
  go_wp2_with fail
  rcases (show at_ < 0 ∨ (l.length : Int) < at_ ∨ (0 ≤ at_ ∧ at_ ≤ (l.length : Int) ∧ (l.length : Int) - at_ < (s : Int)) ∨ (0 ≤ at_ ∧ at_ + (s : Int) ≤ (l.length : Int)) by omega) with g1 | g1 | ⟨g1, g2, g3⟩ | ⟨g1, g2⟩
  · refine (get_arg a0 _ c0 at_ _ w2 (by omega) (by omega)).mono ?_
    rintro e w5 ⟨rfl, rfl⟩
    go_wp2_with fail
    refine (wakes01_any _).mono ?_
    rintro e w6 ⟨rfl, hb6⟩
    go_wp2
    go_ret
    exact ⟨rfl, bthen hb2 hb6 (Nat.le_refl _)⟩
  · refine (get_arg a0 _ c0 at_ _ w2 (by omega) (by omega)).mono ?_
    rintro e w5 ⟨rfl, rfl⟩
    go_wp2_with fail
    refine (wakes01_any _).mono ?_
    rintro e w6 ⟨rfl, hb6⟩
    go_wp2
    go_ret
    exact ⟨rfl, bthen hb2 hb6 (Nat.le_refl _)⟩
  · refine (get_few a0 _ c0 at_ _ w2 (by omega) (by omega) (by omega) g1 g2 g3).mono ?_
    rintro e w5 ⟨rfl, rfl⟩
    go_wp2_with fail
    refine (wakes01_any _).mono ?_
    rintro e w6 ⟨rfl, hb6⟩
    go_wp2
    go_ret
    exact ⟨rfl, bthen hb2 hb6 (Nat.le_refl _)⟩
  · obtain ⟨p, rfl⟩ := Int.eq_ofNat_of_zero_le g1
    refine (get_ok a0 c0 _ l p s _ _ w2 (ha.ext (hb2)) rfl rfl rfl (by omega) (by omega) (by omega) (by omega) (by omega)).mono ?_
    rintro e w5 ⟨rfl, rfl⟩
    have hlen : ((l.drop p).take s).length = s := by simp; omega
    have hnl := numOf_lt ((l.drop p).take s)
    have hbe := be_numOf ((l.drop p).take s)
    rw [hlen] at hnl hbe
    have hsub : Src w2 (if c0 = p then a0 else a0.map fun x => x.add p) (bvs ((l.drop p).take s)) := by
      rw [bvs_take, bvs_drop]; exact (src_drop (ha.ext (hb2)) c0 p (by rw [bvs_length]; omega)).take _
    rw [if_neg (by omega)] at hsub
    have HP : Hid (∀ w, Calls Try.prog 25 #[.slice none 0 0, .int .i64 ((numOf ((l.drop p).take s) : Nat) : Int), .int .i64 (s : Int)] w fun e w' => ∃ a' c', e = .returned (.tuple #[.slice a' s c', .int .i64 0]) ∧ Own w' w.heap.size 5 1 a' s c' (bvs ((l.drop p).take s)) ∧ Below w.heap.size w w') := by
      refine Lib.hid fun w => ?_
      have := put_ok none 0 0 [] (numOf ((l.drop p).take s)) s _ _ w (Src.nil _ _) rfl rfl rfl (by omega) (by omega) (by omega) hnl
      rw [hbe] at this; simpa using this
    have hdec : ((p : Int) + (s : Int)).toNat = p + s := by omega
    have Hlen := Lib.hid hlen
    clear hnl hbe hlen hdec
    generalize numOf ((l.drop p).take s) = K at *
    generalize (l.drop p).take s = m at *
    go_wp2_with fail
    refine (HP.out _).mono ?_
    rintro e w6 ⟨a6, c6, rfl, ho6, hb6⟩
    have hs6 := ho6.src
    have ht6 := hsub.ext hb6
    clear HP ho6 hsub
    go_wp2_with fail
    rw [show p + s - p = s by omega]
    refine (bytes_at a6 c6 m _ _ m w6 s s true hs6 ht6 Hlen.out.symm Hlen.out.symm (by omega) (by omega) (by simp)).mono ?_
    rintro e w7 ⟨rfl, nn, rfl⟩
    go_wp2_with fail
    refine (wakes01_any _).mono ?_
    rintro e w8 ⟨rfl, hb8⟩
    go_wp2
    go_ret
    exact ⟨rfl, bthen (below_drewN (bthen hb2 hb6 (Nat.le_refl _)) nn) hb8 (Nat.le_refl _)⟩
end Go.Proofs.Ytobgiapfehffcaa
