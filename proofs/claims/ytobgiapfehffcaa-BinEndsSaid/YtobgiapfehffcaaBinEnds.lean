/- The law BinEnds, walked. -/
import Derived.Test.YtobgiapfehffcaaBinWakes
import Derived.Test.YtobgiapfehffcaaBinEnc
namespace Go.Proofs.Ytobgiapfehffcaa
open Go.RowKit

set_option maxRecDepth 100000 in
set_option maxHeartbeats 4000000 in
theorem binEnds_0 (w : World) (a : Option Addr) (c : Nat) (l : List Byte) (hs : Src w a (bvs l)) (hl : l.length ≤ 2000) (cut : Int) :
    Calls Try.prog 12 #[.slice a l.length c, .int .i64 cut, .int .i64 0] w fun e w' => e = .returned (.bool true) ∧ Below w.heap.size w w' := by
  obtain ⟨i0, hi, hz0, hz1, hz2⟩ := info_parts info8
  obtain ⟨n, hn⟩ : ∃ n : Nat, n = 30000 := ⟨_, rfl⟩
  have n1 : n ≤ 30000 := by omega
  have n2 : 30000 ≤ n := by omega
  clear hn
  obtain ⟨k, hk, ek⟩ := umod cut (4 + (l.length : Int)) (by omega) (by omega)
  go_enter Try.func12, Try.ntmps12
  go_wp2_with fail
  refine (putpart_ok none a 0 l.length 0 c [] l w (Src.nil _ _) hs rfl rfl (by omega) (by omega)).mono ?_
  rintro e w1 ⟨a1, c1, rfl, ho1, hb1⟩
  have hs1 := ho1.src
  have hlc1 := ho1.len
  rw [Nat.zero_add] at hlc1 ⊢
  rw [show ([] ++ be l.length 4 ++ l : List Byte) = enc1 l from rfl] at hs1
  clear ho1
  go_wp2_with fail
  rw [ek]
  clear ek
  have hEl := enc1_length l
  have hk2 : k < 4 + l.length := by omega
  have HG : Hid (Calls Try.prog 33 #[.slice a1 k c1, .int .i64 0] w1 fun e w' => e = .returned (.tuple #[.slice none 0 0, .int .i64 0, .int .i64 3]) ∧ w1 = w') := by
    by_cases h4 : 4 ≤ k
    · have hla : lenAt ((enc1 l).take k) 0 = l.length := by
        have := part_len [] l [] k (by simpa using h4) (by omega)
        simpa using this
      exact Lib.hid (getpart_bad a1 c1 k ((enc1 l).take k) 0 _ w1 (by rw [bvs_take]; exact hs1.take k) (by simp; omega) rfl (by omega) (by omega) (by omega) (by rw [hla]; omega))
    · exact Lib.hid (getpart_few a1 k c1 _ w1 (by omega) (by omega) (by omega) (by omega))
  clear hEl hs1
  go_wp2_with fail
  refine HG.out.mono ?_
  rintro e w2 ⟨rfl, rfl⟩
  clear HG
  go_wp2_with (refine wpList_make_full w1 rfl (.tmp 64) (.tmp 64) 22 rfl w1.heap.size 5 i0 (.int .u8 0) 1 Try.underlying22 hi hz0 hz1 .i64 .i64 _ _ n rfl rfl (by omega) (by omega) (by rw [hz2]; omega) (by unfold maxLen; omega) (Nat.le_refl _) ?_; intro w2 hown hg)
  have hown1 := own_of_row hown
  rw [show (Value.int IntKind.u8 0).cells = #[.int .u8 0] from rfl, made_bytes] at hown1
  have hb2 := (Below.refl w1.heap.size w1).grown hg (Nat.le_refl _) (by simp)
  have hb12 := bthen hb1 hb2 (Nat.le_refl _)
  have hz : (List.replicate n 0#8 : List Byte).length = n := by simp
  have Hz := Lib.hid hz
  have hsz := hown1.src
  clear hown hg hown1 hz hb2
  generalize (List.replicate n 0#8 : List Byte) = Z at *
  refine (putpart_ok none _ 0 n 0 n [] Z w2 (Src.nil _ _) hsz rfl Hz.out.symm (by omega) (by omega)).mono ?_
  rintro e w3 ⟨a3, c3, rfl, ho3, hb3⟩
  rw [Nat.zero_add] at ho3 ⊢
  rw [List.nil_append] at ho3
  have hb13 := bthen hb12 hb3 (Nat.le_refl _)
  have hs3 := ho3.src
  have hlc3 := ho3.len
  have hla : lenAt (be n 4 ++ Z) 0 = n := by
    have := part_len [] Z [] (4 + n) (by simp) (by rw [Hz.out]; omega)
    rw [Hz.out] at this
    rw [List.take_of_length_le (by simp [enc1, be_length, Hz.out])] at this
    simpa [enc1, Hz.out] using this
  have HG := getpart_ok a3 c3 (4 + n) (be n 4 ++ Z) 0 _ w3 hs3 (by rw [List.length_append, be_length, Hz.out]) rfl (by omega) (by omega) (by omega) (by rw [hla]; omega) (by rw [hla]; omega)
  rw [hla, Nat.zero_add] at HG
  have HG := Lib.hid HG
  clear hla ho3 hs3
  go_wp2_with fail
  refine HG.out.mono ?_
  rintro e w4 ⟨a4, c4, rfl, ho4, hb4⟩
  have hb14 := bthen hb13 hb4 (Nat.le_refl _)
  clear HG ho4
  go_wp2_with fail
  refine (wakes01_any _).mono ?_
  rintro e w6 ⟨rfl, hb6⟩
  go_wp2
  go_ret
  exact ⟨rfl, bthen hb14 hb6 (Nat.le_refl _)⟩

set_option maxRecDepth 100000 in
set_option maxHeartbeats 4000000 in
theorem binEnds_1 (w : World) (a : Option Addr) (c : Nat) (l : List Byte) (hs : Src w a (bvs l)) (hl : l.length ≤ 2000) (cut : Int) :
    Calls Try.prog 12 #[.slice a l.length c, .int .i64 cut, .int .i64 1] w fun e w' => e = .returned (.bool true) ∧ Below w.heap.size w w' := by
  obtain ⟨i0, hi, hz0, hz1, hz2⟩ := info_parts info8
  obtain ⟨n, hn⟩ : ∃ n : Nat, n = 30001 := ⟨_, rfl⟩
  have n1 : n ≤ 30001 := by omega
  have n2 : 30001 ≤ n := by omega
  clear hn
  obtain ⟨k, hk, ek⟩ := umod cut (4 + (l.length : Int)) (by omega) (by omega)
  go_enter Try.func12, Try.ntmps12
  go_wp2_with fail
  refine (putpart_ok none a 0 l.length 0 c [] l w (Src.nil _ _) hs rfl rfl (by omega) (by omega)).mono ?_
  rintro e w1 ⟨a1, c1, rfl, ho1, hb1⟩
  have hs1 := ho1.src
  have hlc1 := ho1.len
  rw [Nat.zero_add] at hlc1 ⊢
  rw [show ([] ++ be l.length 4 ++ l : List Byte) = enc1 l from rfl] at hs1
  clear ho1
  go_wp2_with fail
  rw [ek]
  clear ek
  have hEl := enc1_length l
  have hk2 : k < 4 + l.length := by omega
  have HG : Hid (Calls Try.prog 33 #[.slice a1 k c1, .int .i64 0] w1 fun e w' => e = .returned (.tuple #[.slice none 0 0, .int .i64 0, .int .i64 3]) ∧ w1 = w') := by
    by_cases h4 : 4 ≤ k
    · have hla : lenAt ((enc1 l).take k) 0 = l.length := by
        have := part_len [] l [] k (by simpa using h4) (by omega)
        simpa using this
      exact Lib.hid (getpart_bad a1 c1 k ((enc1 l).take k) 0 _ w1 (by rw [bvs_take]; exact hs1.take k) (by simp; omega) rfl (by omega) (by omega) (by omega) (by rw [hla]; omega))
    · exact Lib.hid (getpart_few a1 k c1 _ w1 (by omega) (by omega) (by omega) (by omega))
  clear hEl hs1
  go_wp2_with fail
  refine HG.out.mono ?_
  rintro e w2 ⟨rfl, rfl⟩
  clear HG
  go_wp2_with (refine wpList_make_full w1 rfl (.tmp 64) (.tmp 64) 22 rfl w1.heap.size 5 i0 (.int .u8 0) 1 Try.underlying22 hi hz0 hz1 .i64 .i64 _ _ n rfl rfl (by omega) (by omega) (by rw [hz2]; omega) (by unfold maxLen; omega) (Nat.le_refl _) ?_; intro w2 hown hg)
  have hown1 := own_of_row hown
  rw [show (Value.int IntKind.u8 0).cells = #[.int .u8 0] from rfl, made_bytes] at hown1
  have hb2 := (Below.refl w1.heap.size w1).grown hg (Nat.le_refl _) (by simp)
  have hb12 := bthen hb1 hb2 (Nat.le_refl _)
  have hz : (List.replicate n 0#8 : List Byte).length = n := by simp
  have Hz := Lib.hid hz
  have hsz := hown1.src
  clear hown hg hown1 hz hb2
  generalize (List.replicate n 0#8 : List Byte) = Z at *
  refine (putpart_no none _ 0 n 0 n w2 (by omega) (by omega)).mono ?_
  rintro e w3 ⟨rfl, rfl⟩
  go_wp2_with fail
  refine (put_ok none 0 0 [] n 4 _ _ w2 (Src.nil _ _) rfl rfl rfl (by omega) (by omega) (by omega) (by omega)).mono ?_
  rintro e w3 ⟨a3, c3, rfl, ho3, hb3⟩
  rw [Nat.zero_add] at ho3 ⊢
  rw [List.nil_append] at ho3
  have hsz3 := hsz.ext hb3
  have hb13 := bthen hb12 hb3 (Nat.le_refl _)
  have hsz2 := hb3.size
  go_wp2_with (refine wpList_app rfl (.tmp 87) (.tmp 88) 22 rfl w2.heap.size 5 i0 (.int .u8 0) 1 1 Try.underlying22 hi hz0 hz1 hz2 rfl (by decide) a3 4 c3 (bvs (be n 4)) rfl ho3 _ n n (bvs Z) rfl (by rw [bvs_length, Hz.out]; omega) hsz3 (bvs_one Z) (by unfold maxLen; omega) (by omega) hsz2 ?_; intro a4 c4 w4 ho4 hb4)
  have hb14 := hb13.trans (hb4.mono hb12.size)
  have hs4 := ho4.src
  have hlc4 := ho4.len
  rw [← bvs_append] at hs4
  have hla : lenAt (be n 4 ++ Z) 0 = n := by
    have := part_len [] Z [] (4 + n) (by simp) (by rw [Hz.out]; omega)
    rw [Hz.out] at this
    rw [List.take_of_length_le (by simp [enc1, be_length, Hz.out])] at this
    simpa [enc1, Hz.out] using this
  refine (getpart_bad a4 c4 (4 + n) (be n 4 ++ Z) 0 _ w4 hs4 (by rw [List.length_append, be_length, Hz.out]) rfl (by omega) (by omega) (by omega) (by rw [hla]; omega)).mono ?_
  rintro e w5 ⟨rfl, rfl⟩
  go_wp2_with fail
  refine (wakes01_any _).mono ?_
  rintro e w6 ⟨rfl, hb6⟩
  go_wp2
  go_ret
  exact ⟨rfl, bthen hb14 hb6 (Nat.le_refl _)⟩

set_option maxRecDepth 100000 in
set_option maxHeartbeats 1000000 in
theorem binEnds_walk (w : World) (a : Option Addr) (c : Nat) (l : List Byte) (hs : Src w a (bvs l)) (hl : l.length ≤ 9223372036854775807) (k0 : l.length ≤ c) (cut : Int) (wc : (Lit.int .i64 cut).wf = true) (over : Int) (wo : (Lit.int .i64 over).wf = true) :
    Calls Try.prog 12 #[.slice a l.length c, .int .i64 cut, .int .i64 over] w fun e w' => e = .returned (.bool true) ∧ Below w.heap.size w w' := by
  by_cases h : l.length ≤ 2000
  · by_cases h0 : over = 0
    · subst h0; exact binEnds_0 w a c l hs h cut
    · by_cases h1 : over = 1
      · subst h1; exact binEnds_1 w a c l hs h cut
      · rcases (show over < 0 ∨ 1 < over by omega) with h2 | h2
        all_goals
          clear h0 h1
          go_enter Try.func12, Try.ntmps12
          go_wp2
          go_ret
          exact ⟨rfl, Below.refl _ _⟩
  · go_enter Try.func12, Try.ntmps12
    go_wp2
    go_ret
    exact ⟨rfl, Below.refl _ _⟩
end Go.Proofs.Ytobgiapfehffcaa
