/- cellarerref01.Put, Get, PutPart, GetPart and bin's: one answer for all arguments; and keep's SpoilBytes. -/
import Derived.Test.YtobgiapfehffcaaBinWakes
namespace Go.Proofs.Ytobgiapfehffcaa
open Go.RowKit

theorem shr_pow (n s : Nat) : (n : Int) / 2 ^ (8 * s) = ((n / 256 ^ s : Nat) : Int) := by
  rw [← pow8]
  have e3 : ((2 ^ (8 * s) : Nat) : Int) = (2 : Int) ^ (8 * s) := by simp
  rw [← e3]
  simp

set_option maxHeartbeats 1000000 in
theorem rput_no (a : Option Addr) (L c : Nat) (n S : Int) (w : World) (h : ¬ (1 ≤ S ∧ S ≤ 7 ∧ 0 ≤ n ∧ n < 256 ^ S.toNat)) :
    Calls Try.prog 28 #[.slice a L c, .int .i64 n, .int .i64 S] w fun e w' => e = .returned (.tuple #[.slice none 0 0, .int .i64 1]) ∧ w = w' := by
  by_cases h1 : 1 ≤ S
  · by_cases h2 : S ≤ 7
    · obtain ⟨s, rfl⟩ := Int.eq_ofNat_of_zero_le (show 0 ≤ S by omega)
      by_cases h3 : 0 ≤ n
      · obtain ⟨n, rfl⟩ := Int.eq_ofNat_of_zero_le h3
        have h4 : 256 ^ s ≤ n := by
          simp only [h1, h2, h3, true_and, Int.toNat_natCast, Int.not_lt] at h
          have : ((256 ^ s : Nat) : Int) ≤ (n : Int) := by simpa using h
          omega
        have h5 : ((n : Int) / 2 ^ (8 * s) != 0) = true := by
          rw [shr_pow]
          have : 0 < n / 256 ^ s := Nat.div_pos h4 (Nat.pow_pos (by omega))
          simp only [bne_iff_ne, ne_eq]
          omega
        have e1 : (8 * (s : Int)).toNat = 8 * s := by omega
        clear h h4
        go_enter Try.func28, Try.ntmps28
        go_wp2
        go_ret2
        exact ⟨rfl, rfl⟩
      · clear h
        go_enter Try.func28, Try.ntmps28
        go_wp2
        go_ret2
        exact ⟨rfl, rfl⟩
    · clear h
      go_enter Try.func28, Try.ntmps28
      go_wp2
      go_ret2
      exact ⟨rfl, rfl⟩
  · clear h
    go_enter Try.func28, Try.ntmps28
    go_wp2
    go_ret2
    exact ⟨rfl, rfl⟩

set_option maxHeartbeats 1000000 in
theorem rput_ok (a : Option Addr) (c L : Nat) (l : List Byte) (n s : Nat) (N S : Int) (w : World) (hs : Src w a (bvs l)) (hL : L = l.length) (hN : N = (n : Int)) (hS : S = (s : Int)) (hl : L ≤ 140737488355000) (h1 : 1 ≤ s) (h2 : s ≤ 7) (h3 : n < 256 ^ s) :
    Calls Try.prog 28 #[.slice a L c, .int .i64 N, .int .i64 S] w fun e w' => ∃ a' c', e = .returned (.tuple #[.slice a' (L + s) c', .int .i64 0]) ∧ Own w' w.heap.size 5 1 a' (L + s) c' (bvs (l ++ be n s)) ∧ Below w.heap.size w w' := by
  subst hL; subst hN; subst hS
  obtain ⟨i0, hi, hz0, hz1, hz2⟩ := info_parts info8
  have h5 := pow256_le h2
  have hn : n < 72057594037927936 := by omega
  have h6 : (n : Int) / 2 ^ (8 * s) = 0 := by rw [shr_pow, Nat.div_eq_of_lt h3]; rfl
  have e1 : (8 * (s : Int)).toNat = 8 * s := by omega
  clear h3 h5
  go_enter Try.func28, Try.ntmps28
  go_wp2_with fail
  refine (twin_at a c l.length l w hs rfl (by omega)).mono ?_
  rintro e w1 ⟨a1, c1, rfl, hown1, hb1⟩
  go_wp2_with fail
  clear h6 e1
  go_loopw [8, 9] (fun v i wr => ∃ (j : Nat) (a' : Option Addr) (c' : Nat), j ≤ s ∧ i = .int .i64 ((s : Int) - 1 - (j : Int)) ∧ v = .slice a' (l.length + j) c' ∧ Own wr w.heap.size 5 1 a' (l.length + j) c' (bvs (l ++ (be n s).take j)) ∧ Below w.heap.size w wr) (fun _ i _ => (intOf i + 1).toNat)
  case atStart => exact ⟨0, a1, c1, by omega, by go_num, rfl, by simpa using hown1, hb1⟩
  case round =>
    rename_i wr
    obtain ⟨j, a', c', hj, rfl, rfl, hown, hb⟩ := hrel
    by_cases hlt : j < s
    · obtain ⟨q, hq⟩ : ∃ q, q = s - 1 - j := ⟨_, rfl⟩
      have eq1 : (s : Int) - 1 - (j : Int) = (q : Int) := by omega
      have Hq := Lib.hid hq
      have Htk := Lib.hid (be_take_succ n s j hlt)
      have hq6 : q ≤ 6 := by omega
      have et : (8 * (q : Int)).toNat = 8 * q := by omega
      have hv : Value.int IntKind.u8 ((n : Int) / 2 ^ (8 * q) % 256) = u8v (BitVec.ofNat 8 (n / 256 ^ q)) := by
        simp only [u8v, BitVec.toNat_ofNat, Value.int.injEq, true_and]
        rw [shr_pow]
        omega
      have Hv := Lib.hid hv
      clear hv hq
      rw [eq1]
      have hsz := hb.size
      go_wp2_with (refine wpList_app rfl (.tmp 36) (.tmp 43) 22 rfl w.heap.size 5 i0 (.int .u8 0) 1 1 Try.underlying22 hi hz0 hz1 hz2 rfl (by decide) a' (l.length + j) c' (bvs (l ++ (be n s).take j)) rfl (hown.ext (ext_alloc wr _)) (some ⟨wr.heap.size, 0, none⟩) 1 1 [.int .u8 ((n : Int) / 2 ^ (8 * q) % 256)] rfl rfl (src_new wr _ _) (by simp [Value.oneCell']) (by unfold maxLen; omega) (by omega) (by rw [World.size_alloc]; omega) ?_; intro a2 c2 w2 hown2 hb2)
      go_roundw
      case rel =>
        refine ⟨j + 1, a2, c2, by omega, ?_, rfl, ?_, (hb.alloc hb.size _).trans hb2⟩
        · have := Hq.out
          congr 1
          omega
        · rw [Hv.out] at hown2
          rw [Htk.out, ← Hq.out, ← List.append_assoc, bvs_append _ [_]]
          exact hown2
      case measure => simp [intOf] <;> omega
    · obtain rfl : j = s := by omega
      go_wp2
      go_ret2
      exact ⟨a', c', rfl, by rw [List.take_of_length_le (by rw [be_length]; omega)] at hown; exact hown, hb⟩

theorem rget_arg (a : Option Addr) (L c : Nat) (A S : Int) (w : World) (hL : L ≤ 9223372036854775807) (h : ¬ (1 ≤ S ∧ S ≤ 7 ∧ 0 ≤ A ∧ A ≤ (L : Int))) :
    Calls Try.prog 30 #[.slice a L c, .int .i64 A, .int .i64 S] w fun e w' => e = .returned (.tuple #[.int .i64 0, .int .i64 0, .int .i64 1]) ∧ w = w' := by
  by_cases h1 : 1 ≤ S
  · by_cases h2 : S ≤ 7
    · by_cases h3 : 0 ≤ A
      · have h4 : (L : Int) < A := by omega
        clear h
        go_enter Try.func30, Try.ntmps30
        go_wp2
        go_ret3
        exact ⟨rfl, rfl⟩
      · go_enter Try.func30, Try.ntmps30
        go_wp2
        go_ret3
        exact ⟨rfl, rfl⟩
    · go_enter Try.func30, Try.ntmps30
      go_wp2
      go_ret3
      exact ⟨rfl, rfl⟩
  · go_enter Try.func30, Try.ntmps30
    go_wp2
    go_ret3
    exact ⟨rfl, rfl⟩
theorem rget_few (a : Option Addr) (L c : Nat) (A S : Int) (w : World) (hL : L ≤ 9223372036854775807) (h1 : 1 ≤ S) (h2 : S ≤ 7) (h3 : 0 ≤ A) (h4 : A ≤ (L : Int)) (h5 : (L : Int) - A < S) :
    Calls Try.prog 30 #[.slice a L c, .int .i64 A, .int .i64 S] w fun e w' => e = .returned (.tuple #[.int .i64 0, .int .i64 0, .int .i64 3]) ∧ w = w' := by
  go_enter Try.func30, Try.ntmps30
  go_wp2
  go_ret3
  exact ⟨rfl, rfl⟩

set_option maxHeartbeats 1000000 in
theorem rget_ok (a : Option Addr) (c L : Nat) (l : List Byte) (p s : Nat) (A S : Int) (w : World) (hs : Src w a (bvs l)) (hL : L = l.length) (hA : A = (p : Int)) (hS : S = (s : Int)) (hl : L ≤ 4611686018427387904) (hc : L ≤ c) (h1 : 1 ≤ s) (h2 : s ≤ 7) (h3 : p + s ≤ L) :
    Calls Try.prog 30 #[.slice a L c, .int .i64 A, .int .i64 S] w fun e w' => e = .returned (.tuple #[.int .i64 ((numOf ((l.drop p).take s) : Nat) : Int), .int .i64 ((p + s : Nat) : Int), .int .i64 0]) ∧ w = w' := by
  subst hL; subst hA; subst hS
  have hne : 0 < l.length := by omega
  obtain ⟨b, o, rfl, hlb, hat⟩ := src_bytes_at hs hne
  go_enter Try.func30, Try.ntmps30
  go_wp2_with fail
  have hdl : ((l.drop p).take s).length = s := by simp; omega
  go_loop [9, 10] (fun v i => ∃ j : Nat, j ≤ s ∧ i = .int .i64 (j : Int) ∧ v = .int .i64 ((numOf ((l.drop p).take j) : Nat) : Int)) (fun _ i => s - (intOf i).toNat)
  case atStart => exact ⟨0, by omega, rfl, rfl⟩
  case round =>
    obtain ⟨j, hj, rfl, rfl⟩ := hrel
    by_cases hlt : j < s
    · have hc1 := hat (p + j) (by omega)
      have Htk : Hid (numOf ((l.drop p).take (j + 1)) = numOf ((l.drop p).take j) * 256 + (l[p + j]'(by omega)).toNat) := Lib.hid (by
        rw [numOf_take_succ _ j (by simp; omega)]; simp)
      have hv : numOf ((l.drop p).take j) < 281474976710656 := by
        have h8 := numOf_lt ((l.drop p).take j)
        have h9 : ((l.drop p).take j).length = j := by simp; omega
        rw [h9] at h8
        have h10 := Nat.pow_le_pow_right (n := 256) (by omega) (show j ≤ 6 by omega)
        have : (256 : Nat) ^ 6 = 281474976710656 := by decide
        omega
      generalize l[p + j]'(by omega) = x at hc1 Htk
      generalize numOf ((l.drop p).take j) = v at *
      have hor := or_byte v x hv
      have Hor := Lib.hid hor
      clear hor
      clear hat hs
      go_wp2
      go_round
      case rel => exact ⟨j + 1, by omega, by go_num, by rw [Hor.out, Htk.out]⟩
      case measure => simp [intOf] <;> omega
    · obtain rfl : j = s := by omega
      go_wp2
      go_ret3
      exact ⟨rfl, rfl⟩

set_option maxHeartbeats 1000000 in
theorem rputpart_ok (a b : Option Addr) (L M c d : Nat) (l m : List Byte) (w : World) (hs : Src w a (bvs l)) (ht : Src w b (bvs m)) (hL : L = l.length) (hM : M = m.length) (hl : L ≤ 140737488300000) (hm : M ≤ 30000) :
    Calls Try.prog 32 #[.slice a L c, .slice b M d] w fun e w' => ∃ a' c', e = .returned (.tuple #[.slice a' (L + 4 + M) c', .int .i64 0]) ∧ Own w' w.heap.size 5 1 a' (L + 4 + M) c' (bvs (l ++ be M 4 ++ m)) ∧ Below w.heap.size w w' := by
  obtain ⟨i0, hi, hz0, hz1, hz2⟩ := info_parts info8
  have HL := Lib.hid hL
  have HM := Lib.hid hM
  clear hL hM
  go_enter Try.func32, Try.ntmps32
  go_wp2_with fail
  refine (rput_ok a c L l M 4 _ _ w hs HL.out rfl rfl (by omega) (by omega) (by omega) (by omega)).mono ?_
  rintro e w1 ⟨a1, c1, rfl, hown1, hb1⟩
  go_wp2_with (refine wpList_app rfl (.tmp 18) (.tmp 19) 22 rfl w.heap.size 5 i0 (.int .u8 0) 1 1 Try.underlying22 hi hz0 hz1 hz2 rfl (by decide) a1 (L + 4) c1 (bvs (l ++ be M 4)) rfl hown1 b M d (bvs m) rfl (by rw [bvs_length, HM.out]; omega) (ht.ext hb1) (bvs_one m) (by unfold maxLen; omega) (by omega) hb1.size ?_; intro a2 c2 w2 hown2 hb2)
  go_ret2
  exact ⟨a2, c2, rfl, by rw [bvs_append (l ++ be M 4) m]; exact hown2, hb1.trans hb2⟩

theorem rgetpart_arg (a : Option Addr) (L c : Nat) (A : Int) (w : World) (hL : L ≤ 9223372036854775807) (h : ¬ (0 ≤ A ∧ A ≤ (L : Int))) :
    Calls Try.prog 34 #[.slice a L c, .int .i64 A] w fun e w' => e = .returned (.tuple #[.slice none 0 0, .int .i64 0, .int .i64 1]) ∧ w = w' := by
  have Hc : Hid (∀ w, Calls Try.prog 30 #[.slice a L c, .int .i64 A, .int .i64 4] w fun e w' => e = .returned (.tuple #[.int .i64 0, .int .i64 0, .int .i64 1]) ∧ w = w') := Lib.hid fun w => rget_arg a L c A 4 w hL (by omega)
  clear h
  go_enter Try.func34, Try.ntmps34
  go_wp2_with fail
  refine (Hc.out w).mono ?_
  rintro e w1 ⟨rfl, rfl⟩
  go_wp2
  go_ret3
  exact ⟨rfl, rfl⟩
theorem rgetpart_few (a : Option Addr) (L c : Nat) (A : Int) (w : World) (hL : L ≤ 9223372036854775807) (h0 : 0 ≤ A) (h1 : A ≤ (L : Int)) (h2 : (L : Int) - A < 4) :
    Calls Try.prog 34 #[.slice a L c, .int .i64 A] w fun e w' => e = .returned (.tuple #[.slice none 0 0, .int .i64 0, .int .i64 3]) ∧ w = w' := by
  go_enter Try.func34, Try.ntmps34
  go_wp2_with fail
  refine (rget_few a L c A 4 w hL (by omega) (by omega) h0 h1 h2).mono ?_
  rintro e w1 ⟨rfl, rfl⟩
  go_wp2
  go_ret3
  exact ⟨rfl, rfl⟩

set_option maxHeartbeats 1000000 in
theorem rgetpart_bad (a : Option Addr) (c L : Nat) (l : List Byte) (p : Nat) (A : Int) (w : World) (hs : Src w a (bvs l)) (hL : L = l.length) (hA : A = (p : Int)) (hl : L ≤ 4611686018427387904) (hc : L ≤ c) (h3 : p + 4 ≤ L)
    (h4 : 30000 < lenAt l p ∨ L - (p + 4) < lenAt l p) :
    Calls Try.prog 34 #[.slice a L c, .int .i64 A] w fun e w' => e = .returned (.tuple #[.slice none 0 0, .int .i64 0, .int .i64 3]) ∧ w = w' := by
  have hg := rget_ok a c L l p 4 A 4 w hs hL hA rfl hl hc (by omega) (by omega) h3
  have hlt := lenAt_lt l p
  rw [show numOf ((l.drop p).take 4) = lenAt l p from rfl] at hg
  generalize lenAt l p = n at *
  have Hg := Lib.hid hg
  clear hg hs hL hA
  go_enter Try.func34, Try.ntmps34
  go_wp2_with fail
  refine Hg.out.mono ?_
  rintro e w1 ⟨rfl, rfl⟩
  by_cases h5 : 30000 < n
  · clear h4
    go_wp2
    go_ret3
    exact ⟨rfl, rfl⟩
  · have h6 : L - (p + 4) < n := by omega
    clear h4
    go_wp2
    go_ret3
    exact ⟨rfl, rfl⟩

set_option maxHeartbeats 1000000 in
theorem rgetpart_ok (a : Option Addr) (c L : Nat) (l : List Byte) (p : Nat) (A : Int) (w : World) (hs : Src w a (bvs l)) (hL : L = l.length) (hA : A = (p : Int)) (hl : L ≤ 140737488300000) (hc : L ≤ c) (h3 : p + 4 ≤ L)
    (h4 : lenAt l p ≤ 30000) (h5 : p + 4 + lenAt l p ≤ L) :
    Calls Try.prog 34 #[.slice a L c, .int .i64 A] w fun e w' => ∃ a' c', e = .returned (.tuple #[.slice a' (lenAt l p) c', .int .i64 ((p + 4 + lenAt l p : Nat) : Int), .int .i64 0]) ∧
      Own w' w.heap.size 5 1 a' (lenAt l p) c' (bvs ((l.drop (p + 4)).take (lenAt l p))) ∧ Below w.heap.size w w' := by
  have hg := rget_ok a c L l p 4 A 4 w hs hL hA rfl (by omega) hc (by omega) (by omega) h3
  rw [show numOf ((l.drop p).take 4) = lenAt l p from rfl] at hg
  have hsub : Src w (if c = p + 4 then a else a.map fun x => x.add (p + 4)) (bvs ((l.drop (p + 4)).take (lenAt l p))) := by
    rw [bvs_take, bvs_drop]
    exact (src_drop hs c (p + 4) (by rw [bvs_length]; omega)).take _
  have hsl : ((l.drop (p + 4)).take (lenAt l p)).length = lenAt l p := by simp; omega
  generalize (l.drop (p + 4)).take (lenAt l p) = m at *
  generalize lenAt l p = n at *
  have Hg := Lib.hid hg
  have Hsl := Lib.hid hsl
  clear hg hs hL hA hsl
  by_cases hcp : c = p + 4
  · rw [if_pos hcp] at hsub
    subst hcp
    go_enter Try.func34, Try.ntmps34
    go_wp2_with fail
    refine Hg.out.mono ?_
    rintro e w1 ⟨rfl, rfl⟩
    go_wp2_with fail
    refine (twin_at a _ n m w hsub Hsl.out.symm (by omega)).mono ?_
    rintro e w2 ⟨a', c', rfl, hown, hb⟩
    go_wp2
    go_ret3
    exact ⟨a', c', by go_num, hown, hb⟩
  · rw [if_neg hcp] at hsub
    go_enter Try.func34, Try.ntmps34
    go_wp2_with fail
    refine Hg.out.mono ?_
    rintro e w1 ⟨rfl, rfl⟩
    go_wp2_with fail
    refine (twin_at _ _ n m w hsub Hsl.out.symm (by omega)).mono ?_
    rintro e w2 ⟨a', c', rfl, hown, hb⟩
    go_wp2
    go_ret3
    exact ⟨a', c', by go_num, hown, hb⟩

/-- SpoilBytes writes what the caller owns, nothing else. -/
theorem spoil_any (B : Nat) (a : Option Addr) (c n : Nat) (l : List Byte) (w : World) (ho : Own w B 5 1 a n c (bvs l)) (hn : n = l.length) (hl : n ≤ 140737488355328) :
    Calls Try.prog 29 #[.slice a n c] w fun e w' => e = .returned (.tuple #[]) ∧ Below B w w' := by
  have Hn := Lib.hid hn
  clear hn
  go_enter Try.func29, Try.ntmps29
  go_wp2_with fail
  go_loopw [2] (fun i wr => ∃ (j : Nat) (m : List Byte), j ≤ n ∧ i = .int .i64 (j : Int) ∧ m.length = n ∧ Own wr B 5 1 a n c (bvs m) ∧ Below B w wr) (fun i _ => n - (intOf i).toNat)
  case atStart => exact ⟨0, l, by omega, rfl, Hn.out.symm, ho, Below.refl _ _⟩
  case round =>
    rename_i wr
    obtain ⟨j, m, hj, rfl, hm, hown, hb⟩ := hrel
    by_cases hlt : j < n
    · obtain ⟨g, rfl, hbg, hlg, hat, hfz⟩ := hown.at hlt
      have hc1 := hat j (by rw [bvs_length]; omega)
      have hf1 := hfz j
      rw [bvs_get m j (by rw [bvs_length]; omega)] at hc1
      generalize m[j]'(by omega) = x at hc1
      have Hm := Lib.hid hm
      clear hat hfz hm
      have hx := x.isLt
      go_wp2_with fail
      go_roundw
      case rel =>
        have ev : Value.int IntKind.u8 ((((x.toNat : Nat) : Int) + 101) % 256) = .int .u8 (((BitVec.ofNat 8 (x.toNat + 101)).toNat : Nat) : Int) := by
          rw [BitVec.toNat_ofNat]; congr 1
        refine ⟨j + 1, m.set j (BitVec.ofNat 8 (x.toNat + 101)), by omega, by go_num, by rw [List.length_set]; exact Hm.out, ?_, hb.setCell hbg _⟩
        rw [← bvs_set, ev]
        exact hown.set j _ hlt
      case measure => simp [intOf] <;> omega
    · obtain rfl : j = n := by omega
      go_wp2
      go_end0
      exact ⟨rfl, hb⟩

/-! ### one answer for all arguments -/
def putR (l : List Byte) (n S : Int) : List Byte × Int := if 1 ≤ S ∧ S ≤ 7 ∧ 0 ≤ n ∧ n < 256 ^ S.toNat then (l ++ be n.toNat S.toNat, 0) else ([], 1)
def getR (l : List Byte) (A S : Int) : Int × Int × Int :=
  if 1 ≤ S ∧ S ≤ 7 ∧ 0 ≤ A ∧ A ≤ (l.length : Int) then (if (l.length : Int) - A < S then (0, 0, 3) else (((numOf ((l.drop A.toNat).take S.toNat) : Nat) : Int), A + S, 0)) else (0, 0, 1)
def getpR (l : List Byte) (A : Int) : List Byte × Int × Int :=
  if 0 ≤ A ∧ A ≤ (l.length : Int) then (if (l.length : Int) - A < 4 then ([], 0, 3) else
    if 30000 < lenAt l A.toNat ∨ l.length - (A.toNat + 4) < lenAt l A.toNat then ([], 0, 3) else ((l.drop (A.toNat + 4)).take (lenAt l A.toNat), ((A.toNat + 4 + lenAt l A.toNat : Nat) : Int), 0)) else ([], 0, 1)
def PutsX (f : Nat) : Prop := ∀ (a : Option Addr) (c L : Nat) (l : List Byte) (n S : Int) (w : World), Src w a (bvs l) → L = l.length → L ≤ 2000 →
  Calls Try.prog f #[.slice a L c, .int .i64 n, .int .i64 S] w fun e w' => ∃ a' c', e = .returned (.tuple #[.slice a' (putR l n S).1.length c', .int .i64 (putR l n S).2]) ∧ Own w' w.heap.size 5 1 a' (putR l n S).1.length c' (bvs (putR l n S).1) ∧ Below w.heap.size w w'
def GetsX (f : Nat) : Prop := ∀ (a : Option Addr) (c L : Nat) (l : List Byte) (A S : Int) (w : World), Src w a (bvs l) → L = l.length → L ≤ 2000 → L ≤ c →
  Calls Try.prog f #[.slice a L c, .int .i64 A, .int .i64 S] w fun e w' => e = .returned (.tuple #[.int .i64 (getR l A S).1, .int .i64 (getR l A S).2.1, .int .i64 (getR l A S).2.2]) ∧ w = w'
def GetsPX (f : Nat) : Prop := ∀ (a : Option Addr) (c L : Nat) (l : List Byte) (A : Int) (w : World), Src w a (bvs l) → L = l.length → L ≤ 2000 → L ≤ c →
  Calls Try.prog f #[.slice a L c, .int .i64 A] w fun e w' => ∃ a' c', e = .returned (.tuple #[.slice a' (getpR l A).1.length c', .int .i64 (getpR l A).2.1, .int .i64 (getpR l A).2.2]) ∧ Own w' w.heap.size 5 1 a' (getpR l A).1.length c' (bvs (getpR l A).1) ∧ Below w.heap.size w w'
theorem toNat_of {x : Int} (h : 0 ≤ x) : x = ((x.toNat : Nat) : Int) := by omega
theorem putR_len (l : List Byte) (n S : Int) : (putR l n S).1.length ≤ l.length + 7 := by
  unfold putR; split
  · rename_i h; simp [be_length]; omega
  · simp
theorem getpR_len (l : List Byte) (A : Int) : (getpR l A).1.length ≤ l.length := by
  unfold getpR; split
  · split
    · simp
    · split <;> simp; omega
  · simp
theorem puts_bin : PutsX 25 := by
  intro a c L l n S w hs hL hl
  unfold putR
  split
  · rename_i h
    have hp : n.toNat < 256 ^ S.toNat := by
      have h2 := h.2.2.2
      rw [toNat_of h.2.2.1, show (256 : Int) ^ S.toNat = ((256 ^ S.toNat : Nat) : Int) by simp] at h2
      omega
    refine (put_ok a c L l n.toNat S.toNat n S w hs hL (toNat_of h.2.2.1) (toNat_of (by omega)) (by omega) (by omega) (by omega) hp).mono ?_
    rintro e w1 ⟨a1, c1, rfl, ho, hb⟩
    have hlen : (l ++ be n.toNat S.toNat).length = L + S.toNat := by simp [be_length, hL]
    exact ⟨a1, c1, by simp only [hlen], by simp only [hlen]; exact ho, hb⟩
  · rename_i h
    refine (put_no a L c n S w h).mono ?_
    rintro e w1 ⟨rfl, rfl⟩
    exact ⟨none, 0, rfl, Own.nil _ _ _ _ _, Below.refl _ _⟩
theorem puts_ref : PutsX 28 := by
  intro a c L l n S w hs hL hl
  unfold putR
  split
  · rename_i h
    have hp : n.toNat < 256 ^ S.toNat := by
      have h2 := h.2.2.2
      rw [toNat_of h.2.2.1, show (256 : Int) ^ S.toNat = ((256 ^ S.toNat : Nat) : Int) by simp] at h2
      omega
    refine (rput_ok a c L l n.toNat S.toNat n S w hs hL (toNat_of h.2.2.1) (toNat_of (by omega)) (by omega) (by omega) (by omega) hp).mono ?_
    rintro e w1 ⟨a1, c1, rfl, ho, hb⟩
    have hlen : (l ++ be n.toNat S.toNat).length = L + S.toNat := by simp [be_length, hL]
    exact ⟨a1, c1, by simp only [hlen], by simp only [hlen]; exact ho, hb⟩
  · rename_i h
    refine (rput_no a L c n S w h).mono ?_
    rintro e w1 ⟨rfl, rfl⟩
    exact ⟨none, 0, rfl, Own.nil _ _ _ _ _, Below.refl _ _⟩
theorem gets_bin : GetsX 27 := by
  intro a c L l A S w hs hL hl hc
  unfold getR
  rw [← hL]
  split
  · rename_i h
    split
    · rename_i h2
      exact get_few a L c A S w (by omega) h.1 h.2.1 h.2.2.1 h.2.2.2 h2
    · rename_i h2
      have := get_ok a c L l A.toNat S.toNat A S w hs hL (toNat_of h.2.2.1) (toNat_of (by omega)) (by omega) hc (by omega) (by omega) (by omega)
      rwa [show ((A.toNat + S.toNat : Nat) : Int) = A + S by omega] at this
  · rename_i h
    exact get_arg a L c A S w (by omega) h
theorem gets_ref : GetsX 30 := by
  intro a c L l A S w hs hL hl hc
  unfold getR
  rw [← hL]
  split
  · rename_i h
    split
    · rename_i h2
      exact rget_few a L c A S w (by omega) h.1 h.2.1 h.2.2.1 h.2.2.2 h2
    · rename_i h2
      have := rget_ok a c L l A.toNat S.toNat A S w hs hL (toNat_of h.2.2.1) (toNat_of (by omega)) (by omega) hc (by omega) (by omega) (by omega)
      rwa [show ((A.toNat + S.toNat : Nat) : Int) = A + S by omega] at this
  · rename_i h
    exact rget_arg a L c A S w (by omega) h
theorem getsP_bin : GetsPX 33 := by
  intro a c L l A w hs hL hl hc
  unfold getpR
  rw [← hL]
  split
  · rename_i h
    split
    · rename_i h2
      refine (getpart_few a L c A w (by omega) h.1 h.2 h2).mono ?_
      rintro e w1 ⟨rfl, rfl⟩
      exact ⟨none, 0, rfl, Own.nil _ _ _ _ _, Below.refl _ _⟩
    · split
      · rename_i h2 h3
        refine (getpart_bad a c L l A.toNat A w hs hL (toNat_of h.1) (by omega) hc (by omega) h3).mono ?_
        rintro e w1 ⟨rfl, rfl⟩
        exact ⟨none, 0, rfl, Own.nil _ _ _ _ _, Below.refl _ _⟩
      · rename_i h2 h3
        have hla : ((l.drop (A.toNat + 4)).take (lenAt l A.toNat)).length = lenAt l A.toNat := by simp; omega
        refine (getpart_ok a c L l A.toNat A w hs hL (toNat_of h.1) (by omega) hc (by omega) (by omega) (by omega)).mono ?_
        rintro e w1 ⟨a1, c1, rfl, ho, hb⟩
        exact ⟨a1, c1, by simp only [hla], by simp only [hla]; exact ho, hb⟩
  · rename_i h
    refine (getpart_arg a L c A w (by omega) h).mono ?_
    rintro e w1 ⟨rfl, rfl⟩
    exact ⟨none, 0, rfl, Own.nil _ _ _ _ _, Below.refl _ _⟩
theorem getsP_ref : GetsPX 34 := by
  intro a c L l A w hs hL hl hc
  unfold getpR
  rw [← hL]
  split
  · rename_i h
    split
    · rename_i h2
      refine (rgetpart_few a L c A w (by omega) h.1 h.2 h2).mono ?_
      rintro e w1 ⟨rfl, rfl⟩
      exact ⟨none, 0, rfl, Own.nil _ _ _ _ _, Below.refl _ _⟩
    · split
      · rename_i h2 h3
        refine (rgetpart_bad a c L l A.toNat A w hs hL (toNat_of h.1) (by omega) hc (by omega) h3).mono ?_
        rintro e w1 ⟨rfl, rfl⟩
        exact ⟨none, 0, rfl, Own.nil _ _ _ _ _, Below.refl _ _⟩
      · rename_i h2 h3
        have hla : ((l.drop (A.toNat + 4)).take (lenAt l A.toNat)).length = lenAt l A.toNat := by simp; omega
        refine (rgetpart_ok a c L l A.toNat A w hs hL (toNat_of h.1) (by omega) hc (by omega) (by omega) (by omega)).mono ?_
        rintro e w1 ⟨a1, c1, rfl, ho, hb⟩
        exact ⟨a1, c1, by simp only [hla], by simp only [hla]; exact ho, hb⟩
  · rename_i h
    refine (rgetpart_arg a L c A w (by omega) h).mono ?_
    rintro e w1 ⟨rfl, rfl⟩
    exact ⟨none, 0, rfl, Own.nil _ _ _ _ _, Below.refl _ _⟩
end Go.Proofs.Ytobgiapfehffcaa
