/- The law BinExact, walked. -/
import Derived.Test.YtobgiapfehffcaaBinRef
namespace Go.Proofs.Ytobgiapfehffcaa
open Go.RowKit

set_option maxRecDepth 100000 in
set_option maxHeartbeats 8000000 in
theorem binExact_walk (w : World) (a : Option Addr) (c : Nat) (l : List Byte) (hs : Src w a (bvs l)) (hl : l.length ≤ 9223372036854775807) (k0 : l.length ≤ c) (b : Option Addr) (d : Nat) (m : List Byte) (ht : Src w b (bvs m)) (hm : m.length ≤ 9223372036854775807) (k1 : m.length ≤ d) (n : Int) (wn : (Lit.int .i64 n).wf = true) (at_ : Int) (wa : (Lit.int .i64 at_).wf = true) (size : Int) (ws : (Lit.int .i64 size).wf = true) :
    Calls Try.prog 10 #[.slice a l.length c, .slice b m.length d, .int .i64 n, .int .i64 at_, .int .i64 size] w fun e w' => e = .returned (.bool true) ∧ Below w.heap.size w w' := by
  clear wn wa ws
  by_cases h50 : l.length ≤ 2000 ∧ m.length ≤ 2000
  · obtain ⟨l2, m2⟩ := h50
    go_enter Try.func10, Try.ntmps10
    go_wp2_with fail
    refine (twin_at a c l.length l w hs rfl (by omega)).mono ?_
    rintro e w1 ⟨ai, ci, rfl, hin1, hb1⟩
    have ht1 := ht.ext hb1
    go_wp2_with fail
    refine (twin_at b d m.length m w1 ht1 rfl (by omega)).mono ?_
    rintro e w2 ⟨ap, cp, rfl, hp2, hb2⟩
    have kin := hin1.len.1
    have hin2 := (hin1.ext hb2).src
    have hp2' := hp2.src
    have hb12 := bthen hb1 hb2 (Nat.le_refl _)
    have hs2 := hs.ext hb12
    have ht2 := ht.ext hb12
    clear hin1 hp2 hs ht ht1 hb1 hb2
    -- Put
    go_wp2_with fail
    refine (puts_bin ai ci l.length l n size w2 hin2 rfl l2).mono ?_
    rintro e w3 ⟨ax, cx, rfl, hx3, hb3⟩
    have hs3 := hs2.ext hb3
    go_wp2_with fail
    refine (puts_ref a c l.length l n size w3 hs3 rfl l2).mono ?_
    rintro e w4 ⟨ay, cy, rfl, hy4, hb4⟩
    have hx4 := hx3.ext hb4
    have hxl := putR_len l n size
    have hb34 := bthen hb3 hb4 (Nat.le_refl _)
    have hy4s := hy4.src
    have hx4s := hx4.src
    clear hx3 hs3 hy4 hb3 hb4
    generalize (putR l n size).1 = X at *
    generalize (putR l n size).2 = E at *
    go_wp2_with fail
    refine (bytes_at ax cx X ay cy X w4 _ _ true hx4s hy4s rfl rfl (by omega) (by omega) (by simp)).mono ?_
    rintro e w5 ⟨rfl, n5, rfl⟩
    have hx5 := hx4.ext (ext_drewN w4 n5 _)
    have hb35 := below_drewN hb34 n5
    clear hx4 hx4s hy4s hb34
    go_wp2_with fail
    refine (spoil_any w2.heap.size ax cx X.length X _ hx5 rfl (by omega)).mono ?_
    rintro e w6 ⟨rfl, hb6⟩
    have hb36 := hb35.trans hb6
    have hin6 := hin2.ext hb36
    have hs6 := hs2.ext hb36
    clear hb35 hb6 hx5 hxl
    -- Get
    go_wp2_with fail
    refine (gets_bin ai ci l.length l at_ size w6 hin6 rfl l2 kin).mono ?_
    rintro e w7 ⟨rfl, rfl⟩
    go_wp2_with fail
    refine (gets_ref a c l.length l at_ size w6 hs6 rfl l2 k0).mono ?_
    rintro e w7 ⟨rfl, rfl⟩
    generalize (getR l at_ size).1 = g1 at *
    generalize (getR l at_ size).2.1 = g2 at *
    generalize (getR l at_ size).2.2 = g3 at *
    have hp6 := hp2'.ext hb36
    have ht6 := ht2.ext hb36
    -- PutPart
    go_wp2_with fail
    refine (putpart_ok ai ap l.length m.length ci cp l m w6 hin6 hp6 rfl rfl (by omega) (by omega)).mono ?_
    rintro e w8 ⟨ax, cx, rfl, hx8, hb8⟩
    have hs8 := hs6.ext hb8
    have ht8 := ht6.ext hb8
    go_wp2_with fail
    refine (rputpart_ok a b l.length m.length c d l m w8 hs8 ht8 rfl rfl (by omega) (by omega)).mono ?_
    rintro e w9 ⟨ay, cy, rfl, hy9, hb9⟩
    have hx9 := hx8.ext hb9
    have hb89 := bthen hb8 hb9 (Nat.le_refl _)
    have hy9s := hy9.src
    have hx9s := hx9.src
    have hXl : Hid (l.length + 4 + m.length = (l ++ be m.length 4 ++ m).length) := Lib.hid (by simp [be_length]; omega)
    have hXb : l.length + 4 + m.length ≤ 5000 := by omega
    clear hx8 hs8 ht8 hy9 hb8 hb9
    generalize (l ++ be m.length 4 ++ m) = Y at *
    go_wp2_with fail
    refine (bytes_at ax cx Y ay cy Y w9 _ _ true hx9s hy9s hXl.out hXl.out (by omega) (by omega) (by simp)).mono ?_
    rintro e w10 ⟨rfl, n10, rfl⟩
    have hx10 := hx9.ext (ext_drewN w9 n10 _)
    have hb810 := below_drewN hb89 n10
    clear hx9 hx9s hy9s hb89
    go_wp2_with fail
    refine (spoil_any w6.heap.size ax cx _ Y _ hx10 hXl.out (by omega)).mono ?_
    rintro e w11 ⟨rfl, hb11⟩
    have hb611 := hb810.trans hb11
    have hin11 := hin6.ext hb611
    have hs11 := hs6.ext hb611
    clear hb810 hb11 hx10 hXl
    have hb211 := bthen hb36 hb611 (Nat.le_refl _)
    -- GetPart
    go_wp2_with fail
    refine (getsP_bin ai ci l.length l at_ w11 hin11 rfl l2 kin).mono ?_
    rintro e w12 ⟨ax, cx, rfl, hx12, hb12'⟩
    have hs12 := hs11.ext hb12'
    go_wp2_with fail
    refine (getsP_ref a c l.length l at_ w12 hs12 rfl l2 k0).mono ?_
    rintro e w13 ⟨ay, cy, rfl, hy13, hb13⟩
    have hx13 := hx12.ext hb13
    have hxl := getpR_len l at_
    have hb1213 := bthen hb12' hb13 (Nat.le_refl _)
    have hy13s := hy13.src
    have hx13s := hx13.src
    clear hx12 hs12 hy13 hb12' hb13
    generalize (getpR l at_).1 = Z at *
    generalize (getpR l at_).2.1 = z1 at *
    generalize (getpR l at_).2.2 = z2 at *
    go_wp2_with fail
    refine (bytes_at ax cx Z ay cy Z w13 _ _ true hx13s hy13s rfl rfl (by omega) (by omega) (by simp)).mono ?_
    rintro e w14 ⟨rfl, n14, rfl⟩
    have hx14 := hx13.ext (ext_drewN w13 n14 _)
    have hb1214 := below_drewN hb1213 n14
    clear hx13 hx13s hy13s hb1213
    go_wp2_with fail
    refine (spoil_any w11.heap.size ax cx Z.length Z _ hx14 rfl (by omega)).mono ?_
    rintro e w15 ⟨rfl, hb15⟩
    have hb1115 := hb1214.trans hb15
    have hb215 := bthen hb211 hb1115 (Nat.le_refl _)
    have hin15 := hin2.ext hb215
    have hs15 := hs2.ext hb215
    have hp15 := hp2'.ext hb215
    have ht15 := ht2.ext hb215
    clear hb1214 hb15 hx14 hxl
    go_wp2_with fail
    refine (bytes_at ai ci l a c l w15 _ _ true hin15 hs15 rfl rfl (by omega) (by omega) (by simp)).mono ?_
    rintro e w16 ⟨rfl, n16, rfl⟩
    have hp16 := hp15.ext (ext_drewN w15 n16 _)
    have ht16 := ht15.ext (ext_drewN w15 n16 _)
    go_wp2_with fail
    refine (bytes_at ap cp m b d m _ _ _ true hp16 ht16 rfl rfl (by omega) (by omega) (by simp)).mono ?_
    rintro e w17 ⟨rfl, n17, rfl⟩
    go_wp2_with fail
    refine (wakes01_any _).mono ?_
    rintro e w18 ⟨rfl, hb18⟩
    go_wp2
    go_ret
    exact ⟨rfl, bthen hb12 (bthen hb215 (bthen (below_drewN (Below.refl _ _) (n16 + n17)) hb18 (Nat.le_refl _)) (Nat.le_refl _)) (Nat.le_refl _)⟩
  · rcases (show 2000 < l.length ∨ (l.length ≤ 2000 ∧ 2000 < m.length) by omega) with h | ⟨h, h'⟩
    all_goals
      clear h50
      go_enter Try.func10, Try.ntmps10
      go_wp2
      go_ret
      exact ⟨rfl, Below.refl _ _⟩
end Go.Proofs.Ytobgiapfehffcaa
