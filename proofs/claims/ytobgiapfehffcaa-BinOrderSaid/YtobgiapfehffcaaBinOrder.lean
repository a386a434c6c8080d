/- The law BinOrder, walked. -/
import Derived.Test.YtobgiapfehffcaaBinWakes
import Derived.Test.YtobgiapfehffcaaBinPlain
import Derived.Deep.QuietTactic
import Derived.BigQuiet
namespace Go.Proofs.Ytobgiapfehffcaa
open Go.RowKit

set_option maxRecDepth 100000 in
set_option maxHeartbeats 2000000 in
theorem binOrder_walk (w : World) (a : Int) (wa : (Lit.int .i64 a).wf = true) (b : Int) (wb : (Lit.int .i64 b).wf = true) (size : Int) (ws : (Lit.int .i64 size).wf = true) :
    Calls Try.prog 8 #[.int .i64 a, .int .i64 b, .int .i64 size] w fun e w' => e = .returned (.bool true) ∧ Below w.heap.size w w' := by
  obtain ⟨k, hk, ek⟩ := umod size 7 (by omega) (by omega)
  obtain ⟨A, hA, eA⟩ := mask_be a (1 + k) (by omega)
  obtain ⟨B, hB, eB⟩ := mask_be b (1 + k) (by omega)
  have eT := top_be (1 + k) (by omega)
  have h256 := pow256_le (s := 1 + k) (by omega)
  have hpos : 0 < 256 ^ (1 + k) := Nat.pow_pos (by omega)
  clear ws wa wb
  have EA := Lib.hid eA
  have EB := Lib.hid eB
  have ET := Lib.hid eT
  clear eA eB eT
  go_enter Try.func8, Try.ntmps8
  go_wp2_with fail
  rw [EA.out, EB.out, ET.out, ek]
  clear EA EB ET ek
  obtain ⟨s, hs⟩ : ∃ s, s = 1 + k := ⟨_, rfl⟩
  have es : (1 + (k : Int)) = (s : Int) := by omega
  rw [es]
  rw [← hs] at hA hB h256 hpos ⊢
  have hs1 : 1 ≤ s := by omega
  have hs7 : s ≤ 7 := by omega
  clear hs es hk
  obtain ⟨M, hM⟩ : ∃ M, M = 256 ^ s - 1 := ⟨_, rfl⟩
  rw [← hM]
  have hM2 : M < 256 ^ s := by omega
  have HM := Lib.hid hM
  clear hM
  refine (put_ok none 0 0 [] A s _ _ w (Src.nil _ _) rfl rfl rfl (by omega) (by omega) (by omega) hA).mono ?_
  rintro e w1 ⟨a1, c1, rfl, ho1, hb1⟩
  go_wp2_with fail
  refine (put_ok none 0 0 [] B s _ _ w1 (Src.nil _ _) rfl rfl rfl (by omega) (by omega) (by omega) hB).mono ?_
  rintro e w2 ⟨a2, c2, rfl, ho2, hb2⟩
  go_wp2_with fail
  refine (put_ok none 0 0 [] M s _ _ w2 (Src.nil _ _) rfl rfl rfl (by omega) (by omega) (by omega) hM2).mono ?_
  rintro e w3 ⟨a3, c3, rfl, ho3, hb3⟩
  have HP : Hid (∀ w, Calls Try.prog 25 #[.slice none 0 0, .int .i64 ((M : Int) + 1), .int .i64 (s : Int)] w fun e w' => e = .returned (.tuple #[.slice none 0 0, .int .i64 1]) ∧ w = w') :=
    Lib.hid fun w => put_no none 0 0 _ _ w (by
      have hM := HM.out
      rw [Int.toNat_natCast]
      intro ⟨_, _, _, h⟩
      have : ((256 ^ s : Nat) : Int) = (256 : Int) ^ s := by simp
      rw [← this] at h
      omega)
  have hx : numOf (be A s) = A := numOf_be_of_lt hA
  have hy : numOf (be B s) = B := numOf_be_of_lt hB
  have hz : be M s = List.replicate s 255#8 := by rw [HM.out]; exact be_top s
  have hlx := be_length A s
  have hly := be_length B s
  have hcm := cmpB_num (be A s) (be B s) (by rw [hlx, hly])
  rw [hx, hy] at hcm
  have h256' : M ≤ 72057594037927936 := by omega
  have hA' : A ≤ 72057594037927936 := by omega
  have hB' : B ≤ 72057594037927936 := by omega
  clear HM hM2 hA hB h256 hpos
  rw [hz] at ho3
  simp only [Nat.zero_add, List.nil_append] at ho1 ho2 ho3
  generalize be A s = x at *
  generalize be B s = y at *
  have hb13 := bthen hb1 (bthen hb2 hb3 (Nat.le_refl _)) (Nat.le_refl _)
  have hs1x := (ho1.src.ext hb2).ext hb3
  have hs2y := ho2.src.ext hb3
  have hs3z := ho3.src
  have Hlx := Lib.hid hlx
  have Hly := Lib.hid hly
  have Hcm := Lib.hid hcm
  clear ho1 ho2 ho3 hx hy hz hlx hly hcm hb1 hb2 hb3
  simp only [Nat.zero_add]
  go_wp2_with fail
  refine (HP.out w3).mono ?_
  rintro e w4 ⟨rfl, rfl⟩
  clear HP
  go_wp2_with fail
  go_loopw [16, 17] (fun v i wr => ∃ j n : Nat, j ≤ s ∧ i = .int .i64 ((s : Int) - 1 - (j : Int)) ∧ v = .int .i64 (cmpB (x.drop (s - j)) (y.drop (s - j))) ∧ wr = w3.drewN n) (fun _ i _ => (intOf i + 1).toNat)
  case atStart => exact ⟨0, 0, by omega, by go_num, by rw [List.drop_of_length_le (by rw [Hlx.out]; omega)]; rfl, rfl⟩
  case round =>
    rename_i wr
    obtain ⟨j, n, hj, rfl, rfl, rfl⟩ := hrel
    by_cases hlt : j < s
    · obtain ⟨q, hq⟩ : ∃ q, q = s - 1 - j := ⟨_, rfl⟩
      have eq1 : (s : Int) - 1 - (j : Int) = (q : Int) := by omega
      have hqs : q < s := by omega
      have hqx : q < x.length := by rw [Hlx.out]; exact hqs
      have hqy : q < y.length := by rw [Hly.out]; exact hqs
      obtain ⟨g1, o1, rfl, _, hat1⟩ := src_bytes_at hs1x hqx
      obtain ⟨g2, o2, rfl, _, hat2⟩ := src_bytes_at hs2y hqy
      obtain ⟨g3, o3, rfl, _, hat3⟩ := src_bytes_at hs3z (show q < (List.replicate s 255#8).length by simp; exact hqs)
      have hc1 := hat1 q hqx
      have hc2 := hat2 q hqy
      have hc3 := hat3 q (by simp; exact hqs)
      rw [List.getElem_replicate, show ((255#8 : Byte).toNat : Int) = 255 from rfl] at hc3
      have hcd := cmpB_drop x y q hqx hqy
      generalize x[q] = u at hc1 hcd
      generalize y[q] = v at hc2 hcd
      rw [show s - j = q + 1 by omega, eq1]
      have eq2 : s - (j + 1) = q := by omega
      have eq3 : (s : Int) - 1 - ((j + 1 : Nat) : Int) = (q : Int) - 1 := by omega
      have Hcd := Lib.hid hcd
      have Eq2 := Lib.hid eq2
      have Eq3 := Lib.hid eq3
      have i1 : (q : Int) < (s : Int) := by omega
      clear hat1 hat2 hat3 hcd eq1 eq2 eq3 hq
      generalize cmpB (x.drop (q + 1)) (y.drop (q + 1)) = r at *
      by_cases huv : u = v
      · have e1 : ((u.toNat : Int) != (v.toNat : Int)) = false := by simp [huv]
        have Huv := Lib.hid huv
        clear huv
        go_wp2_with fail
        go_quiet (fail)
        go_wp2
        go_roundw
        case rel => exact ⟨j + 1, _, by omega, by rw [Eq3.out], by rw [Eq2.out, Hcd.out, if_pos Huv.out], rfl⟩
        case measure => simp [intOf] <;> omega
      · have hne : u.toNat ≠ v.toNat := fun e => huv (BitVec.eq_of_toNat_eq e)
        have e1 : ((u.toNat : Int) != (v.toNat : Int)) = true := by simp; omega
        by_cases hlt2 : u.toNat < v.toNat
        · have e2 : decide ((u.toNat : Int) < (v.toNat : Int)) = true := by simp; omega
          have Huv := Lib.hid huv
          clear huv
          go_wp2_with fail
          go_quiet (fail)
          go_wp2_with fail
          go_quiet (fail)
          go_wp2
          go_roundw
          case rel => exact ⟨j + 1, _, by omega, by rw [Eq3.out], by rw [Eq2.out, Hcd.out, if_neg Huv.out, if_pos hlt2], rfl⟩
          case measure => simp [intOf] <;> omega
        · have e2 : decide ((u.toNat : Int) < (v.toNat : Int)) = false := by simp; omega
          have Huv := Lib.hid huv
          clear huv
          go_wp2_with fail
          go_quiet (fail)
          go_wp2_with fail
          go_quiet (fail)
          go_wp2
          go_roundw
          case rel => exact ⟨j + 1, _, by omega, by rw [Eq3.out], by rw [Eq2.out, Hcd.out, if_neg Huv.out, if_neg hlt2], rfl⟩
          case measure => simp [intOf] <;> omega
    · obtain rfl : j = s := by omega
      rw [Nat.sub_self, List.drop_zero, List.drop_zero]
      have hcm := Hcm.out
      generalize cmpB x y = r at *
      obtain ⟨q1, q2⟩ := hcm
      clear Hcm
      rcases (show A < B ∨ A = B ∨ B < A by omega) with h | h | h
      · have r1 : r < 0 := q1.2 h
        have r2 : (r == 0) = false := by simp; omega
        have r3 : (((A : Int)) == ((B : Int))) = false := by simp; omega
        clear q1 q2
        go_wp2_with fail
        refine (wakes01_any _).mono ?_
        rintro e w5 ⟨rfl, hb5⟩
        go_wp2
        go_ret
        exact ⟨rfl, bthen (below_drewN hb13 n) hb5 (Nat.le_refl _)⟩
      · have r1 : r = 0 := q2.2 h
        subst r1
        subst h
        clear q1 q2
        go_wp2_with fail
        refine (wakes01_any _).mono ?_
        rintro e w5 ⟨rfl, hb5⟩
        go_wp2
        go_ret
        exact ⟨rfl, bthen (below_drewN hb13 n) hb5 (Nat.le_refl _)⟩
      · have r1 : 0 < r := by
          have h1 : ¬ r < 0 := fun h' => by have := q1.1 h'; omega
          have h2 : ¬ r = 0 := fun h' => by have := q2.1 h'; omega
          omega
        have r2 : (r == 0) = false := by simp; omega
        have r3 : (((A : Int)) == ((B : Int))) = false := by simp; omega
        clear q1 q2
        go_wp2_with fail
        refine (wakes01_any _).mono ?_
        rintro e w5 ⟨rfl, hb5⟩
        go_wp2
        go_ret
        exact ⟨rfl, bthen (below_drewN hb13 n) hb5 (Nat.le_refl _)⟩
end Go.Proofs.Ytobgiapfehffcaa
