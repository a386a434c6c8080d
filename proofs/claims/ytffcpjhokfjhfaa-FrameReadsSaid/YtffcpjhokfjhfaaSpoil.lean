/- cellarerkeep.SpoilBytes. -/
import Derived.Test.YtffcpjhokfjhfaaKeep
namespace Go.Proofs.Ytffcpjhokfjhfaa
open Go.RowKit

/-- SpoilBytes writes what the caller owns, nothing else. -/
theorem spoil_any (B : Nat) (a : Option Addr) (c n : Nat) (l : List Byte) (w : World) (ho : Own w B 5 1 a n c (bvs l)) (hn : n = l.length) (hl : n ≤ 140737488355328) :
    Calls Try.prog 26 #[.slice a n c] w fun e w' => e = .returned (.tuple #[]) ∧ Below B w w' := by
  have Hn := Lib.hid hn
  clear hn
  go_enter Try.func26, Try.ntmps26
  go_wp2_with fail
  go_loopw [2] (fun i wr => ∃ (j : Nat) (m : List Byte), j ≤ n ∧ i = .int .i64 (j : Int) ∧ m.length = n ∧ Own wr B 5 1 a n c (bvs m) ∧ Below B w wr) (fun i _ => n - (intOf i).toNat)
  case atStart => exact ⟨0, l, by omega, rfl, Hn.out.symm, ho, Below.refl _ _⟩
  case round =>
    rename_i wr
    obtain ⟨j, m, hj, rfl, hm, hown, hb⟩ := hrel
    by_cases hlt : j < n
    · obtain ⟨g, rfl, hbg, hlg, hat, hfz⟩ := hown.at hlt
      have hc1 := hat j (by rw [bvs_length]; omega)
      have hf1 := hfz j
      rw [bvs_get m j (by rw [bvs_length]; omega)] at hc1
      generalize m[j]'(by omega) = x at hc1
      have Hm := Lib.hid hm
      clear hat hfz hm
      have hx := x.isLt
      go_wp2_with fail
      go_roundw
      case rel =>
        have ev : Value.int IntKind.u8 ((((x.toNat : Nat) : Int) + 101) % 256) = .int .u8 (((BitVec.ofNat 8 (x.toNat + 101)).toNat : Nat) : Int) := by
          rw [BitVec.toNat_ofNat]; congr 1
        refine ⟨j + 1, m.set j (BitVec.ofNat 8 (x.toNat + 101)), by omega, by go_num, by rw [List.length_set]; exact Hm.out, ?_, hb.setCell hbg _⟩
        rw [← bvs_set, ev]
        exact hown.set j _ hlt
      case measure => simp [intOf] <;> omega
    · obtain rfl : j = n := by omega
      go_wp2
      go_end0
      exact ⟨rfl, hb⟩
end Go.Proofs.Ytffcpjhokfjhfaa
