/- cellarerkeep.SpoilBytes, with a frame by blocks: one block of bytes alone is written. -/
import Derived.Test.YtclkkhpnnbkfmaaKeep
import Derived.Test.YtclkkhpnnbkfmaaMod
namespace Go.Proofs.Ytclkkhpnnbkfmaa
open Go.RowKit

/-- The one block of a slice of bytes. -/
abbrev UF (a : Option Addr) : Nat → TypeId → Prop := fun b T => a = some ⟨b, 0, none⟩ ∧ T = 5
set_option maxHeartbeats 1000000 in
theorem spoil_mod (B : Nat) (a : Option Addr) (c n : Nat) (l : List Byte) (w : World) (ho : Own w B 5 1 a n c (bvs l)) (hn : n = l.length) (hl : n ≤ 140737488355328) :
    Calls Try.prog 62 #[.slice a n c] w fun e w' => e = .returned (.tuple #[]) ∧ Mod (UF a) w w' ∧ Below B w w' := by
  have Hn := Lib.hid hn
  clear hn
  go_enter Try.func62, Try.ntmps62
  go_wp2_with fail
  go_loopw [2] (fun i wr => ∃ (j : Nat) (m : List Byte), j ≤ n ∧ i = .int .i64 (j : Int) ∧ m.length = n ∧ Own wr B 5 1 a n c (bvs m) ∧ Mod (UF a) w wr ∧ Below B w wr) (fun i _ => n - (intOf i).toNat)
  case atStart => exact ⟨0, l, by omega, rfl, Hn.out.symm, ho, Mod.refl _ _, Below.refl _ _⟩
  case round =>
    rename_i wr
    obtain ⟨j, m, hj, rfl, hm, hown, hb, hbl⟩ := hrel
    by_cases hlt : j < n
    · obtain ⟨g, rfl, hbg, hlg, hat, hfz⟩ := hown.at hlt
      have hc1 := hat j (by rw [bvs_length]; omega)
      have hf1 := hfz j
      obtain ⟨_, _, cur, hcur⟩ := hown.blk (by omega)
      rw [bvs_get m j (by rw [bvs_length]; omega)] at hc1
      generalize m[j]'(by omega) = x at hc1
      have Hm := Lib.hid hm
      have Hc := Lib.hid hcur
      clear hat hfz hm hcur
      have hx := x.isLt
      go_wp2_with fail
      go_roundw
      case rel =>
        have ev : Value.int IntKind.u8 ((((x.toNat : Nat) : Int) + 101) % 256) = .int .u8 (((BitVec.ofNat 8 (x.toNat + 101)).toNat : Nat) : Int) := by
          rw [BitVec.toNat_ofNat]; congr 1
        refine ⟨j + 1, m.set j (BitVec.ofNat 8 (x.toNat + 101)), by omega, by go_num, by rw [List.length_set]; exact Hm.out, ?_, hb.setCell Hc.out ⟨rfl, rfl⟩ _ _, hbl.setCell hbg _⟩
        rw [← bvs_set, ev]
        exact hown.set j _ hlt
      case measure => simp [intOf] <;> omega
    · obtain rfl : j = n := by omega
      go_wp2
      go_end0
      exact ⟨rfl, hb, hbl⟩
theorem UF_no (a : Option Addr) {T' : TypeId} (hT : T' ≠ 5) : ∀ b T, UF a b T → T ≠ T' := by
  rintro b T ⟨_, rfl⟩ h; exact hT h.symm
end Go.Proofs.Ytclkkhpnnbkfmaa
