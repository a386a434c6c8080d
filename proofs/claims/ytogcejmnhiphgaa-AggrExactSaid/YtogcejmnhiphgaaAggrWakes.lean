/- cellarerlaw15.wakes. -/
import Derived.Test.YtogcejmnhiphgaaAggrPlain
namespace Go.Proofs.Ytogcejmnhiphgaa
open Go.RowKit

theorem wk15 : (wholeP 32 [⟨1, 0, []⟩]).2 = 0 := by
  have h : joinE (aggrL [⟨1, 0, []⟩]) = 0 := by decide
  unfold wholeP
  rw [if_neg (by decide), if_neg (by decide), if_neg (by rw [h]; decide), if_neg (by decide)]
theorem wk15_len : (rowsC (wholeP 32 [⟨1, 0, []⟩]).1 (32 : Int).toNat).length = 2 := by
  obtain ⟨_, _, _, _, h⟩ := wholeP_ok wk15
  rw [rowsC_len, h]
  have : (joinB (aggrL [⟨1, 0, []⟩])).length = 39 := by
    simp [aggrL, joinB_cons, frameOf_length, joinB]
  rw [this]
  decide
theorem wk15_pack : packP 32 [⟨1, 0, []⟩] = (rowsC (wholeP 32 [⟨1, 0, []⟩]).1 (32 : Int).toNat, [13], 0) := by
  unfold packP
  rw [if_neg (by rw [wk15]; decide)]
  rfl
theorem wk15_need : needP 32 [⟨1, 0, []⟩] = (2, 0) := by
  rw [needP_pack wk15, wk15_len]
  rfl
set_option maxRecDepth 100000 in
set_option maxHeartbeats 2000000 in
theorem wakes15_any (w : World) :
    Calls Try.prog 16 #[] w fun e w' => e = .returned (.bool true) ∧ Below w.heap.size w w' := by
  have hz : recs [⟨1, 0, ⟨none, 0, []⟩⟩] = [⟨1, 0, []⟩] := rfl
  have hmat : ∀ w : World, RMat (w.alloc (.cells #[.int .i64 1, .int .i64 0, .slice none 0 0] 39)) (some ⟨w.heap.size, 0, none⟩) [⟨1, 0, ⟨none, 0, []⟩⟩] := fun w =>
    ⟨Or.inr ⟨w.heap.size, 0, _, _, _, rfl, heap_alloc_new w _, rfl⟩, fun r hr => by rw [List.mem_singleton.1 hr]; exact ⟨Src.nil _ _, by simp⟩⟩
  have HM := Lib.hid hmat
  clear hmat hz
  have hb1 := ext_alloc w (.cells #[.int .i64 1, .int .i64 0, .slice none 0 0] 39)
  go_enter Try.func16, Try.ntmps16
  go_wp2_with fail
  refine (pack_at 32 (some ⟨w.heap.size, 0, none⟩) 1 1 [⟨1, 0, ⟨none, 0, []⟩⟩] _ [13] 0 _ (HM.out w) rfl (by decide) wk15_pack).mono ?_
  rintro e w2 ⟨aB, m, cB, aO, no, cO, bs, rfl, hP, hb2⟩
  obtain ⟨hx1, hm, hno, hx2, hx3⟩ := hP.len
  clear hx1 hx2 hx3
  rw [wk15_len] at hm
  obtain rfl : no = 1 := hno
  subst hm
  have hB2 := bthen hb1 hb2 (Nat.le_refl _)
  have hO := hP.offs
  have HB2 := Lib.hid hB2
  have HO := Lib.hid hO
  clear hP hb2 hB2 hO hb1
  go_wp2_with fail
  have hb3 := ext_alloc w2 (.cells #[.int .i64 1, .int .i64 0, .slice none 0 0] 39)
  refine (need_at 32 (some ⟨w2.heap.size, 0, none⟩) 1 1 [⟨1, 0, ⟨none, 0, []⟩⟩] 2 0 _ (HM.out w2) rfl (by decide) wk15_need).mono ?_
  rintro e w4 ⟨rfl, hb4⟩
  have hB4 := bthen (bthen HB2.out hb3 (Nat.le_refl _)) hb4 (Nat.le_refl _)
  have hO4 := (HO.out.ext hb3).ext hb4
  obtain ⟨x, rfl, _, _, hat, _⟩ := hO4.at (i := 0) (by decide)
  have r0 : w4.cell? ⟨x, 0, none⟩ = some (.int .i64 13) := hat 0 (by decide)
  clear hat hO4 hb3 hb4 HO
  go_wp2
  go_ret
  exact ⟨rfl, hB4⟩
end Go.Proofs.Ytogcejmnhiphgaa
