/- cellarerlaw06.wakes. -/
import Derived.Test.YtffcpjhokfjhfaaFrameSplit
namespace Go.Proofs.Ytffcpjhokfjhfaa
open Go.RowKit

set_option maxRecDepth 100000

theorem readF_frame0 (r : Rec) (h : r.e = 0) : readF (frameOf r) 0 = (r, ((13 + r.d.length : Nat) : Int), 0) := by
  have := readF_frame [] [] r h
  simpa using this

set_option maxHeartbeats 1000000 in
theorem wakes06_any (w : World) :
    Calls Try.prog 20 #[] w fun e w' => e = .returned (.bool true) ∧ Below w.heap.size w w' := by
  have h0 : (⟨1, 7, []⟩ : Rec).e = 0 := by decide
  have hl : (frameOf ⟨1, 7, []⟩).length = 13 := frameOf_length _
  have HB : Hid (∀ w, Calls Try.prog 13 #[.agg #[.int .i64 1, .int .i64 7, .slice none 0 0]] w fun e w' => ∃ a' c', e = .returned (.tuple #[.slice a' 13 c', .int .i64 0]) ∧ Own w' w.heap.size 5 1 a' 13 c' (bvs (frameOf ⟨1, 7, []⟩)) ∧ Below w.heap.size w w') :=
    Lib.hid fun w => frbytes_at ⟨1, 7, ⟨none, 0, []⟩⟩ 0 (frameOf ⟨1, 7, []⟩) 13 w ⟨Src.nil _ _, by simp⟩ h0 (if_pos h0) hl
  have HR : Hid (readF (frameOf ⟨1, 7, []⟩) 0 = (⟨1, 7, []⟩, 13, 0)) := Lib.hid (by rw [readF_frame0 _ h0]; rfl)
  have HL := Lib.hid hl
  clear h0 hl
  generalize frameOf ⟨1, 7, []⟩ = l at *
  go_enter Try.func20, Try.ntmps20
  go_wp2_with fail
  refine (HB.out _).mono ?_
  rintro e w1 ⟨a1, c1, rfl, ho1, hb1⟩
  have hs1 := ho1.src
  have hlc := ho1.len.1
  clear ho1
  go_wp2_with fail
  refine (frread_at a1 13 c1 l 0 _ _ _ w1 hs1 HL.out.symm hlc (by omega) HR.out).mono ?_
  rintro e w2 ⟨a2, c2, rfl, ho2, hb2⟩
  simp only [List.length_nil]
  have hput := RecAt.put w2 #[.int .i64 0, .int .i64 0, .slice none 0 0] rfl ⟨1, 7, ⟨a2, c2, []⟩⟩
  have hbp := below_putr w2 #[.int .i64 0, .int .i64 0, .slice none 0 0] ⟨1, 7, ⟨a2, c2, []⟩⟩
  simp only [List.length_nil] at hbp
  have hput : RecAt _ w2.heap.size ⟨1, 7, ⟨a2, c2, []⟩⟩ := hput
  obtain ⟨k0, k1, k2⟩ := hput.cells
  have hb := bthen (bthen hb1 hb2 (Nat.le_refl _)) hbp (Nat.le_refl _)
  simp only [List.length_nil] at k0 k1 k2
  clear hput hbp ho2
  go_wp2_with (refine wpList_store_row rfl rfl 29 (.tmp 3) (.tmp 14) rfl w2.heap.size rfl 29 #[.int .i64 0, .int .i64 0, .slice none 0 0] #[.int .i64 1, .int .i64 7, .slice a2 0 c2] rfl (heap_alloc_new w2 _) rfl (by kernel_rfl) (by simp [Value.oneCell']) ?_)
  go_ret
  exact ⟨rfl, hb⟩
end Go.Proofs.Ytffcpjhokfjhfaa
