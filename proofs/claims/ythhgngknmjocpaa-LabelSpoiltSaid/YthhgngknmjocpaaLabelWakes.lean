/- A label that lies in memory; cellarerlaw14.wakes. -/
import Derived.Test.YthhgngknmjocpaaLabelRead
namespace Go.Proofs.Ythhgngknmjocpaa
open Go.RowKit

set_option maxRecDepth 100000

/-- In block g stands the label. -/
def LabAt (w : World) (g : Nat) (v p e : Int) : Prop := w.heap[g]? = some (.cells #[.int .i64 v, .int .i64 p, .int .i64 e] 37)
theorem LabAt.new (w : World) (v p e : Int) : LabAt (w.alloc (.cells #[.int .i64 v, .int .i64 p, .int .i64 e] 37)) w.heap.size v p e := heap_alloc_new w _
theorem LabAt.put (w : World) (v p e : Int) : LabAt ((w.alloc (.cells #[.int .i64 0, .int .i64 0, .int .i64 0] 37)).setRow w.heap.size #[.int .i64 v, .int .i64 p, .int .i64 e]) w.heap.size v p e :=
  setRow_heap _ _ _ _ _ _ (heap_alloc_new w _)
theorem below_put (w : World) (v p e : Int) : Below w.heap.size w ((w.alloc (.cells #[.int .i64 0, .int .i64 0, .int .i64 0] 37)).setRow w.heap.size #[.int .i64 v, .int .i64 p, .int .i64 e]) :=
  bsetRow (ext_alloc w _) (Nat.le_refl _) _
theorem LabAt.cells {w : World} {g : Nat} {v p e : Int} (h : LabAt w g v p e) : w.cell? ⟨g, 0, none⟩ = some (.int .i64 v) ∧ w.cell? ⟨g, 1, none⟩ = some (.int .i64 p) ∧ w.cell? ⟨g, 2, none⟩ = some (.int .i64 e) :=
  ⟨cell_of_row w g 0 _ _ _ h, cell_of_row w g 1 _ _ _ h, cell_of_row w g 2 _ _ _ h⟩
theorem LabAt.ext {w w' : World} {g : Nat} {v p e : Int} (h : LabAt w g v p e) (hb : Below w.heap.size w w') : LabAt w' g v p e := (hb.block g (heap_lt h)).trans h
theorem LabAt.drewN {w : World} {g : Nat} {v p e : Int} (h : LabAt w g v p e) (n : Nat) : LabAt (w.drewN n) g v p e := h

set_option maxHeartbeats 1000000 in
theorem wakes14_any (w : World) :
    Calls Try.prog 27 #[] w fun e w' => e = .returned (.bool true) ∧ Below w.heap.size w w' := by
  have hok : okL 3 1 9 = true := by decide
  have HB : Hid (∀ w, Calls Try.prog 24 #[labV 3 1 9] w fun r w' => ∃ a' c', r = .returned (.tuple #[.slice a' 14 c', .int .i64 0]) ∧ Own w' w.heap.size 5 1 a' 14 c' (bvs (lbytes 3 1 9)) ∧ Below w.heap.size w w') :=
    Lib.hid fun w => labbytes_at 3 1 9 0 _ 14 w (labB_ok hok) (lbytes_length _ _ _) (labE_ok hok)
  have HR : Hid (labR (lbytes 3 1 9) = (3, 1, 9, 0)) := Lib.hid (labR_lbytes hok)
  have HL : Hid ((lbytes 3 1 9).length = 14) := Lib.hid (lbytes_length _ _ _)
  clear hok
  generalize lbytes 3 1 9 = l at *
  unfold labV at *
  go_enter Try.func27, Try.ntmps27
  go_wp2_with fail
  refine (HB.out _).mono ?_
  rintro r w1 ⟨a1, c1, rfl, hown1, hb1⟩
  have hs1 := hown1.src
  have hlc := hown1.len
  clear hown1
  go_wp2_with fail
  refine (labread_at a1 14 c1 l 3 1 9 0 w1 hs1 HL.out.symm (by omega) hlc.1 HR.out).mono ?_
  rintro r w2 ⟨rfl, hb2⟩
  have hb12 := bthen hb1 hb2 (Nat.le_refl _)
  unfold labV
  have hput := LabAt.put w2 3 1 9
  have hbp := below_put w2 3 1 9
  obtain ⟨k0, k1, k2⟩ := hput.cells
  have hb := bthen hb12 hbp (Nat.le_refl _)
  clear hput hbp
  go_wp2_with (refine wpList_store_row rfl rfl 37 (.tmp 3) (.tmp 13) rfl w2.heap.size rfl 37 #[.int .i64 0, .int .i64 0, .int .i64 0] #[.int .i64 3, .int .i64 1, .int .i64 9] rfl (heap_alloc_new w2 _) rfl (by kernel_rfl) (by simp [Value.oneCell']) ?_)
  go_ret
  exact ⟨rfl, hb⟩
end Go.Proofs.Ythhgngknmjocpaa
