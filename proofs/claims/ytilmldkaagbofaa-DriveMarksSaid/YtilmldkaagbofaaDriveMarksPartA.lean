/- Several texts of this claim, one behind the other: MedWakes, BoxM. -/
import Derived.Test.YtilmldkaagbofaaMedOps
/- cellarerlaw07.wakes. -/
namespace Go.Proofs.Ytilmldkaagbofaa
open Go.RowKit

theorem short_of {cs : List CellV} {ps : List CellP} (h : pls cs = ps) {K : Nat} (hK : ∀ c ∈ ps, c.data.length ≤ K) : ∀ x ∈ cs, x.d.l.length ≤ K := fun x hx => hK x.pl (by rw [← h]; exact List.mem_map.2 ⟨x, hx, rfl⟩)
theorem MedR.short {w : World} {B : Nat} {M : Med} {a : Option Addr} {k c : Nat} {cs : List CellV} (h : MedR w B M a k c cs) {K : Nat} (hK : ∀ c ∈ M.cells, c.data.length ≤ K) : ∀ x ∈ cs, x.d.l.length ≤ K := short_of h.pls hK
theorem wk1 : (Med.mk 5 []).mark 0 = (⟨5, [⟨2, [], false⟩]⟩, 0) := by simp [Med.mark, Med.ok, Med.wrong, Med.lay]
theorem wk2 : (Med.mk 5 [⟨2, [], false⟩]).mark 1 = (⟨5, [⟨2, [], false⟩, ⟨2, [], false⟩]⟩, 0) := by simp [Med.mark, Med.ok, Med.wrong, Med.lay, CellP.right, rightC]
theorem wk3 : (Med.mk 5 [⟨2, [], false⟩, ⟨2, [], false⟩]).file 1 = (1, 0) := by simp [Med.file, Med.ok, CellP.right, rightC, Med.behind, behind]
theorem wk4 : (Med.mk 5 [⟨2, [], false⟩, ⟨2, [], false⟩]).files = 2 := by simp [Med.files, Med.ok, CellP.right, rightC, marks]

set_option maxRecDepth 100000 in
set_option maxHeartbeats 4000000 in
theorem wakes07_any (w : World) :
    Calls Try.prog 58 #[] w fun e w' => e = .returned (.bool true) ∧ Below w.heap.size w w' := by
  go_enter Try.func58, Try.ntmps58
  go_wp2_with fail
  refine (med_new 5 w (by decide) (by decide)).mono ?_
  rintro e w1 ⟨rfl, hb1⟩
  have hg1 := setRow_heap (w1.alloc (.cells #[.int .i64 0, .slice none 0 0] 32)) w1.heap.size _ #[.int .i64 5, .slice none 0 0] _ _ (heap_alloc_new w1 _)
  have hb2 := bthen hb1 (bsetRow (ext_alloc w1 (.cells #[.int .i64 0, .slice none 0 0] 32)) (Nat.le_refl _) #[.int .i64 5, .slice none 0 0]) (Nat.le_refl _)
  have d0 := cell_of_row _ w1.heap.size 0 _ _ _ hg1
  have d1 := cell_of_row _ w1.heap.size 1 _ _ _ hg1
  have hG : w.heap.size ≤ w1.heap.size := hb1.size
  go_wp2_with (refine wpList_store_row rfl rfl 32 (.tmp 1) (.tmp 9) rfl w1.heap.size rfl 32 #[.int .i64 0, .slice none 0 0] #[.int .i64 5, .slice none 0 0] rfl (heap_alloc_new w1 _) rfl (by kernel_rfl) (by simp [Value.oneCell']) ?_)
  generalize hw2 : World.setRow _ _ _ = w2 at *
  generalize w1.heap.size = G at *
  clear hw2 d0 d1 hb1
  refine (mark_any 5 none 0 0 [] 0 _ _ w2 (CMat.nil _ _) rfl (by decide) (by simp) (by decide) wk1).mono ?_
  rintro e w3 ⟨a3, c3, k3, cs3, rfl, hM3, hc3, hb3⟩
  have hg3 := (hb3.block _ (heap_lt hg1)).trans hg1
  have hk3 : k3 = 1 := by rw [← hM3.len, ← pls_length, hM3.pls]; rfl
  subst hk3
  have hM3' := hM3.setRow (new := #[.int .i64 5, .slice a3 1 c3]) hg3
  have hg4 := setRow_heap w3 G _ #[.int .i64 5, .slice a3 1 c3] _ _ hg3
  have hb4 := bsetRow (bthen hb2 hb3 (Nat.le_refl _)) hG #[.int .i64 5, .slice a3 1 c3]
  have d0 := cell_of_row _ G 0 _ _ _ hg4
  have d1 := cell_of_row _ G 1 _ _ _ hg4
  go_wp2_with (refine wpList_store_row rfl rfl 32 (.tmp 1) (.tmp 14) rfl G rfl 32 #[.int .i64 5, .slice none 0 0] #[.int .i64 5, .slice a3 1 c3] rfl hg3 rfl (by kernel_rfl) (by simp [Value.oneCell']) ?_)
  generalize hw4 : World.setRow _ _ _ = w4 at *
  clear hw4 d0 d1 hM3 hb3 hg3 hg1 hb2
  refine (mark_any 5 a3 c3 1 cs3 1 _ _ w4 hM3'.mat hM3'.len.symm (by decide) (hM3'.short (K := 140737488355328) (by simp)) hc3 (by rw [show medOf 5 cs3 = _ from hM3'.of, wk2])).mono ?_
  rintro e w5 ⟨a5, c5, k5, cs5, rfl, hM5, hc5, hb5⟩
  have hg5 := (hb5.block _ (heap_lt hg4)).trans hg4
  have hk5 : k5 = 2 := by rw [← hM5.len, ← pls_length, hM5.pls]; rfl
  subst hk5
  have hM5' := hM5.setRow (new := #[.int .i64 5, .slice a5 2 c5]) hg5
  have hg6 := setRow_heap w5 G _ #[.int .i64 5, .slice a5 2 c5] _ _ hg5
  have hb6 := bsetRow (bthen hb4 hb5 (Nat.le_refl _)) hG #[.int .i64 5, .slice a5 2 c5]
  have d0 := cell_of_row _ G 0 _ _ _ hg6
  have d1 := cell_of_row _ G 1 _ _ _ hg6
  go_wp2_with (refine wpList_store_row rfl rfl 32 (.tmp 1) (.tmp 19) rfl G rfl 32 #[.int .i64 5, .slice a3 1 c3] #[.int .i64 5, .slice a5 2 c5] rfl hg5 rfl (by kernel_rfl) (by simp [Value.oneCell']) ?_)
  generalize hw6 : World.setRow _ _ _ = w6 at *
  clear hw6 d0 d1 hM5 hb5 hg5 hg4 hb4 hM3'
  refine (file_any 5 a5 c5 2 cs5 1 _ _ w6 hM5'.mat hM5'.len.symm (by decide) (by decide) (by decide) (by rw [show medOf 5 cs5 = _ from hM5'.of, wk3])).mono ?_
  rintro e w7 ⟨rfl, hb7⟩
  have hg7 := (hb7.block _ (heap_lt hg6)).trans hg6
  have d0 := cell_of_row _ G 0 _ _ _ hg7
  have d1 := cell_of_row _ G 1 _ _ _ hg7
  have hM7 := hM5'.ext hb7
  have hb07 := bthen hb6 hb7 (Nat.le_refl _)
  clear hg6 hb6 hb7 hM5'
  go_wp2_with fail
  refine (files_any 5 a5 c5 2 cs5 _ w7 hM7.mat hM7.len.symm (by decide) (by rw [show medOf 5 cs5 = _ from hM7.of, wk4])).mono ?_
  rintro e w8 ⟨rfl, hb8⟩
  go_wp2
  go_ret
  exact ⟨rfl, bthen hb07 hb8 (Nat.le_refl _)⟩
end Go.Proofs.Ytilmldkaagbofaa

/- A tape in a variable. -/
namespace Go.Proofs.Ytilmldkaagbofaa
open Go.RowKit


/-- In block g stands a tape. -/
abbrev BoxM (w : World) (g : Nat) (cap : Int) (a : Option Addr) (n c : Nat) : Prop := w.heap[g]? = some (.cells #[.int .i64 cap, .slice a n c] 32 (0, 0))
theorem BoxM.ext {w w' : World} {g : Nat} {cap : Int} {a : Option Addr} {n c : Nat} (h : BoxM w g cap a n c) (hb : Below w.heap.size w w') : BoxM w' g cap a n c := (hb.block g (heap_lt h)).trans h
theorem BoxM.cells {w : World} {g : Nat} {cap : Int} {a : Option Addr} {n c : Nat} (h : BoxM w g cap a n c) : w.cell? ⟨g, 0, none⟩ = some (.int .i64 cap) ∧ w.cell? ⟨g, 1, none⟩ = some (.slice a n c) := ⟨cell_of_row w g 0 _ _ _ h, cell_of_row w g 1 _ _ _ h⟩
end Go.Proofs.Ytilmldkaagbofaa
