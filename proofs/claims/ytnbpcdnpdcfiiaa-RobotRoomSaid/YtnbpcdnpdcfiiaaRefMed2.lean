/- The page's End, Spoil, of a right tape. -/
import Derived.Test.YtnbpcdnpdcfiiaaRefMed1
namespace Go.Proofs.Ytnbpcdnpdcfiiaa
open Go.RowKit


theorem OwnM.setM {w : World} {B g c : Nat} {a : Option Addr} {cs : List CellV} {old : Array Value} (h : OwnM w B a c cs) (hg : w.heap[g]? = some (.cells old 24 (0, 0))) (new : Array Value) : OwnM (w.setRow g new) B a c cs := by
  have hm : Mod (fun b T => T = 24) w (w.setRow g new) := Mod.one (bsetRow (Below.refl g _) (Nat.le_refl _) _) (fun b hb => setRow_other w _ b _ hb) hg (setRow_heap w _ _ _ _ _ hg) rfl
  exact h.mod hm fun b T hf => ⟨fun h => by subst hf; revert h; decide, fun h => by subst hf; revert h; decide⟩
theorem OwnM.setF {w : World} {B g c : Nat} {a : Option Addr} {cs : List CellV} {old : Array Value} (h : OwnM w B a c cs) (hg : w.heap[g]? = some (.cells old 24 (0, 0))) (i : Nat) (v : Value) : OwnM (w.setCell ⟨g, i, none⟩ v) B a c cs :=
  h.mod ((Mod.refl (fun b T => T = 24) w).setCell hg rfl i v) fun b T hf => ⟨fun h => by subst hf; revert h; decide, fun h => by subst hf; revert h; decide⟩
theorem OwnM.take {w : World} {B c n p : Nat} {a : Option Addr} {cs : List CellV} (h : OwnM w B a c cs) (hn : cs.length = n) (hp : p ≤ n) : OwnM w B a c (cs.take p) := by
  refine ⟨?_, fun y hy => h.dat y (List.mem_of_mem_take hy), h.apart.sublist (List.take_sublist _ _)⟩
  rw [List.length_take, hn, Nat.min_eq_left hp, flt_take CellV.len]
  have := h.row
  rw [hn] at this
  exact this.take p hp

set_option maxRecDepth 100000 in
set_option maxHeartbeats 4000000 in
theorem refend_any (cap : Int) (a : Option Addr) (c n : Nat) (cs : List CellV) (p : Int) (M : Med) (E : Int) (w : World) (hs : CMat w a cs) (hn : n = cs.length) (hn2 : n ≤ 90000) (hx : ∀ x ∈ cs, x.d.l.length ≤ 140737488355328) (hok : (medOf cap cs).ok = true) (hr : (medOf cap cs).end_ p = (M, E)) :
    Calls Try.prog 81 #[.agg #[.int .i64 cap, .slice a n c], .int .i64 p] w fun e w' => ∃ a' c' k cs', e = .returned (.tuple #[.agg #[.int .i64 M.cap, .slice a' k c'], .int .i64 E]) ∧ MedR w' w.heap.size M a' k c' cs' ∧ k ≤ c' ∧ Below w.heap.size w w' := by
  have Hs := Lib.hid hs
  have Hn := Lib.hid hn
  have Hx := Lib.hid hx
  have HR := Lib.hid hr
  have hcl : (medOf cap cs).cells.length = n := (pls_length cs).trans hn.symm
  have Hcl := Lib.hid hcl
  have hz1 := heap_alloc_new w (.cells #[.int .i64 cap, .slice a n c] 24)
  have hz2 := heap_alloc_new (w.alloc (.cells #[.int .i64 cap, .slice a n c] 24)) (.cells #[.int .i64 0, .slice none 0 0] 24)
  rw [World.size_alloc] at hz2
  have hb1 := ext_alloc w (.cells #[.int .i64 cap, .slice a n c] 24)
  have hb2 := ext_alloc (w.alloc (.cells #[.int .i64 cap, .slice a n c] 24)) (.cells #[.int .i64 0, .slice none 0 0] 24)
  have hz1' := (hb2.block w.heap.size (by rw [World.size_alloc]; omega)).trans hz1
  have hb02 := bthen hb1 hb2 (Nat.le_refl _)
  clear hs hn hx hb1 hb2 hz1 hr hcl
  have d0 := cell_of_row _ w.heap.size 0 _ _ _ hz1'
  have d1 := cell_of_row _ w.heap.size 1 _ _ _ hz1'
  by_cases hp : p < 0 ∨ (n : Int) < p
  · have hl : M = Med.none ∧ E = 1 := by have := HR.out; unfold Med.end_ at this; rw [if_pos (.inr (by rw [Hcl.out]; exact hp))] at this; simp only [Prod.mk.injEq] at this; exact ⟨this.1.symm, this.2.symm⟩
    obtain ⟨rfl, rfl⟩ := hl
    clear HR hok
    go_enter Try.func81, Try.ntmps81
    by_cases hp1 : p < 0
    · clear hp
      have hg3 := setRow_heap _ (w.heap.size + 1) _ #[.int .i64 0, .slice none 0 0] _ _ hz2
      have hbF := bsetRow hb02 (show w.heap.size ≤ w.heap.size + 1 by omega) #[.int .i64 0, .slice none 0 0]
      go_wp2_with (refine wpList_store_row rfl rfl 24 (.tmp 4) (.tmp 15) rfl (w.heap.size + 1) rfl 24 #[.int .i64 0, .slice none 0 0] #[.int .i64 0, .slice none 0 0] rfl hz2 rfl (by kernel_rfl) (by simp [Value.oneCell']) ?_)
      refine bodyPost_ret (results_cellm (p := 4) (u := 5) rfl _ _ (w.heap.size + 1) _ #[.int .i64 0, .slice none 0 0] _ _ rfl hg3 Try.underlying24 rfl (by kernel_rfl)) rfl ?_
      first | exact ⟨none, 0, 0, [], rfl, MedR.none _ _, Nat.le_refl _, hbF⟩ | exact ⟨none, 0, 0, rfl, ⟨[], MedR.none _ _⟩, Nat.le_refl _, hbF⟩ | exact ⟨none, 0, 0, ⟨[], rfl, MedR.none _ _⟩, Nat.le_refl _, hbF⟩
    · have hp2 : (n : Int) < p := by omega
      clear hp
      have hg3 := setRow_heap _ (w.heap.size + 1) _ #[.int .i64 0, .slice none 0 0] _ _ hz2
      have hbF := bsetRow hb02 (show w.heap.size ≤ w.heap.size + 1 by omega) #[.int .i64 0, .slice none 0 0]
      go_wp2_with (refine wpList_store_row rfl rfl 24 (.tmp 4) (.tmp 15) rfl (w.heap.size + 1) rfl 24 #[.int .i64 0, .slice none 0 0] #[.int .i64 0, .slice none 0 0] rfl hz2 rfl (by kernel_rfl) (by simp [Value.oneCell']) ?_)
      refine bodyPost_ret (results_cellm (p := 4) (u := 5) rfl _ _ (w.heap.size + 1) _ #[.int .i64 0, .slice none 0 0] _ _ rfl hg3 Try.underlying24 rfl (by kernel_rfl)) rfl ?_
      first | exact ⟨none, 0, 0, [], rfl, MedR.none _ _, Nat.le_refl _, hbF⟩ | exact ⟨none, 0, 0, rfl, ⟨[], MedR.none _ _⟩, Nat.le_refl _, hbF⟩ | exact ⟨none, 0, 0, ⟨[], rfl, MedR.none _ _⟩, Nat.le_refl _, hbF⟩
  obtain ⟨p, rfl⟩ := Int.eq_ofNat_of_zero_le (show 0 ≤ p by omega)
  have hpn2 : p ≤ n := by omega
  have hp0 : ¬ (p : Int) < 0 := by omega
  have hp1 : ¬ n < p := by omega
  have hl : M = ⟨cap, (pls cs).take p⟩ ∧ E = 0 := by have := HR.out; unfold Med.end_ at this; rw [if_neg (by rw [hok, Hcl.out]; simp; omega), Int.toNat_natCast] at this; simp only [Prod.mk.injEq] at this; exact ⟨this.1.symm, this.2.symm⟩
  obtain ⟨rfl, rfl⟩ := hl
  clear HR hok hp
  go_enter Try.func81, Try.ntmps81
  go_wp2_with fail
  generalize hw2 : World.alloc _ (Obj.cells #[.int .i64 0, .slice none 0 0] 24) = w2 at *
  clear hw2 d0 d1
  refine (twinmed_any cap a c n cs w2 (Hs.out.ext hb02) Hn.out (by omega) Hx.out).mono ?_
  rintro e w3 ⟨a3, c3, cs3, rfl, hl3, ho3, hp3, hb3⟩
  have g1 := (hb3.block _ (heap_lt hz1')).trans hz1'
  have g2 := (hb3.block _ (heap_lt hz2)).trans hz2
  have g1a := setRow_heap w3 w.heap.size _ #[.int .i64 cap, .slice a3 n c3] _ _ g1
  have g2a := (setRow_other w3 w.heap.size (w.heap.size + 1) #[.int .i64 cap, .slice a3 n c3] (by omega)).trans g2
  have g1b := heap_setCell_same _ w.heap.size 1 _ _ (.slice a3 p c3) g1a
  have g2b := (Below.heap_setCell (w3.setRow w.heap.size #[.int .i64 cap, .slice a3 n c3]) ⟨w.heap.size, 1, none⟩ (.slice a3 p c3) (w.heap.size + 1) (by simp)).trans g2a
  have ho5 := ((ho3.mono hb02.size).setM g1 #[.int .i64 cap, .slice a3 n c3]).setF g1a 1 (.slice a3 p c3)
  have hb05 := ((bsetRow (bthen hb02 hb3 (Nat.le_refl _)) (Nat.le_refl _) #[.int .i64 cap, .slice a3 n c3]).setCell (p := ⟨w.heap.size, 1, none⟩) (Nat.le_refl _) (.slice a3 p c3))
  have hMR : MedR _ w.heap.size ⟨cap, (pls cs).take p⟩ a3 p c3 (cs3.take p) := ⟨ho5.take hl3 hpn2, by rw [List.length_take, hl3, Nat.min_eq_left hpn2], by unfold pls at hp3 ⊢; rw [List.map_take, hp3]⟩
  have HMR := Lib.hid (hMR.setRow (new := #[.int .i64 cap, .slice a3 p c3]) g2b)
  have hgF := setRow_heap _ (w.heap.size + 1) _ #[.int .i64 cap, .slice a3 p c3] _ _ g2b
  have hbF := Lib.hid (bsetRow hb05 (show w.heap.size ≤ w.heap.size + 1 by omega) #[.int .i64 cap, .slice a3 p c3])
  have hnc3 : n ≤ c3 := by have := ho3.row.len.1; rw [hl3] at this; exact this
  have hpc3 : (p : Int) ≤ (c3 : Int) := by omega
  have hpc : p ≤ c3 := by omega
  have e1 := cell_of_row _ w.heap.size 1 _ _ _ g1a
  have f0 := cell_of_row _ w.heap.size 0 _ _ _ g1b
  have f1 := cell_of_row _ w.heap.size 1 _ _ _ g1b
  have hfz := frozen_of_row _ w.heap.size 1 _ _ g1a
  clear hMR ho5 hb05 g1b g2a g1a ho3 hb3 hp3 hz1' hz2 g2
  go_wp2_with (first | (refine wpList_store_row rfl rfl 24 (.tmp 2) (.tmp 17) rfl w.heap.size rfl 24 #[.int .i64 cap, .slice a n c] #[.int .i64 cap, .slice a3 n c3] rfl g1 rfl (by kernel_rfl) (by simp [Value.oneCell']) ?_) | (refine wpList_store_row rfl rfl 24 (.tmp 4) (.tmp 23) rfl (w.heap.size + 1) rfl 24 #[.int .i64 0, .slice none 0 0] #[.int .i64 cap, .slice a3 p c3] rfl g2b rfl (by kernel_rfl) (by simp [Value.oneCell']) ?_))
  exact bodyPost_ret (results_cellm (p := 4) (u := 5) rfl _ _ (w.heap.size + 1) _ #[.int .i64 cap, .slice a3 p c3] _ _ rfl hgF Try.underlying24 rfl (by kernel_rfl)) rfl
    ⟨a3, c3, p, _, rfl, HMR.out, hpc, hbF.out⟩
end Go.Proofs.Ytnbpcdnpdcfiiaa
