/- Save where it ends early: the power is off; the state is too long. -/
import Derived.Test.YtogcejmnhiphgaaStoreLaw
namespace Go.Proofs.Ytogcejmnhiphgaa
open Go.RowKit Go.Shelf
attribute [local go_sem] Oper.semAt_some

set_option maxRecDepth 100000 in
set_option maxHeartbeats 4000000 in
theorem ssave_early {K : Nat → Prop} {B Bs : Nat} {w : World} {gs g pg n : Nat} {d : DS} {p : PS} {m : Nat} {s : List Byte} {cnt : Nat} (h : DW K B w g pg n d p m) (hS : StA Bs w gs g s cnt) (hn : 0 < n) (hn2 : n ≤ 100000) (hm : m ≤ 90000)
    (a : Option Addr) (c L : Nat) {E : Int} (hE : p.off = true ∧ E = 5 ∨ p.off = false ∧ 30000 < L ∧ E = 2) :
    Calls Try.prog 32 #[.pointer (some ⟨gs, 0, none⟩), .slice a L c] w fun e w' => e = .returned (.int .i64 E) ∧ DW K B w' g pg n (d.wake p) p m ∧ StA Bs w' gs g s cnt ∧ Mod (DF B) w w' := by
  have HE := Lib.hid hE
  have hb0 := ext_alloc w (.cells #[.pointer (some ⟨gs, 0, none⟩)] 59)
  have hg0 := heap_alloc_new w (.cells #[.pointer (some ⟨gs, 0, none⟩)] 59)
  have hb1 := ext_alloc (w.alloc (.cells #[.pointer (some ⟨gs, 0, none⟩)] 59)) (.cells #[.int .i64 0] 27)
  have hg1 := heap_alloc_new (w.alloc (.cells #[.pointer (some ⟨gs, 0, none⟩)] 59)) (.cells #[.int .i64 0] 27)
  rw [World.size_alloc] at hg1
  have hg0 := (hb1.block _ (heap_lt hg0)).trans hg0
  have hb01 := bthen hb0 hb1 (Nat.le_refl _)
  have H1 := Lib.hid (h.ext hb01)
  have hS1 := hS.ext hb01
  have HS1 := Lib.hid hS1
  have HM1 : Hid (Mod (DF B) w _) := Lib.hid (bmod hb01 (DF B))
  have hBw := h.base
  obtain ⟨⟨sa, sc, hh, hso⟩, hsb, hsl⟩ := hS1
  have q0 := cell_of_row _ gs 0 _ _ _ hh
  have q2 := cell_of_row _ gs 2 _ _ _ hh
  have r0 := cell_of_row _ w.heap.size 0 _ _ _ hg0
  have r1 := cell_of_row _ (w.heap.size + 1) 0 _ _ _ hg1
  clear hE hb0 hb1 hb01 h hS hso hsb hsl
  refine callsIn_wide.1 (callsIn_of_wp_marks (n := 3) Try.func32 rfl trivial ?_ rfl)
  simp only [Try.ntmps32, List.size_toArray, List.length_cons, List.length_nil, Nat.reduceAdd, Nat.reduceSub, Array.replicate_succ, Array.replicate_zero, List.push_toArray, List.append_toArray, List.nil_append, List.cons_append]
  refine wpIn_wide.2 ?_
  go_wp2_with fail
  have HG0 := Lib.hid hg0
  have HG1 := Lib.hid hg1
  clear q0 q2 r0 r1 hh hg0 hg1
  generalize World.alloc (World.alloc w _) _ = w2 at *
  obtain ⟨r, hrr⟩ : ∃ r, r = p.off := ⟨_, rfl⟩
  refine (soff_any H1.out hn2 hn (by omega) hrr.symm).mono ?_
  rintro e w3 ⟨rfl, hd3, hM3⟩
  rw [← hrr] at HE
  clear hrr
  have hno : ∀ {b : Nat} {T : TypeId}, T = 59 ∨ T = 27 ∨ T = 103 → ¬ DF B b T := by
    rintro b T hT ⟨_, hf⟩
    revert hf
    rcases hT with rfl | rfl | rfl <;> decide
  have H3 := Lib.hid hd3
  have HS3 := Lib.hid (HS1.out.df hM3)
  have HM3 := Lib.hid (HM1.out.trans hM3)
  have hg1 : w3.heap[w.heap.size + 1]? = _ := hM3.keep HG1.out (hno (.inr (.inl rfl)))
  have HG1 := Lib.hid hg1
  have r1 := cell_of_row _ (w.heap.size + 1) 0 _ _ _ hg1
  have f1 := frozen_of_row _ (w.heap.size + 1) 0 _ _ hg1
  have hm := (Mod.refl (fun b T => b = w.heap.size + 1 ∧ T = 27) w3).setCell HG1.out ⟨rfl, rfl⟩ 0 (.int .i64 E)
  have hgE := heap_setCell_same w3 (w.heap.size + 1) 0 _ _ (.int .i64 E) HG1.out
  have HD4 := Lib.hid (H3.out.otherT hm fun b' T hf => .inr hf.2)
  have HS4 := Lib.hid (HS3.out.mod hm (fun b' T hf => by rw [hf.2]; decide) (fun b' _ _ hf => absurd hf.2 (by decide)))
  have HM4 := Lib.hid (HM3.out.andThen hm (fun b' T hb hf => by have := hf.1; omega))
  have HgE := Lib.hid hgE
  clear hg1 hd3 hM3 H1 HS1 HM1 hm hgE HG0
  rcases HE.out with ⟨rfl, rfl⟩ | ⟨rfl, hL, rfl⟩
  · clear HE
    go_wp2
    exact bodyM_ret1 (results_cell1s (p := 4) rfl _ _ (w.heap.size + 1) _ rfl (cell_of_row _ _ 0 _ _ _ HgE.out) (by simp [isAgg, run_underlying Try.underlying27])) rfl ⟨rfl, HD4.out, HS4.out, HM4.out⟩
  · have hL3 : (30000 : Int) < (L : Int) := by omega
    clear HE hL
    go_wp2
    exact bodyM_ret1 (results_cell1s (p := 4) rfl _ _ (w.heap.size + 1) _ rfl (cell_of_row _ _ 0 _ _ _ HgE.out) (by simp [isAgg, run_underlying Try.underlying27])) rfl ⟨rfl, HD4.out, HS4.out, HM4.out⟩
end Go.Proofs.Ytogcejmnhiphgaa
