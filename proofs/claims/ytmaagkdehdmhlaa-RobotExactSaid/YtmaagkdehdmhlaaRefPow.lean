/- The page's power, as it lies: the same plain state as the program's. -/
import Derived.Test.YtmaagkdehdmhlaaPow
import Derived.Test.YtmaagkdehdmhlaaRegionPhase
namespace Go.Proofs.Ytmaagkdehdmhlaa
open Go.RowKit

def RTrip (B : Nat) (w : World) (armed : Int) (ta : Option Addr) (tn tc : Nat) (tear : Int) : Option (Int × List Bool × Int) → Prop
  | none => armed = 0
  | some (n, l, t) => armed = n ∧ tear = t ∧ tn = l.length ∧ Own w B 4 1 ta tn tc (bovs l) ∧ 1 ≤ n ∧ n ≤ 9223372036854775807 ∧ tn ≤ 1000
structure RPw (B : Nat) (w : World) (q : Nat) (s : PS) (armed : Int) (ta : Option Addr) (tn tc : Nat) (tear : Int) (ka : Option Addr) (kc : Nat) : Prop where
  low : B ≤ q
  obj : w.heap[q]? = some (.cells #[.bool s.off, .int .i64 s.life, .int .i64 armed, .slice ta tn tc, .int .i64 tear, .slice ka s.keep.length kc, .int .i64 s.torn] 84 (0, 0))
  keep : Own w B 4 1 ka s.keep.length kc (bovs s.keep)
  few : s.keep.length ≤ 1000
  trip : RTrip B w armed ta tn tc tear s.trip
/-- In block q stands the page's power s. -/
def RPow (B : Nat) (w : World) (q : Nat) (s : PS) : Prop := ∃ armed ta tn tc tear ka kc, RPw B w q s armed ta tn tc tear ka kc
theorem RTrip.mod {F : Nat → TypeId → Prop} {B : Nat} {w w' : World} {armed : Int} {ta : Option Addr} {tn tc : Nat} {tear : Int} {t : Option (Int × List Bool × Int)} (h : RTrip B w armed ta tn tc tear t) (hm : Mod F w w') (hF : ∀ b T, F b T → T ≠ 4) : RTrip B w' armed ta tn tc tear t := by
  cases t with
  | none => exact h
  | some t =>
    obtain ⟨n, l, t⟩ := t
    obtain ⟨h1, h2, h3, h4, h5⟩ := h
    exact ⟨h1, h2, h3, h4.mod hm fun _ _ _ hf => hF _ _ hf rfl, h5⟩
theorem RPw.mod {F : Nat → TypeId → Prop} {B : Nat} {w w' : World} {q : Nat} {s : PS} {armed : Int} {ta : Option Addr} {tn tc : Nat} {tear : Int} {ka : Option Addr} {kc : Nat} (h : RPw B w q s armed ta tn tc tear ka kc) (hm : Mod F w w') (hF : ∀ b T, F b T → T ≠ 84 ∧ T ≠ 4) : RPw B w' q s armed ta tn tc tear ka kc :=
  ⟨h.low, hm.keep h.obj fun hf => (hF _ _ hf).1 rfl, h.keep.mod hm fun _ _ _ hf => (hF _ _ hf).2 rfl, h.few, h.trip.mod hm fun b T hf => (hF b T hf).2⟩
theorem RPow.mod {F : Nat → TypeId → Prop} {B : Nat} {w w' : World} {q : Nat} {s : PS} (h : RPow B w q s) (hm : Mod F w w') (hF : ∀ b T, F b T → T ≠ 84 ∧ T ≠ 4) : RPow B w' q s := by
  obtain ⟨armed, ta, tn, tc, tear, ka, kc, h⟩ := h
  exact ⟨_, _, _, _, _, _, _, h.mod hm hF⟩
theorem RPow.ext {B : Nat} {w w' : World} {q : Nat} {s : PS} (h : RPow B w q s) (hb : Below w.heap.size w w') : RPow B w' q s := h.mod (bmod hb fun _ _ => False) fun _ _ h => h.elim
theorem RPow.mono {B B' : Nat} {w : World} {q : Nat} {s : PS} (h : RPow B w q s) (hB : B' ≤ B) : RPow B' w q s := by
  obtain ⟨armed, ta, tn, tc, tear, ka, kc, h⟩ := h
  refine ⟨_, _, _, _, _, _, _, Nat.le_trans hB h.low, h.obj, h.keep.mono hB, h.few, ?_⟩
  have ht := h.trip
  generalize s.trip = t at *
  cases t with
  | none => exact ht
  | some t =>
    obtain ⟨n, l, t⟩ := t
    obtain ⟨h1, h2, h3, h4, h5⟩ := ht
    exact ⟨h1, h2, h3, h4.mono hB, h5⟩
theorem RPow.lt {B : Nat} {w : World} {q : Nat} {s : PS} (h : RPow B w q s) : B ≤ q ∧ q < w.heap.size := by
  obtain ⟨_, _, _, _, _, _, _, h⟩ := h
  exact ⟨h.low, heap_lt h.obj⟩
/-- What its methods may write. -/
abbrev RPF (B : Nat) : Nat → TypeId → Prop := fun b T => B ≤ b ∧ T = 84

theorem rpow_new (w : World) :
    Calls Try.prog 6 #[] w fun e w' => ∃ q, e = .returned (.pointer (some ⟨q, 0, none⟩)) ∧ RPow w.heap.size w' q PS.new ∧ Below w.heap.size w w' := by
  go_enter Try.func6, Try.ntmps6
  go_wp2
  go_ret
  exact ⟨w.heap.size, rfl, ⟨0, none, 0, 0, 0, none, 0, Nat.le_refl _, heap_alloc_at w _, Own.nil _ _ _ _ _, by simp [PS.new], rfl⟩, ext_alloc w _⟩

set_option maxRecDepth 100000 in
set_option maxHeartbeats 1000000 in
theorem rpow_start (B q : Nat) (s : PS) (w : World) (hp : RPow B w q s) (hl0 : 0 ≤ s.life) (hl1 : s.life ≤ 4611686018427387904) :
    Calls Try.prog 21 #[.pointer (some ⟨q, 0, none⟩)] w fun e w' => e = .returned (.tuple #[]) ∧ RPow B w' q s.start ∧ Mod (RPF B) w w' := by
  have hp0 := hp
  obtain ⟨armed, ta, tn, tc, tear, ka, kc, h⟩ := hp
  have c0 := cell_of_row _ q 0 _ _ _ h.obj
  have c1 := cell_of_row _ q 1 _ _ _ h.obj
  have f0 := frozen_of_row _ q 0 _ _ h.obj
  have f1 := frozen_of_row _ q 1 _ _ h.obj
  have hlt := heap_lt h.obj
  cases hoff : s.off with
  | false =>
    have hs : s.start = s := by unfold PS.start; rw [hoff]; rfl
    rw [hs]
    rw [hoff] at c0
    clear hs hoff h
    go_enter Try.func21, Try.ntmps21
    go_wp2
    go_end0
    exact ⟨rfl, hp0, Mod.refl _ _⟩
  | true =>
    have hs : s.start = { s with off := false, life := s.life + 1 } := by unfold PS.start; rw [hoff]; rfl
    rw [hs]
    rw [hoff] at c0
    have H := Lib.hid h
    have hw1 : IntKind.i64.wrap (s.life + 1) = s.life + 1 := by rw [IntKind.wrap_i64]; omega
    clear hs hoff h
    go_enter Try.func21, Try.ntmps21
    go_wp2
    go_end0
    have h := H.out
    have hg1 := heap_setCell_same w q 0 _ _ (.bool false) h.obj
    have hg2 := heap_setCell_same _ q 1 _ _ (.int .i64 (s.life + 1)) hg1
    have hm := ((Mod.refl (RPF B) w).setCell h.obj ⟨h.low, rfl⟩ 0 (.bool false)).setCell hg1 ⟨h.low, rfl⟩ 1 (.int .i64 (s.life + 1))
    exact ⟨rfl, ⟨armed, ta, tn, tc, tear, ka, kc, h.low, hg2, h.keep.mod hm fun _ _ _ hf => absurd hf.2 (by decide), h.few, h.trip.mod hm fun _ _ hf => by rw [hf.2]; decide⟩, hm⟩

theorem infoBoolR : (Try.prog.info? 4).map (fun i => (i.zero, i.size, i.bytes)) = some (some (.bool false), 1, 1) := by kernel_rfl
set_option maxRecDepth 100000 in
set_option maxHeartbeats 1000000 in
theorem rpow_cut (B q : Nat) (s : PS) (a : Option Addr) (c n : Nat) (l : List Bool) (t : Int) (w : World) (hB : B ≤ w.heap.size) (hp : RPow B w q s) (hs : Src w a (bovs l)) (hn : n = l.length) (hn2 : n ≤ 1000) :
    Calls Try.prog 19 #[.pointer (some ⟨q, 0, none⟩), .slice a n c, .int .i64 t] w fun e w' => e = .returned (.tuple #[]) ∧ RPow B w' q (s.cut l t) ∧ Mod (RPF B) w w' := by
  have hp0 := hp
  obtain ⟨ib, hi, hz0, hz1, hz2⟩ := info_parts infoBoolR
  obtain ⟨armed, ta, tn, tc, tear, ka, kc, h⟩ := hp
  have c0 := cell_of_row _ q 0 _ _ _ h.obj
  have hlt := heap_lt h.obj
  have Hn := Lib.hid hn
  clear hn
  cases hoff : s.off with
  | true =>
    have hs : s.cut l t = s := by unfold PS.cut; rw [hoff]; rfl
    rw [hs]
    rw [hoff] at c0
    clear hs hoff h
    go_enter Try.func19, Try.ntmps19
    go_wp2
    refine bodyPost_ret (results_none rfl _ _ _) rfl ?_
    exact ⟨rfl, hp0, Mod.refl _ _⟩
  | false =>
    have hS : s.cut l t = { s with off := true, keep := l, torn := t, trip := none } := by unfold PS.cut; rw [hoff]; rfl
    rw [hS]
    rw [hoff] at c0
    have H := Lib.hid h
    clear hS hoff h
    go_enter Try.func19, Try.ntmps19
    go_wp2_with (refine wpList_app rfl (.tmp 16) (.tmp 17) 79 rfl w.heap.size 4 ib (.bool false) 1 1 Try.underlying79 hi hz0 hz1 hz2 rfl (by decide) none 0 0 [] rfl (Own.nil _ _ _ _ _) a n c (bovs l) rfl (by rw [bovs_length]; have := Hn.out; omega) hs (bovs_one l) (by unfold maxLen; omega) (by omega) (Nat.le_refl _) ?_
                 simp only [Nat.zero_add, List.nil_append]
                 intro a1 c1 w1 ho1 hb1
                 have h1 := H.out.mod (bmod hb1 fun _ _ => False) fun _ _ h => h.elim
                 have d0 := cell_of_row _ q 0 _ _ _ h1.obj
                 have d2 := cell_of_row _ q 2 _ _ _ h1.obj
                 have d5 := cell_of_row _ q 5 _ _ _ h1.obj
                 have d6 := cell_of_row _ q 6 _ _ _ h1.obj
                 have hlt1 := heap_lt h1.obj
                 have fz : ∀ j, w1.frozen? ⟨q, j, none⟩ = false := fun j => frozen_of_row _ q j _ _ h1.obj
                 have H1 := Lib.hid h1
                 have HO1 := Lib.hid ho1
                 have HB1 := Lib.hid hb1
                 clear h1 ho1 hb1)
    go_end0
    have h := H1.out
    have g1 := heap_setCell_same w1 q 0 _ _ (.bool true) h.obj
    have g2 := heap_setCell_same _ q 2 _ _ (.int .i64 0) g1
    have g3 := heap_setCell_same _ q 6 _ _ (.int .i64 t) g2
    have g4 := heap_setCell_same _ q 5 _ _ (.slice a1 n c1) g3
    have hm := ((((bmod HB1.out (RPF B)).setCell h.obj ⟨h.low, rfl⟩ 0 (.bool true)).setCell g1 ⟨h.low, rfl⟩ 2 (.int .i64 0)).setCell g2 ⟨h.low, rfl⟩ 6 (.int .i64 t)).setCell g3 ⟨h.low, rfl⟩ 5 (.slice a1 n c1)
    have hm1 := ((((Mod.refl (RPF B) w1).setCell h.obj ⟨h.low, rfl⟩ 0 (.bool true)).setCell g1 ⟨h.low, rfl⟩ 2 (.int .i64 0)).setCell g2 ⟨h.low, rfl⟩ 6 (.int .i64 t)).setCell g3 ⟨h.low, rfl⟩ 5 (.slice a1 n c1)
    have hn := Hn.out
    subst hn
    exact ⟨rfl, ⟨0, ta, tn, tc, tear, a1, c1, h.low, g4, (HO1.out.mono hB).mod hm1 fun _ _ _ hf => absurd hf.2 (by decide), hn2, rfl⟩, hm⟩

set_option maxRecDepth 100000 in
set_option maxHeartbeats 1000000 in
theorem rpow_arm (B q : Nat) (s : PS) (a : Option Addr) (c N : Nat) (l : List Bool) (n t : Int) (w : World) (hB : B ≤ w.heap.size) (hp : RPow B w q s) (hs : Src w a (bovs l)) (hN : N = l.length) (hn2 : N ≤ 1000) (hn : n ≤ 9223372036854775807) :
    Calls Try.prog 23 #[.pointer (some ⟨q, 0, none⟩), .int .i64 n, .slice a N c, .int .i64 t] w fun e w' => e = .returned (.tuple #[]) ∧ RPow B w' q (s.arm n l t) ∧ Mod (RPF B) w w' := by
  obtain ⟨ib, hi, hz0, hz1, hz2⟩ := info_parts infoBoolR
  obtain ⟨armed, ta, tn, tc, tear, ka, kc, h⟩ := hp
  have Hn := Lib.hid hN
  have H := Lib.hid h
  clear hN h
  go_enter Try.func23, Try.ntmps23
  go_wp2_with (refine wpList_app rfl (.tmp 14) (.tmp 15) 79 rfl w.heap.size 4 ib (.bool false) 1 1 Try.underlying79 hi hz0 hz1 hz2 rfl (by decide) none 0 0 [] rfl (Own.nil _ _ _ _ _) a N c (bovs l) rfl (by rw [bovs_length]; have := Hn.out; omega) hs (bovs_one l) (by unfold maxLen; omega) (by omega) (Nat.le_refl _) ?_
               simp only [Nat.zero_add, List.nil_append]
               intro a1 c1 w1 ho1 hb1
               have h1 := H.out.mod (bmod hb1 fun _ _ => False) fun _ _ h => h.elim
               have d2 := cell_of_row _ q 2 _ _ _ h1.obj
               have d3 := cell_of_row _ q 3 _ _ _ h1.obj
               have d4 := cell_of_row _ q 4 _ _ _ h1.obj
               have hlt1 := heap_lt h1.obj
               have fz : ∀ j, w1.frozen? ⟨q, j, none⟩ = false := fun j => frozen_of_row _ q j _ _ h1.obj
               have H1 := Lib.hid h1
               have HO1 := Lib.hid ho1
               have HB1 := Lib.hid hb1
               clear h1 ho1 hb1)
  all_goals
    go_end0
    have h := H1.out
    have hn9 := Hn.out
    subst hn9
    have fin : ∀ m : Int, m = max n 0 → RPow B ((((w1.setCell ⟨q, 2, none⟩ (.int .i64 m)).setCell ⟨q, 3, none⟩ (.slice a1 l.length c1)).setCell ⟨q, 4, none⟩ (.int .i64 t))) q (s.arm n l t) ∧ Mod (RPF B) w ((((w1.setCell ⟨q, 2, none⟩ (.int .i64 m)).setCell ⟨q, 3, none⟩ (.slice a1 l.length c1)).setCell ⟨q, 4, none⟩ (.int .i64 t))) := by
      intro m hmx
      have g1 := heap_setCell_same w1 q 2 _ _ (.int .i64 m) h.obj
      have g2 := heap_setCell_same _ q 3 _ _ (.slice a1 l.length c1) g1
      have g3 := heap_setCell_same _ q 4 _ _ (.int .i64 t) g2
      have hm1 := (((Mod.refl (RPF B) w1).setCell h.obj ⟨h.low, rfl⟩ 2 (.int .i64 m)).setCell g1 ⟨h.low, rfl⟩ 3 (.slice a1 l.length c1)).setCell g2 ⟨h.low, rfl⟩ 4 (.int .i64 t)
      refine ⟨⟨m, a1, l.length, c1, t, ka, kc, h.low, g3, h.keep.mod hm1 fun _ _ _ hf => absurd hf.2 (by decide), h.few, ?_⟩, (bmod HB1.out (RPF B)).trans hm1⟩
      show RTrip _ _ _ _ _ _ _ (if 1 ≤ n then some (n, l, t) else none)
      by_cases h1 : 1 ≤ n
      · rw [if_pos h1]
        exact ⟨by omega, rfl, rfl, (HO1.out.mono hB).mod hm1 fun _ _ _ hf => absurd hf.2 (by decide), h1, hn, hn2⟩
      · rw [if_neg h1]
        show m = 0
        omega
    exact ⟨rfl, fin _ (by omega)⟩

set_option maxRecDepth 100000 in
set_option maxHeartbeats 1000000 in
theorem rpow_spend (B q : Nat) (s : PS) (w : World) (hB : B ≤ w.heap.size) (hp : RPow B w q s) {r : Bool} {s' : PS} (hr : s.spend = (r, s')) :
    Calls Try.prog 56 #[.pointer (some ⟨q, 0, none⟩)] w fun e w' => e = .returned (.bool r) ∧ RPow B w' q s' ∧ Mod (RPF B) w w' := by
  have hp0 := hp
  obtain ⟨armed, ta, tn, tc, tear, ka, kc, h⟩ := hp
  have c0 := cell_of_row _ q 0 _ _ _ h.obj
  have c2 := cell_of_row _ q 2 _ _ _ h.obj
  have f2 := frozen_of_row _ q 2 _ _ h.obj
  have hlt := heap_lt h.obj
  cases hoff : s.off with
  | true =>
    have hs : s.spend = (false, s) := by unfold PS.spend; rw [hoff]; rfl
    rw [hs] at hr
    simp only [Prod.mk.injEq] at hr
    obtain ⟨rfl, rfl⟩ := hr
    rw [hoff] at c0
    clear hs hoff h
    go_enter Try.func56, Try.ntmps56
    go_wp2
    go_ret
    exact ⟨rfl, hp0, Mod.refl _ _⟩
  | false =>
    rw [hoff] at c0
    cases htr : s.trip with
    | none =>
      have hs : s.spend = (true, s) := by unfold PS.spend; rw [hoff, htr]; rfl
      rw [hs] at hr
      simp only [Prod.mk.injEq] at hr
      obtain ⟨rfl, rfl⟩ := hr
      have ht := h.trip
      rw [htr] at ht
      have ht0 : armed = 0 := ht
      subst ht0
      clear hs hoff h htr ht
      go_enter Try.func56, Try.ntmps56
      go_wp2
      go_ret
      exact ⟨rfl, hp0, Mod.refl _ _⟩
    | some x =>
      obtain ⟨n, l, t⟩ := x
      have ht := h.trip
      rw [htr] at ht
      obtain ⟨rfl, rfl, htn, hto, hn1, hn2, htn2⟩ := ht
      have hw1 : IntKind.i64.wrap (armed - 1) = armed - 1 := by rw [IntKind.wrap_i64]; omega
      have hg0 : (0 : Int) < armed := by omega
      have hg2 := heap_setCell_same w q 2 _ _ (.int .i64 (armed - 1)) h.obj
      have hm2 := (Mod.refl (RPF B) w).setCell h.obj ⟨h.low, rfl⟩ 2 (.int .i64 (armed - 1))
      by_cases h1 : 1 < armed
      · have hs : s.spend = (true, { s with trip := some (armed - 1, l, tear) }) := by unfold PS.spend; rw [hoff, htr]; simp only [Bool.false_eq_true, if_false]; rw [if_pos h1]
        rw [hs] at hr
        simp only [Prod.mk.injEq] at hr
        obtain ⟨rfl, rfl⟩ := hr
        have HF : Hid (RPow B (w.setCell ⟨q, 2, none⟩ (.int .i64 (armed - 1))) q { s with trip := some (armed - 1, l, tear) }) := Lib.hid
          ⟨armed - 1, ta, tn, tc, tear, ka, kc, h.low, hg2, h.keep.mod hm2 fun _ _ _ hf => absurd hf.2 (by decide), h.few, ⟨rfl, rfl, htn, hto.mod hm2 fun _ _ _ hf => absurd hf.2 (by decide), by omega, by omega, htn2⟩⟩
        have HM := Lib.hid hm2
        have hne : ((armed - 1 : Int) == 0) = false := by simp; omega
        clear hs hoff htr hto htn hg2 hm2 h hp0
        go_enter Try.func56, Try.ntmps56
        go_wp2
        go_ret
        exact ⟨rfl, HF.out, HM.out⟩
      · obtain rfl : armed = 1 := by omega
        have hs : s.spend = (false, s.cut l tear) := by unfold PS.spend; rw [hoff, htr]; rfl
        have hcu : s.cut l tear = PS.cut { s with trip := none } l tear := by unfold PS.cut; rw [hoff]; rfl
        rw [hs, hcu] at hr
        simp only [Prod.mk.injEq] at hr
        obtain ⟨rfl, hr2⟩ := hr
        have Hr2 := Lib.hid hr2
        have HS : Hid (RPow B (w.setCell ⟨q, 2, none⟩ (.int .i64 0)) q { s with trip := none }) := Lib.hid
          ⟨0, ta, tn, tc, tear, ka, kc, h.low, hg2, h.keep.mod hm2 fun _ _ _ hf => absurd hf.2 (by decide), h.few, rfl⟩
        have HSrc : Hid (Src (w.setCell ⟨q, 2, none⟩ (.int .i64 0)) ta (bovs l)) := Lib.hid (hto.mod hm2 fun _ _ _ hf => absurd hf.2 (by decide)).src
        have HM : Hid (Mod (RPF B) w (w.setCell ⟨q, 2, none⟩ (.int .i64 0))) := Lib.hid hm2
        have Htn := Lib.hid htn
        have hg2' : (w.setCell ⟨q, 2, none⟩ (.int .i64 0)).heap[q]? = _ := hg2
        have Hg2 := Lib.hid hg2'
        clear hs hcu hr2 hoff htr hto htn hg2 hg2' hm2 h hp0
        go_enter Try.func56, Try.ntmps56
        go_wp2_with fail
        have dS3 := cell_of_row _ q 3 _ _ _ Hg2.out
        have dS4 := cell_of_row _ q 4 _ _ _ Hg2.out
        have hltS := heap_lt Hg2.out
        have hBS : B ≤ (w.setCell ⟨q, 2, none⟩ (.int .i64 0)).heap.size := Nat.le_trans hB HM.out.size
        generalize w.setCell ⟨q, 2, none⟩ (.int .i64 0) = wS at *
        refine wp_region_phase (by kernel_rfl) [9] (by kernel_rfl) (by kernel_rfl) ?_
        refine stage_more [Sp.eq (.pointer (some ⟨q, 0, none⟩)), Sp.eq (.pointer (some ⟨q, 0, none⟩)), Sp.eq (.pointer (some ⟨q, 0, none⟩)), Sp.eq (.pointer (some ⟨q, 3, none⟩)), Sp.eq (.slice ta tn tc), Sp.eq (.pointer (some ⟨q, 0, none⟩)), Sp.eq (.pointer (some ⟨q, 0, none⟩)), Sp.eq (.pointer (some ⟨q, 4, none⟩)), Sp.eq (.int .i64 tear)] rfl ?_ ?_
        · refine stepsG_cons ?_ (stepsG_cons ?_ (stepsG_cons ?_ (stepsG_cons ?_ (stepsG_cons ?_ (stepsG_cons ?_ (stepsG_cons ?_ (stepsG_cons ?_ (stepsG_cons ?_ (stepsG_nil)))))))))
          · intro ρ w' E
            have e0 : ρ (.tmp 0) = .pointer (some ⟨q, 0, none⟩) := E.out 0 rfl
            refine step_plain rfl ?_
            exact op_move (.inl rfl) e0 ⟨Below.refl _ _, rfl⟩
          · intro ρ w' E
            have e0 : ρ (.tmp 0) = .pointer (some ⟨q, 0, none⟩) := E.out 0 rfl
            refine step_plain rfl ?_
            exact op_move (.inl rfl) e0 ⟨Below.refl _ _, rfl⟩
          · intro ρ w' E
            have e25 : ρ (.tmp 25) = .pointer (some ⟨q, 0, none⟩) := E.pre 1 rfl rfl
            refine step_plain rfl ?_
            refine op_val (v := .pointer (some ⟨q, 0, none⟩)) (w' := w') ?_ ⟨Below.refl _ _, rfl⟩
            have hcon := E.con
            clear E
            go_simp
          · intro ρ w' E
            have e26 : ρ (.tmp 26) = .pointer (some ⟨q, 0, none⟩) := E.pre 2 rfl rfl
            refine step_plain rfl ?_
            refine op_val (v := .pointer (some ⟨q, 3, none⟩)) (w' := w') ?_ ⟨Below.refl _ _, rfl⟩
            have hcon := E.con
            clear E
            go_simp
          · intro ρ w' E
            have e27 : ρ (.tmp 27) = .pointer (some ⟨q, 3, none⟩) := E.pre 3 rfl rfl
            refine step_plain rfl ?_
            refine op_val (v := .slice ta tn tc) (w' := w') ?_ ⟨Below.refl _ _, rfl⟩
            have hk := (World.cell?_of_block (w := wS) (E.below.block _ hltS)).trans dS3
            have hcon := E.con
            clear E
            go_simp
          · intro ρ w' E
            have e0 : ρ (.tmp 0) = .pointer (some ⟨q, 0, none⟩) := E.out 0 rfl
            refine step_plain rfl ?_
            exact op_move (.inl rfl) e0 ⟨Below.refl _ _, rfl⟩
          · intro ρ w' E
            have e29 : ρ (.tmp 29) = .pointer (some ⟨q, 0, none⟩) := E.pre 5 rfl rfl
            refine step_plain rfl ?_
            refine op_val (v := .pointer (some ⟨q, 0, none⟩)) (w' := w') ?_ ⟨Below.refl _ _, rfl⟩
            have hcon := E.con
            clear E
            go_simp
          · intro ρ w' E
            have e30 : ρ (.tmp 30) = .pointer (some ⟨q, 0, none⟩) := E.pre 6 rfl rfl
            refine step_plain rfl ?_
            refine op_val (v := .pointer (some ⟨q, 4, none⟩)) (w' := w') ?_ ⟨Below.refl _ _, rfl⟩
            have hcon := E.con
            clear E
            go_simp
          · intro ρ w' E
            have e31 : ρ (.tmp 31) = .pointer (some ⟨q, 4, none⟩) := E.pre 7 rfl rfl
            refine step_plain rfl ?_
            refine op_val (v := .int .i64 tear) (w' := w') ?_ ⟨Below.refl _ _, rfl⟩
            have hk := (World.cell?_of_block (w := wS) (E.below.block _ hltS)).trans dS4
            have hcon := E.con
            clear E
            go_simp
        · intro σ1 ρ1 w1c E1 O1 H1
          have e24 : ρ1 (.tmp 24) = .pointer (some ⟨q, 0, none⟩) := E1.pre 0 rfl rfl
          have e28 : ρ1 (.tmp 28) = .slice ta tn tc := E1.pre 4 rfl rfl
          have e32 : ρ1 (.tmp 32) = .int .i64 tear := E1.pre 8 rfl rfl
          refine step_plain rfl ?_
          refine op_call (f := 19) (args := #[.pointer (some ⟨q, 0, none⟩), .slice ta tn tc, .int .i64 tear]) (w' := w1c) (by have hcon := E1.con; have hfn := E1.fn; clear E1; go_simp) ?_
          refine (rpow_cut B q { s with trip := none } ta tc tn l tear w1c (Nat.le_trans hBS E1.below.size) (HS.out.ext E1.below) (HSrc.out.ext E1.below) Htn.out (by omega)).mono ?_
          rintro e w2 ⟨rfl, hp2, hm2⟩
          have hm02 := (bmod E1.below (RPF B)).trans hm2
          refine ⟨_, rfl, ?_⟩
          refine stage_last [] ?_ ?_
          · refine stepsG_nil
          · intro σF wF GF OF HF
            have HMF := Lib.hid ((HM.out.trans hm02).ext GF)
            have HPF := Lib.hid (hp2.ext GF)
            clear hm02 hm2 hp2 GF OF HF
            simp only [upd, updL, dstsOf', elemB, List.filterMap_cons, List.filterMap_nil, Nat.reduceAdd, Nat.reduceBEq, Bool.or_false, Bool.false_or, Bool.or_true, Bool.true_or, cond_true, cond_false, Nat.zero_add]
            go_wp2_with fail
            go_ret
            exact ⟨rfl, by rw [← Hr2.out]; exact HPF.out, HMF.out⟩
end Go.Proofs.Ytmaagkdehdmhlaa
