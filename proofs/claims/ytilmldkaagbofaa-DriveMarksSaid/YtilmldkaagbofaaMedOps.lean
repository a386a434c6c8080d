/- medium.New, Mark, Write, Tear, End. -/
import Derived.Test.YtilmldkaagbofaaMedWrite
namespace Go.Proofs.Ytilmldkaagbofaa
open Go.RowKit

theorem results_cellm {P : Program} {fn : Func} {p u : Tmp} {ty : TypeId} (h : fn.results = #[.cell p ty, .tmp u]) (tmps : Array Value) (w : World) (g : Nat) (t : TypeId) (cs : Array Value) (fr : Nat × Nat) (d : TypeDesc)
    (hp : tmps.getD p undef = .pointer (some ⟨g, 0, none⟩)) (hg : w.heap[g]? = some (.cells cs t fr))
    (hu : P.underlying ty = some d) (hd : (match d with | .struct _ | .array _ _ => true | _ => false) = true) (hi : (P.info? ty).map (·.size) = some cs.size) :
    (results fn tmps).run P w = .ok (.tuple #[.agg cs, tmps.getD u undef]) w := by
  rw [results_cell_tmp h, hp]
  simp [asAddr, run_loadVar_row w g t ty cs fr d hg hu hd hi, Result.andThen]
/-- A tape of the call's own, as an answer. -/
structure MedR (w : World) (B : Nat) (M : Med) (a : Option Addr) (k c : Nat) (cs : List CellV) : Prop where
  own : OwnM w B a c cs
  len : cs.length = k
  pls : pls cs = M.cells
theorem MedR.none (w : World) (B : Nat) : MedR w B Med.none Option.none 0 0 [] := ⟨OwnM.nil _ _ _, rfl, rfl⟩
theorem MedR.ext {w w' : World} {B : Nat} {M : Med} {a : Option Addr} {k c : Nat} {cs : List CellV} (h : MedR w B M a k c cs) (hb : Below w.heap.size w w') : MedR w' B M a k c cs := ⟨h.own.ext hb, h.len, h.pls⟩
theorem MedR.mono {w : World} {B B' : Nat} {M : Med} {a : Option Addr} {k c : Nat} {cs : List CellV} (h : MedR w B M a k c cs) (hB : B' ≤ B) : MedR w B' M a k c cs := ⟨h.own.mono hB, h.len, h.pls⟩
theorem MedR.setRow {w : World} {B g : Nat} {M : Med} {a : Option Addr} {k c : Nat} {cs : List CellV} {old new : Array Value} (h : MedR w B M a k c cs) (hg : w.heap[g]? = some (.cells old 32 (0, 0))) : MedR (w.setRow g new) B M a k c cs := by
  have hm : Mod (fun b T => T = 32) w (w.setRow g new) := Mod.one (bsetRow (Below.refl g _) (Nat.le_refl _) _) (fun b hb => setRow_other w _ b _ hb) hg (setRow_heap w _ _ _ _ _ hg) rfl
  exact ⟨h.own.mod hm fun b T hf => ⟨fun h => by subst hf; revert h; decide, fun h => by subst hf; revert h; decide⟩, h.len, h.pls⟩
theorem MedR.mat {w : World} {B : Nat} {M : Med} {a : Option Addr} {k c : Nat} {cs : List CellV} (h : MedR w B M a k c cs) : CMat w a cs := h.own.mat
theorem MedR.of {w : World} {B : Nat} {M : Med} {a : Option Addr} {k c : Nat} {cs : List CellV} (h : MedR w B M a k c cs) : medOf M.cap cs = M := by unfold medOf; rw [h.pls]

theorem med_new (n : Int) (w : World) (h1 : 1 ≤ n) (h4 : n ≤ 400) :
    Calls Try.prog 114 #[.int .i64 n] w fun e w' => e = .returned (.tuple #[.agg #[.int .i64 n, .slice none 0 0], .int .i64 0]) ∧ Below w.heap.size w w' := by
  have hg := heap_alloc_new w (.cells #[.int .i64 0, .slice none 0 0] 32)
  have hgl := heap_lt hg
  go_enter Try.func114, Try.ntmps114
  go_wp2_with fail
  refine (size_any n true _ (decide_eq_true ⟨h1, h4⟩)).mono ?_
  rintro e w1 ⟨rfl, rfl⟩
  go_wp2_with (refine wpList_store_row rfl rfl 32 (.tmp 2) (.tmp 9) rfl w.heap.size rfl 32 #[.int .i64 0, .slice none 0 0] #[.int .i64 n, .slice none 0 0] rfl hg rfl (by kernel_rfl) (by simp [Value.oneCell']) ?_)
  exact bodyPost_ret (results_cellm (p := 2) (u := 3) rfl _ _ w.heap.size _ #[.int .i64 n, .slice none 0 0] _ _ rfl (setRow_heap _ w.heap.size _ _ _ _ hg) Try.underlying32 rfl (by kernel_rfl)) rfl
    ⟨rfl, bsetRow (ext_alloc w _) (Nat.le_refl _) _⟩

set_option maxRecDepth 100000 in
set_option maxHeartbeats 4000000 in
theorem mark_any (cap : Int) (a : Option Addr) (c n : Nat) (cs : List CellV) (p : Int) (M : Med) (E : Int) (w : World) (hs : CMat w a cs) (hn : n = cs.length) (hn2 : n ≤ 90000) (hx : ∀ x ∈ cs, x.d.l.length ≤ 140737488355328) (hnc : n ≤ c) (hr : (medOf cap cs).mark p = (M, E)) :
    Calls Try.prog 52 #[.agg #[.int .i64 cap, .slice a n c], .int .i64 p] w fun e w' => ∃ a' c' k cs', e = .returned (.tuple #[.agg #[.int .i64 M.cap, .slice a' k c'], .int .i64 E]) ∧ MedR w' w.heap.size M a' k c' cs' ∧ k ≤ c' ∧ Below w.heap.size w w' := by
  have Hs := Lib.hid hs
  have Hn := Lib.hid hn
  have Hx := Lib.hid hx
  have HR := Lib.hid hr
  have hcl : (medOf cap cs).cells.length = n := (pls_length cs).trans hn.symm
  have Hcl := Lib.hid hcl
  have hz1 := heap_alloc_new w (.cells #[.int .i64 cap, .slice a n c] 32)
  have hz2 := heap_alloc_new (w.alloc (.cells #[.int .i64 cap, .slice a n c] 32)) (.cells #[.int .i64 0, .slice none 0 0] 32)
  rw [World.size_alloc] at hz2
  have hb1 := ext_alloc w (.cells #[.int .i64 cap, .slice a n c] 32)
  have hb2 := ext_alloc (w.alloc (.cells #[.int .i64 cap, .slice a n c] 32)) (.cells #[.int .i64 0, .slice none 0 0] 32)
  have hz1' := (hb2.block w.heap.size (by rw [World.size_alloc]; omega)).trans hz1
  have hb02 := bthen hb1 hb2 (Nat.le_refl _)
  clear hs hn hx hb1 hb2 hz1 hr hcl
  cases hok : (medOf cap cs).ok with
  | false =>
      have hl : M = Med.none ∧ E = 1 := by have := HR.out; unfold Med.mark at this; rw [if_pos hok] at this; simp at this; exact ⟨this.1.symm, this.2.symm⟩
      obtain ⟨rfl, rfl⟩ := hl
      clear HR
      go_enter Try.func52, Try.ntmps52
      go_wp2_with fail
      generalize hw2 : World.alloc _ (Obj.cells #[.int .i64 0, .slice none 0 0] 32) = w2 at *
      clear hw2
      refine (check_any cap a c n cs false w2 (Hs.out.ext hb02) Hn.out (by omega) hok).mono ?_
      rintro e w3 ⟨rfl, hb3⟩
      have g2 := (hb3.block _ (heap_lt hz2)).trans hz2
      have hb03 := bthen hb02 hb3 (Nat.le_refl _)
      clear hb3 hok hz1'
      have hg3 := setRow_heap w3 (w.heap.size + 1) _ #[.int .i64 0, .slice none 0 0] _ _ g2
      have hbF := bsetRow hb03 (show w.heap.size ≤ w.heap.size + 1 by omega) #[.int .i64 0, .slice none 0 0]
      go_wp2_with (refine wpList_store_row rfl rfl 32 (.tmp 4) (.tmp 10) rfl (w.heap.size + 1) rfl 32 #[.int .i64 0, .slice none 0 0] #[.int .i64 0, .slice none 0 0] rfl g2 rfl (by kernel_rfl) (by simp [Value.oneCell']) ?_)
      exact bodyPost_ret (results_cellm (p := 4) (u := 5) rfl _ _ (w.heap.size + 1) _ #[.int .i64 0, .slice none 0 0] _ _ rfl hg3 Try.underlying32 rfl (by kernel_rfl)) rfl
        ⟨none, 0, 0, [], rfl, MedR.none _ _, Nat.le_refl _, hbF⟩
  | true =>
    go_enter Try.func52, Try.ntmps52
    go_wp2_with fail
    generalize hw2 : World.alloc _ (Obj.cells #[.int .i64 0, .slice none 0 0] 32) = w2 at *
    clear hw2
    refine (check_any cap a c n cs true w2 (Hs.out.ext hb02) Hn.out (by omega) hok).mono ?_
    rintro e w3 ⟨rfl, hb3⟩
    have g1 := (hb3.block _ (heap_lt hz1')).trans hz1'
    have g2 := (hb3.block _ (heap_lt hz2)).trans hz2
    have hb03 := bthen hb02 hb3 (Nat.le_refl _)
    have d0 := cell_of_row w3 w.heap.size 0 _ _ _ g1
    have d1 := cell_of_row w3 w.heap.size 1 _ _ _ g1
    clear hb3 hz1' hz2
    go_wp2_with fail
    obtain ⟨W, hW⟩ : ∃ W, W = (medOf cap cs).wrong p 0 false := ⟨_, rfl⟩
    have HW := Lib.hid hW
    refine (wrong_any cap a c n (medOf cap cs) p none 0 0 false W w3 rfl Hcl.out hW.symm).mono ?_
    rintro e w4 ⟨rfl, hb4⟩
    have g1' := (hb4.block _ (heap_lt g1)).trans g1
    have g2' := (hb4.block _ (heap_lt g2)).trans g2
    have hb04 := bthen hb03 hb4 (Nat.le_refl _)
    clear hb4 g1 g2 d0 d1 hb03 hW
    have d0 := cell_of_row w4 w.heap.size 0 _ _ _ g1'
    have d1 := cell_of_row w4 w.heap.size 1 _ _ _ g1'
    by_cases hW0 : W = 0
    · subst hW0
      have hpn : 0 ≤ p ∧ p ≤ (n : Int) := by
        have h := HW.out
        unfold Med.wrong at h
        rw [Hcl.out] at h
        split at h
        · cases h
        · omega
      obtain ⟨p, rfl⟩ := Int.eq_ofNat_of_zero_le hpn.1
      have hl : M = (medOf cap cs).lay p ⟨2, [], false⟩ ∧ E = 0 := by
        have h := HR.out
        unfold Med.mark at h
        rw [if_neg (by rw [hok]; decide), if_neg (by rw [← HW.out]; decide)] at h
        simp at h
        exact ⟨h.1.symm, h.2.symm⟩
      obtain ⟨rfl, rfl⟩ := hl
      have hpn2 : p ≤ n := by omega
      clear HR hpn hok
      go_wp2_with fail
      refine (written_any cap a c n p cs 2 none 0 0 [] w4 (Hs.out.ext hb04) Hn.out hn2 Hx.out hpn2 hnc (Src.nil _ _) rfl (by decide)).mono ?_
      rintro e w5 ⟨a5, c5, cs5, rfl, hl5, ho5, hp5, hb5⟩
      have g3 := (hb5.block _ (heap_lt g2')).trans g2'
      have hMR : MedR w5 w.heap.size ((medOf cap cs).lay p ⟨2, [], false⟩) a5 (p + 1) c5 cs5 := ⟨ho5.mono hb04.size, hl5, hp5⟩
      have HMR := Lib.hid (hMR.setRow (new := #[.int .i64 cap, .slice a5 (p + 1) c5]) g3)
      have hlc := Lib.hid (by have := ho5.row.len.1; rw [hl5] at this; exact this : p + 1 ≤ c5)
      have hg3 := setRow_heap w5 (w.heap.size + 1) _ #[.int .i64 cap, .slice a5 (p + 1) c5] _ _ g3
      have hbF := bsetRow (bthen hb04 hb5 (Nat.le_refl _)) (show w.heap.size ≤ w.heap.size + 1 by omega) #[.int .i64 cap, .slice a5 (p + 1) c5]
      clear hb5 ho5 hMR d0 d1 g1' g2' hp5
      go_wp2_with (refine wpList_store_row rfl rfl 32 (.tmp 4) (.tmp 20) rfl (w.heap.size + 1) rfl 32 #[.int .i64 0, .slice none 0 0] #[.int .i64 cap, .slice a5 (p + 1) c5] rfl g3 rfl (by kernel_rfl) (by simp [Value.oneCell']) ?_)
      exact bodyPost_ret (results_cellm (p := 4) (u := 5) rfl _ _ (w.heap.size + 1) _ #[.int .i64 cap, .slice a5 (p + 1) c5] _ _ rfl hg3 Try.underlying32 rfl (by kernel_rfl)) rfl
        ⟨a5, c5, p + 1, cs5, rfl, HMR.out, hlc.out, hbF⟩
    · have hl : M = Med.none ∧ E = W := by
        have h := HR.out
        unfold Med.mark at h
        rw [if_neg (by rw [hok]; decide), if_pos (by rw [← HW.out]; exact hW0), ← HW.out] at h
        simp at h
        exact ⟨h.1.symm, h.2.symm⟩
      obtain ⟨rfl, rfl⟩ := hl
      have eW : (E != 0) = true := by simpa using hW0
      clear HR hok HW hW0
      have hg3 := setRow_heap w4 (w.heap.size + 1) _ #[.int .i64 0, .slice none 0 0] _ _ g2'
      have hbF := bsetRow hb04 (show w.heap.size ≤ w.heap.size + 1 by omega) #[.int .i64 0, .slice none 0 0]
      go_wp2_with (refine wpList_store_row rfl rfl 32 (.tmp 4) (.tmp 16) rfl (w.heap.size + 1) rfl 32 #[.int .i64 0, .slice none 0 0] #[.int .i64 0, .slice none 0 0] rfl g2' rfl (by kernel_rfl) (by simp [Value.oneCell']) ?_)
      exact bodyPost_ret (results_cellm (p := 4) (u := 5) rfl _ _ (w.heap.size + 1) _ #[.int .i64 0, .slice none 0 0] _ _ rfl hg3 Try.underlying32 rfl (by kernel_rfl)) rfl
        ⟨none, 0, 0, [], rfl, MedR.none _ _, Nat.le_refl _, hbF⟩

set_option maxRecDepth 100000 in
set_option maxHeartbeats 4000000 in
theorem write_any (cap : Int) (a : Option Addr) (c n : Nat) (cs : List CellV) (p : Int) (ab : Option Addr) (m cb : Nat) (l : List Byte) (M : Med) (E : Int) (w : World) (hs : CMat w a cs) (hn : n = cs.length) (hn2 : n ≤ 90000) (hx : ∀ x ∈ cs, x.d.l.length ≤ 140737488355328) (hnc : n ≤ c) (hsb : Src w ab (bvs l)) (hm : m = l.length) (hm2 : m ≤ 140737488355328) (hr : (medOf cap cs).write p l = (M, E)) :
    Calls Try.prog 30 #[.agg #[.int .i64 cap, .slice a n c], .int .i64 p, .slice ab m cb] w fun e w' => ∃ a' c' k cs', e = .returned (.tuple #[.agg #[.int .i64 M.cap, .slice a' k c'], .int .i64 E]) ∧ MedR w' w.heap.size M a' k c' cs' ∧ k ≤ c' ∧ Below w.heap.size w w' := by
  have Hs := Lib.hid hs
  have Hn := Lib.hid hn
  have Hx := Lib.hid hx
  have HR := Lib.hid hr
  have Hsb := Lib.hid hsb
  have Hm := Lib.hid hm
  have hcl : (medOf cap cs).cells.length = n := (pls_length cs).trans hn.symm
  have Hcl := Lib.hid hcl
  have hz1 := heap_alloc_new w (.cells #[.int .i64 cap, .slice a n c] 32)
  have hz2 := heap_alloc_new (w.alloc (.cells #[.int .i64 cap, .slice a n c] 32)) (.cells #[.int .i64 0, .slice none 0 0] 32)
  rw [World.size_alloc] at hz2
  have hb1 := ext_alloc w (.cells #[.int .i64 cap, .slice a n c] 32)
  have hb2 := ext_alloc (w.alloc (.cells #[.int .i64 cap, .slice a n c] 32)) (.cells #[.int .i64 0, .slice none 0 0] 32)
  have hz1' := (hb2.block w.heap.size (by rw [World.size_alloc]; omega)).trans hz1
  have hb02 := bthen hb1 hb2 (Nat.le_refl _)
  clear hsb hm hs hn hx hb1 hb2 hz1 hr hcl
  cases hok : (medOf cap cs).ok with
  | false =>
      have hl : M = Med.none ∧ E = 1 := by have := HR.out; unfold Med.write at this; rw [if_pos hok] at this; simp at this; exact ⟨this.1.symm, this.2.symm⟩
      obtain ⟨rfl, rfl⟩ := hl
      clear HR
      go_enter Try.func30, Try.ntmps30
      go_wp2_with fail
      generalize hw2 : World.alloc _ (Obj.cells #[.int .i64 0, .slice none 0 0] 32) = w2 at *
      clear hw2
      refine (check_any cap a c n cs false w2 (Hs.out.ext hb02) Hn.out (by omega) hok).mono ?_
      rintro e w3 ⟨rfl, hb3⟩
      have g2 := (hb3.block _ (heap_lt hz2)).trans hz2
      have hb03 := bthen hb02 hb3 (Nat.le_refl _)
      clear hb3 hok hz1'
      have hg3 := setRow_heap w3 (w.heap.size + 1) _ #[.int .i64 0, .slice none 0 0] _ _ g2
      have hbF := bsetRow hb03 (show w.heap.size ≤ w.heap.size + 1 by omega) #[.int .i64 0, .slice none 0 0]
      go_wp2_with (refine wpList_store_row rfl rfl 32 (.tmp 6) (.tmp 12) rfl (w.heap.size + 1) rfl 32 #[.int .i64 0, .slice none 0 0] #[.int .i64 0, .slice none 0 0] rfl g2 rfl (by kernel_rfl) (by simp [Value.oneCell']) ?_)
      exact bodyPost_ret (results_cellm (p := 6) (u := 7) rfl _ _ (w.heap.size + 1) _ #[.int .i64 0, .slice none 0 0] _ _ rfl hg3 Try.underlying32 rfl (by kernel_rfl)) rfl
        ⟨none, 0, 0, [], rfl, MedR.none _ _, Nat.le_refl _, hbF⟩
  | true =>
    go_enter Try.func30, Try.ntmps30
    go_wp2_with fail
    generalize hw2 : World.alloc _ (Obj.cells #[.int .i64 0, .slice none 0 0] 32) = w2 at *
    clear hw2
    refine (check_any cap a c n cs true w2 (Hs.out.ext hb02) Hn.out (by omega) hok).mono ?_
    rintro e w3 ⟨rfl, hb3⟩
    have g1 := (hb3.block _ (heap_lt hz1')).trans hz1'
    have g2 := (hb3.block _ (heap_lt hz2)).trans hz2
    have hb03 := bthen hb02 hb3 (Nat.le_refl _)
    have d0 := cell_of_row w3 w.heap.size 0 _ _ _ g1
    have d1 := cell_of_row w3 w.heap.size 1 _ _ _ g1
    clear hb3 hz1' hz2
    go_wp2_with fail
    obtain ⟨W, hW⟩ : ∃ W, W = (medOf cap cs).wrong p l.length true := ⟨_, rfl⟩
    have HW := Lib.hid hW
    refine (wrong_any cap a c n (medOf cap cs) p ab cb m true W w3 rfl Hcl.out (by rw [Hm.out]; exact hW.symm)).mono ?_
    rintro e w4 ⟨rfl, hb4⟩
    have g1' := (hb4.block _ (heap_lt g1)).trans g1
    have g2' := (hb4.block _ (heap_lt g2)).trans g2
    have hb04 := bthen hb03 hb4 (Nat.le_refl _)
    clear hb4 g1 g2 d0 d1 hb03 hW
    have d0 := cell_of_row w4 w.heap.size 0 _ _ _ g1'
    have d1 := cell_of_row w4 w.heap.size 1 _ _ _ g1'
    by_cases hW0 : W = 0
    · subst hW0
      have hpn : 0 ≤ p ∧ p ≤ (n : Int) := by
        have h := HW.out
        unfold Med.wrong at h
        rw [Hcl.out] at h
        split at h
        · cases h
        · omega
      obtain ⟨p, rfl⟩ := Int.eq_ofNat_of_zero_le hpn.1
      have hl : M = (medOf cap cs).lay p ⟨1, l, false⟩ ∧ E = 0 := by
        have h := HR.out
        unfold Med.write at h
        rw [if_neg (by rw [hok]; decide), if_neg (by rw [← HW.out]; decide)] at h
        simp at h
        exact ⟨h.1.symm, h.2.symm⟩
      obtain ⟨rfl, rfl⟩ := hl
      have hpn2 : p ≤ n := by omega
      clear HR hpn hok
      go_wp2_with fail
      refine (written_any cap a c n p cs 1 ab m cb l w4 (Hs.out.ext hb04) Hn.out hn2 Hx.out hpn2 hnc (Hsb.out.ext hb04) Hm.out hm2).mono ?_
      rintro e w5 ⟨a5, c5, cs5, rfl, hl5, ho5, hp5, hb5⟩
      have g3 := (hb5.block _ (heap_lt g2')).trans g2'
      have hMR : MedR w5 w.heap.size ((medOf cap cs).lay p ⟨1, l, false⟩) a5 (p + 1) c5 cs5 := ⟨ho5.mono hb04.size, hl5, hp5⟩
      have HMR := Lib.hid (hMR.setRow (new := #[.int .i64 cap, .slice a5 (p + 1) c5]) g3)
      have hlc := Lib.hid (by have := ho5.row.len.1; rw [hl5] at this; exact this : p + 1 ≤ c5)
      have hg3 := setRow_heap w5 (w.heap.size + 1) _ #[.int .i64 cap, .slice a5 (p + 1) c5] _ _ g3
      have hbF := bsetRow (bthen hb04 hb5 (Nat.le_refl _)) (show w.heap.size ≤ w.heap.size + 1 by omega) #[.int .i64 cap, .slice a5 (p + 1) c5]
      clear hb5 ho5 hMR d0 d1 g1' g2' hp5
      go_wp2_with (refine wpList_store_row rfl rfl 32 (.tmp 6) (.tmp 24) rfl (w.heap.size + 1) rfl 32 #[.int .i64 0, .slice none 0 0] #[.int .i64 cap, .slice a5 (p + 1) c5] rfl g3 rfl (by kernel_rfl) (by simp [Value.oneCell']) ?_)
      exact bodyPost_ret (results_cellm (p := 6) (u := 7) rfl _ _ (w.heap.size + 1) _ #[.int .i64 cap, .slice a5 (p + 1) c5] _ _ rfl hg3 Try.underlying32 rfl (by kernel_rfl)) rfl
        ⟨a5, c5, p + 1, cs5, rfl, HMR.out, hlc.out, hbF⟩
    · have hl : M = Med.none ∧ E = W := by
        have h := HR.out
        unfold Med.write at h
        rw [if_neg (by rw [hok]; decide), if_pos (by rw [← HW.out]; exact hW0), ← HW.out] at h
        simp at h
        exact ⟨h.1.symm, h.2.symm⟩
      obtain ⟨rfl, rfl⟩ := hl
      have eW : (E != 0) = true := by simpa using hW0
      clear HR hok HW hW0
      have hg3 := setRow_heap w4 (w.heap.size + 1) _ #[.int .i64 0, .slice none 0 0] _ _ g2'
      have hbF := bsetRow hb04 (show w.heap.size ≤ w.heap.size + 1 by omega) #[.int .i64 0, .slice none 0 0]
      go_wp2_with (refine wpList_store_row rfl rfl 32 (.tmp 6) (.tmp 19) rfl (w.heap.size + 1) rfl 32 #[.int .i64 0, .slice none 0 0] #[.int .i64 0, .slice none 0 0] rfl g2' rfl (by kernel_rfl) (by simp [Value.oneCell']) ?_)
      exact bodyPost_ret (results_cellm (p := 6) (u := 7) rfl _ _ (w.heap.size + 1) _ #[.int .i64 0, .slice none 0 0] _ _ rfl hg3 Try.underlying32 rfl (by kernel_rfl)) rfl
        ⟨none, 0, 0, [], rfl, MedR.none _ _, Nat.le_refl _, hbF⟩
end Go.Proofs.Ytilmldkaagbofaa
