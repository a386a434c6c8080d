/- medium.written, New, Mark, Write, End. -/
import Derived.Test.YtilmldkaagbofaaMedLay
import Derived.Test.YtilmldkaagbofaaMedFiles
namespace Go.Proofs.Ytilmldkaagbofaa
open Go.RowKit

theorem pls_take (cs : List CellV) (p : Nat) : pls (cs.take p) = (pls cs).take p := by simp [pls, List.map_take]
theorem pls_snoc (cs : List CellV) (x : CellV) : pls (cs ++ [x]) = pls cs ++ [x.pl] := by simp [pls]

set_option maxRecDepth 100000 in
set_option maxHeartbeats 4000000 in
theorem written_any (cap : Int) (a : Option Addr) (c n p : Nat) (cs : List CellV) (kind : Int) (ab : Option Addr) (m cb : Nat) (l : List Byte) (w : World) (hs : CMat w a cs) (hn : n = cs.length) (hn2 : n ≤ 90000) (hx : ∀ x ∈ cs, x.d.l.length ≤ 140737488355328) (hp : p ≤ n) (hnc : n ≤ c) (hsb : Src w ab (bvs l)) (hm : m = l.length) (hm2 : m ≤ 140737488355328) :
    Calls Try.prog 105 #[.agg #[.int .i64 cap, .slice a n c], .int .i64 (p : Int), .int .i64 kind, .slice ab m cb] w fun e w' => ∃ a' c' cs', e = .returned (.agg #[.int .i64 cap, .slice a' (p + 1) c']) ∧ cs'.length = p + 1 ∧ OwnM w' w.heap.size a' c' cs' ∧ pls cs' = (pls cs).take p ++ [⟨kind, l, false⟩] ∧ Below w.heap.size w w' := by
  have Hs := Lib.hid hs
  have Hn := Lib.hid hn
  have Hx := Lib.hid hx
  have Hsb := Lib.hid hsb
  have Hm := Lib.hid hm
  have hpc : (p : Int) ≤ (c : Int) := by omega
  have hpc2 : ¬ c < p := by omega
  have hz1 := heap_alloc_new w (.cells #[.int .i64 cap, .slice a n c] 32)
  have hz2 := heap_alloc_new (w.alloc (.cells #[.int .i64 cap, .slice a n c] 32)) (.cells #[.int .i64 0, .slice none 0 0] 32)
  rw [World.size_alloc] at hz2
  have hb1 := ext_alloc w (.cells #[.int .i64 cap, .slice a n c] 32)
  have hb2 := ext_alloc (w.alloc (.cells #[.int .i64 cap, .slice a n c] 32)) (.cells #[.int .i64 0, .slice none 0 0] 32)
  have hz1' := (hb2.block w.heap.size (by rw [World.size_alloc]; omega)).trans hz1
  have hb02 := bthen hb1 hb2 (Nat.le_refl _)
  clear hs hn hx hb1 hb2 hz1 hsb hm
  go_enter Try.func105, Try.ntmps105
  go_wp2_with fail
  generalize hw2 : World.alloc _ (Obj.cells #[.int .i64 0, .slice none 0 0] 32) = w2 at *
  have d0 := cell_of_row w2 w.heap.size 0 _ _ _ hz1'
  have d1 := cell_of_row w2 w.heap.size 1 _ _ _ hz1'
  have hl1 := heap_lt hz1'
  have Hs2 := Lib.hid (Hs.out.ext hb02)
  clear hw2
  have Hs0 := Hs
  clear Hs
  have Hs := Hs2
  refine wp_region_last2 _ _ (by simp only [lastSplit, Option.map_some]; rfl) (by kernel_rfl) [Sp.eq (.pointer (some ⟨w.heap.size, 0, none⟩)), Sp.eq (.int .i64 cap), Sp.eq (.pointer (some ⟨w.heap.size, 1, none⟩)), Sp.eq (.slice a n c), Sp.eq (.int .i64 (p : Int)), Sp.eq (.slice a p c), Sp.eq (.agg #[.int .i64 cap, .slice a p c]), ⟨fun w' v => ∃ (a4 : Option Addr) (c4 : Nat) (cs4 : List CellV), v = .agg #[.int .i64 cap, .slice a4 p c4] ∧ cs4.length = p ∧ OwnM w' w2.heap.size a4 c4 cs4 ∧ pls cs4 = pls (cs.take p), fun _ _ _ ⟨a4, c4, cs4, h, hl, ho, hp⟩ hb => ⟨a4, c4, cs4, h, hl, ho.ext hb, hp⟩⟩, ⟨fun w' v => ∃ x, v = .pointer (some ⟨x, 0, none⟩) ∧ w2.heap.size ≤ x ∧ w'.heap[x]? = some (.cells #[.int .i64 0, .slice none 0 0] 32 (0, 0)), fun _ _ _ ⟨x, h, hx, hg⟩ hb => ⟨x, h, hx, (hb.block x (heap_lt hg)).trans hg⟩⟩] (by kernel_rfl) (by kernel_rfl) ?_ ?_
  · refine stepsOk_cons ?_ (stepsOk_cons ?_ (stepsOk_cons ?_ (stepsOk_cons ?_ (stepsOk_cons ?_ (stepsOk_cons ?_ (stepsOk_cons ?_ (stepsOk_cons ?_ (stepsOk_cons ?_ (stepsOk_nil)))))))))
    · intro ρ w' E
      have e4 : ρ (.tmp 4) = .pointer (some ⟨w.heap.size, 0, none⟩) := E.out 4 rfl
      refine step_plain rfl ?_
      refine op_val (v := .pointer (some ⟨w.heap.size, 0, none⟩)) (w' := w') ?_ ⟨Below.refl _ _, rfl⟩
      have hcon := E.con
      clear E
      go_simp
    · intro ρ w' E
      have e10 : ρ (.tmp 10) = .pointer (some ⟨w.heap.size, 0, none⟩) := E.pre 0 rfl
      refine step_plain rfl ?_
      refine op_val (v := .int .i64 cap) (w' := w') ?_ ⟨Below.refl _ _, rfl⟩
      have hk := (World.cell?_of_block (w := w2) (E.below.block _ hl1)).trans d0
      have hcon := E.con
      clear E d0 d1
      go_simp
    · intro ρ w' E
      have e4 : ρ (.tmp 4) = .pointer (some ⟨w.heap.size, 0, none⟩) := E.out 4 rfl
      refine step_plain rfl ?_
      refine op_val (v := .pointer (some ⟨w.heap.size, 1, none⟩)) (w' := w') ?_ ⟨Below.refl _ _, rfl⟩
      have hcon := E.con
      clear E
      go_simp
    · intro ρ w' E
      have e12 : ρ (.tmp 12) = .pointer (some ⟨w.heap.size, 1, none⟩) := E.pre 2 rfl
      refine step_plain rfl ?_
      refine op_val (v := .slice a n c) (w' := w') ?_ ⟨Below.refl _ _, rfl⟩
      have hk := (World.cell?_of_block (w := w2) (E.below.block _ hl1)).trans d1
      have hcon := E.con
      clear E d0 d1
      go_simp
    · intro ρ w' E
      have e1 : ρ (.tmp 1) = .int .i64 (p : Int) := E.out 1 rfl
      refine step_plain rfl ?_
      exact op_move (.inl rfl) e1 ⟨Below.refl _ _, rfl⟩
    · intro ρ w' E
      have e13 : ρ (.tmp 13) = .slice a n c := E.pre 3 rfl
      have e14 : ρ (.tmp 14) = .int .i64 (p : Int) := E.pre 4 rfl
      refine step_plain rfl ?_
      refine op_val (v := .slice a p c) (w' := w') ?_ ⟨Below.refl _ _, rfl⟩
      have hcon := E.con
      clear E d0 d1
      go_simp
    · intro ρ w' E
      have e11 : ρ (.tmp 11) = .int .i64 cap := E.pre 1 rfl
      have e15 : ρ (.tmp 15) = .slice a p c := E.pre 5 rfl
      refine step_plain rfl ?_
      refine op_val (v := .agg #[.int .i64 cap, .slice a p c]) (w' := w') ?_ ⟨Below.refl _ _, rfl⟩
      have hcon := E.con
      clear E
      go_simp
    · intro ρ w' E
      have e16 : ρ (.tmp 16) = .agg #[.int .i64 cap, .slice a p c] := E.pre 6 rfl
      refine step_plain rfl ?_
      refine op_call (f := 102) (args := #[.agg #[.int .i64 cap, .slice a p c]]) (w' := w') (by have hcon := E.con; have hfn := E.fn; clear E; go_simp) ?_
      refine (med_twin cap a c p (cs.take p) w' ((Hs.out.take p).ext E.below) (by rw [List.length_take]; have := Hn.out; omega) (by omega) fun x hx => Hx.out x (List.mem_of_mem_take hx)).mono ?_
      rintro e w3 ⟨a4, c4, cs4, rfl, hl4, ho4, hp4, hb4⟩
      exact ⟨_, rfl, hb4, a4, c4, cs4, rfl, hl4, ho4.mono E.below.size, hp4⟩
    · intro ρ w' E
      refine step_plain rfl ?_
      refine op_val (v := .pointer (some ⟨w'.heap.size, 0, none⟩)) (w' := w'.alloc (.cells #[.int .i64 0, .slice none 0 0] 32)) (by have hcon := E.con; clear E; go_simp; try rfl) ⟨ext_alloc _ _, _, rfl, E.below.size, heap_alloc_at _ _⟩
  · intro σ w3 hb3 hall
    obtain ⟨_, _, _, _, _, _, _, ⟨a4, c4, cs4, h17, hl4, ho4, hp4⟩, ⟨x, h9, hx9, hg9⟩, _⟩ := hall
    have h17 : σ 17 = .agg #[.int .i64 cap, .slice a4 p c4] := h17
    have h9 : σ 9 = .pointer (some ⟨x, 0, none⟩) := h9
    simp only [upd, updL, dstsOf', elemB, List.filterMap_cons, List.filterMap_nil, Nat.reduceAdd, Nat.reduceBEq, Bool.or_false, Bool.false_or, Bool.or_true, Bool.true_or, cond_true, cond_false, Nat.zero_add, h17, h9]
    have ho4 : OwnM w3 w2.heap.size a4 c4 cs4 := ho4
    have hg9 : w3.heap[x]? = some (.cells #[.int .i64 0, .slice none 0 0] 32 (0, 0)) := hg9
    have hx9 : w2.heap.size ≤ x := hx9
    have hl2 := heap_lt hz2
    have g2 := (hb3.block _ hl2).trans hz2
    have hb03 := bthen hb02 hb3 (Nat.le_refl _)
    have hm3 : Mod (fun b T => b = x ∧ T = 32) w3 (w3.setRow x #[.int .i64 cap, .slice a4 p c4]) := Mod.one (bsetRow (Below.refl x _) (Nat.le_refl _) _) (fun b hb => setRow_other w3 _ b _ hb) hg9 (setRow_heap w3 _ _ _ _ _ hg9) ⟨rfl, rfl⟩
    have hgx := setRow_heap w3 x _ #[.int .i64 cap, .slice a4 p c4] _ _ hg9
    have g2' : (w3.setRow x #[.int .i64 cap, .slice a4 p c4]).heap[w.heap.size + 1]? = _ := (setRow_other w3 x (w.heap.size + 1) _ (by omega)).trans g2
    have ho5 := ho4.mod hm3 fun b T hf => ⟨fun h => by rw [hf.2] at h; revert h; decide, fun h => by rw [hf.2] at h; revert h; decide⟩
    have hb05 := bsetRow hb03 (show w.heap.size ≤ x by have := hb02.size; omega) #[.int .i64 cap, .slice a4 p c4]
    clear d0 d1 hz1' hl1 hm3
    go_wp2_with (refine wpList_store_row rfl rfl 32 (.tmp 9) (.tmp 17) rfl x rfl 32 #[.int .i64 0, .slice none 0 0] #[.int .i64 cap, .slice a4 p c4] rfl hg9 rfl (by kernel_rfl) (by simp [Value.oneCell']) ?_)
    have hB5 : w2.heap.size ≤ (w3.setRow x #[.int .i64 cap, .slice a4 p c4]).heap.size := by simpa using hb3.size
    have hx1 : x < (w3.setRow x #[.int .i64 cap, .slice a4 p c4]).heap.size := heap_lt hgx
    have hx2 : x ≠ w.heap.size + 1 := by omega
    generalize hw5 : World.setRow _ _ _ = w5 at *
    have e1 := cell_of_row w5 x 1 _ _ _ hgx
    refine (lay_any w2.heap.size x 0 p p c4 a4 cs4 _ _ kind ab m cb l w5 hgx (by decide) (by decide) e1 (by have := ho5.row; rw [hl4] at this; exact this) hl4.symm (by omega) (Nat.le_refl _) (Hsb.out.ext hb05) Hm.out hm2 hB5).mono ?_
    rintro e w6 ⟨rfl, a6, c6, ad, cd, hg6, ho6, hd6, hm6, _⟩
    have hm6 : Mod (LF w2.heap.size x 32 a4) w5 w6 := hm6.mono fun _ _ _ h => h.1
    have hBw : w.heap.size ≤ w2.heap.size := hb02.size
    have hno8 : ∀ b, ¬ LF w2.heap.size x 32 a4 b 5 := by rintro b (⟨_, h⟩ | ⟨h, _⟩) <;> revert h <;> decide
    have g6 : w6.heap[w.heap.size + 1]? = _ := hm6.keep g2' (by rintro (⟨h, _⟩ | ⟨h, _⟩); exact hx2 h.symm; revert h; decide)
    have hb06 : Below w.heap.size w w6 := hb05.trans (hm6.below (by rintro b T (⟨h, _⟩ | ⟨_, h, _⟩) <;> omega) hb05.size)
    have hcs : OwnM w6 w.heap.size a6 c6 (cs4 ++ [⟨kind, ⟨ad, cd, l⟩, false⟩]) := by
      refine ⟨?_, fun y hy => ?_, ho5.apart.snoc (w := w5) (w' := w6) (B := w5.heap.size) ho5.dat (by have := hd6; rw [Hm.out] at this; exact this) (Nat.le_refl _)⟩
      · rw [List.length_append, hl4]
        rw [List.take_of_length_le (by omega)] at ho6
        exact ho6.mono hBw
      · rcases List.mem_append.1 hy with hy | hy
        · exact (((ho5.dat y hy).mod hm6 fun b _ _ => hno8 b)).mono hBw
        · simp only [List.mem_singleton] at hy
          subst hy
          have := hd6.mono (base' := w.heap.size) hb05.size
          rw [Hm.out] at this
          exact this
    have Hcs := Lib.hid hcs
    have Hp4 := Lib.hid (show pls (cs4 ++ [⟨kind, ⟨ad, cd, l⟩, false⟩]) = (pls cs).take p ++ [⟨kind, l, false⟩] by rw [pls_snoc, hp4, pls_take]; rfl)
    have Hl4 := Lib.hid (show (cs4 ++ ([⟨kind, ⟨ad, cd, l⟩, false⟩] : List CellV)).length = p + 1 by rw [List.length_append, hl4]; rfl)
    have hg6' : w6.heap[x]? = some (.cells #[.int .i64 cap, .slice a6 (p + 1) c6] 32 (0, 0)) := hg6
    have f0 := cell_of_row w6 x 0 _ _ _ hg6'
    have f1 := cell_of_row w6 x 1 _ _ _ hg6'
    have hfin : OwnM (w6.setRow (w.heap.size + 1) #[.int .i64 cap, .slice a6 (p + 1) c6]) w.heap.size a6 c6 (cs4 ++ [⟨kind, ⟨ad, cd, l⟩, false⟩]) := by
      have hm : Mod (fun b T => T = 32) w6 (w6.setRow (w.heap.size + 1) #[.int .i64 cap, .slice a6 (p + 1) c6]) := Mod.one (bsetRow (Below.refl (w.heap.size + 1) _) (Nat.le_refl _) _) (fun b hb => setRow_other w6 _ b _ hb) g6 (setRow_heap w6 _ _ _ _ _ g6) rfl
      exact Hcs.out.mod hm fun b T hf => ⟨fun h => by subst hf; revert h; decide, fun h => by subst hf; revert h; decide⟩
    have Hfin := Lib.hid hfin
    have hbF := bsetRow hb06 (show w.heap.size ≤ w.heap.size + 1 by omega) #[.int .i64 cap, .slice a6 (p + 1) c6]
    have hgF := setRow_heap w6 (w.heap.size + 1) _ #[.int .i64 cap, .slice a6 (p + 1) c6] _ _ g6
    clear hfin hcs ho6 hd6 hm6 ho5 ho4 hp4 hl4 e1 hgx hg6 hb05 hb03 hw5
    go_wp2_with (refine wpList_store_row rfl rfl 32 (.tmp 8) (.tmp 22) rfl (w.heap.size + 1) rfl 32 #[.int .i64 0, .slice none 0 0] #[.int .i64 cap, .slice a6 (p + 1) c6] rfl g6 rfl (by kernel_rfl) (by simp [Value.oneCell']) ?_)
    exact bodyPost_ret (v := .agg _) (results_cell_row (p := 8) rfl _ _ (w.heap.size + 1) _ #[.int .i64 cap, .slice a6 (p + 1) c6] _ _ rfl hgF Try.underlying32 rfl (by kernel_rfl)) rfl
      ⟨a6, c6, _, rfl, Hl4.out, Hfin.out, Hp4.out, hbF⟩
end Go.Proofs.Ytilmldkaagbofaa
