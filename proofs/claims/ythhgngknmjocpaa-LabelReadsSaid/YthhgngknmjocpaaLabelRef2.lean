/- The page's ReadLabel; cellarerlaw14.wakes. -/
import Derived.Test.YthhgngknmjocpaaLabelRef
import Derived.Test.YthhgngknmjocpaaLabelRead
import Derived.Test.YthhgngknmjocpaaRegionLast
namespace Go.Proofs.Ythhgngknmjocpaa
open Go.RowKit

set_option maxRecDepth 100000

/-- Too short, or too long. -/
theorem refread_len (a : Option Addr) (L c : Nat) (w : World) (h : L ≠ 14) (hL : L ≤ 9223372036854775807) :
    Calls Try.prog 33 #[.slice a L c] w fun r w' => r = .returned (.tuple #[labV 0 0 0, .int .i64 13]) ∧ Below w.heap.size w w' := by
  have h1 : ((L : Int) != 14) = true := by simp; omega
  unfold labV
  go_enter Try.func33, Try.ntmps33
  have hg0 := heap_alloc_new w (.cells #[.int .i64 0, .int .i64 0, .int .i64 0] 37)
  go_wp2_with (refine wpList_store_row rfl rfl 37 (.tmp 2) (.tmp 8) rfl w.heap.size rfl 37 #[.int .i64 0, .int .i64 0, .int .i64 0] #[.int .i64 0, .int .i64 0, .int .i64 0] rfl hg0 rfl (by kernel_rfl) (by simp [Value.oneCell']) ?_)
  exact bodyPost_ret (results_cell2 (p := 2) (u := 3) rfl _ _ w.heap.size _ #[.int .i64 0, .int .i64 0, .int .i64 0] _ _ rfl (setRow_heap _ w.heap.size _ _ _ _ hg0) Try.underlying37 rfl (by kernel_rfl)) rfl
    ⟨rfl, bsetRow (ext_alloc w _) (Nat.le_refl _) _⟩

set_option maxHeartbeats 1000000 in
theorem refread_14 (a : Option Addr) (c : Nat) (l : List Byte) (V P E R : Int) (w : World) (hs : Src w a (bvs l)) (hL : l.length = 14) (hc : 14 ≤ c) (hR : labR l = (V, P, E, R)) :
    Calls Try.prog 33 #[.slice a 14 c] w fun r w' => r = .returned (.tuple #[labV V P E, .int .i64 R]) ∧ Below w.heap.size w w' := by
  obtain ⟨b, o, rfl, hlb, hat⟩ := src_bytes_at hs (show 0 < l.length by omega)
  have hsub : Src w (some ⟨b, o + 6, none⟩) (bvs ((l.drop 6).take 4)) := by
    rw [bvs_take, bvs_drop]; exact hs.sub 6 4
  have hG : Hid (∀ w' a c, Src w' a (bvs ((l.drop 6).take 4)) → Calls Try.prog 61 #[.slice a 4 c] w' fun e w'' => e = .returned (.int .i64 ((numOf ((l.drop 6).take 4) : Nat) : Int)) ∧ w' = w'') :=
    Lib.hid fun w' a c hs => num14_at a 4 c _ _ w' hs (by simp; omega) (by omega) rfl
  have h4 := hat 4 (by omega)
  have h5 := hat 5 (by omega)
  have g4 : l.getD 4 0#8 = l[4]'(by omega) := by rw [List.getD_eq_getElem?_getD, List.getElem?_eq_getElem (by omega)]; rfl
  have g5 : l.getD 5 0#8 = l[5]'(by omega) := by rw [List.getD_eq_getElem?_getD, List.getElem?_eq_getElem (by omega)]; rfl
  unfold labR labOf at hR
  rw [g4, g5] at hR
  generalize l[4]'(by omega) = x at h4 hR
  generalize l[5]'(by omega) = y at h5 hR
  generalize (l.drop 6).take 4 = m at hG hR hsub
  generalize numOf m = n at hG hR
  have HR := Lib.hid hR
  have HL := Lib.hid hL
  clear hR hL g4 g5 hat
  unfold labV
  go_enter Try.func33, Try.ntmps33
  have hg0 := heap_alloc_new w (.cells #[.int .i64 0, .int .i64 0, .int .i64 0] 37)
  go_wp2_with fail
  have hb01 := ext_alloc w (.cells #[.int .i64 0, .int .i64 0, .int .i64 0] 37)
  have h4 := (World.cell?_of_block (w := w) (a := ⟨b, o + 4, none⟩) (hb01.block b hlb)).trans h4
  have h5 := (World.cell?_of_block (w := w) (a := ⟨b, o + 5, none⟩) (hb01.block b hlb)).trans h5
  have hs1 := hs.ext hb01
  have hsub1 := hsub.ext hb01
  generalize w.alloc (.cells #[.int .i64 0, .int .i64 0, .int .i64 0] 37) = w1 at *
  have hltb : b < w1.heap.size := Nat.lt_of_lt_of_le hlb hb01.size
  have hltA := heap_lt hg0
  clear hlb hs hsub
  refine wp_region_last2 _ _ (by simp only [lastSplit, Option.map_some]; rfl) (by kernel_rfl) [Sp.eq (.slice (some ⟨b, o, none⟩) 14 c), Sp.eq (.pointer (some ⟨b, o + 4, none⟩)), Sp.eq (.int .u8 (x.toNat : Int)), Sp.eq (.int .i64 (x.toNat : Int)), Sp.eq (.slice (some ⟨b, o, none⟩) 14 c), Sp.eq (.pointer (some ⟨b, o + 5, none⟩)), Sp.eq (.int .u8 (y.toNat : Int)), Sp.eq (.int .i64 (y.toNat : Int)), Sp.eq (.slice (some ⟨b, o, none⟩) 14 c), Sp.eq (.slice (some ⟨b, o + 6, none⟩) 4 (c - 6)), Sp.eq (.int .i64 (n : Int)), Sp.eq (.agg #[.int .i64 (x.toNat : Int), .int .i64 (y.toNat : Int), .int .i64 (n : Int)]), ⟨fun w v => ∃ g, v = .pointer (some ⟨g, 0, none⟩) ∧ w1.heap.size ≤ g ∧ w.heap[g]? = some (.cells #[.int .i64 0, .int .i64 0, .int .i64 0] 37), fun _ _ _ ⟨g, h, hle, hg⟩ hb => ⟨g, h, hle, (hb.block g (heap_lt hg)).trans hg⟩⟩] (by kernel_rfl) (by kernel_rfl) ?_ ?_
  · refine stepsOk_cons ?_ (stepsOk_cons ?_ (stepsOk_cons ?_ (stepsOk_cons ?_ (stepsOk_cons ?_ (stepsOk_cons ?_ (stepsOk_cons ?_ (stepsOk_cons ?_ (stepsOk_cons ?_ (stepsOk_cons ?_ (stepsOk_cons ?_ (stepsOk_cons ?_ (stepsOk_cons ?_ (stepsOk_nil)))))))))))))
    · intro ρ w' E
      have e0 : ρ (.tmp 0) = .slice (some ⟨b, o, none⟩) 14 c := E.out 0 rfl
      refine step_plain rfl ?_
      exact op_move (.inl rfl) e0 ⟨Below.refl _ _, rfl⟩
    · intro ρ w' E
      have e9 : ρ (.tmp 9) = .slice (some ⟨b, o, none⟩) 14 c := E.pre 0 rfl
      refine step_plain rfl ?_
      refine op_val (v := .pointer (some ⟨b, o + 4, none⟩)) (w' := w') ?_ ⟨Below.refl _ _, rfl⟩
      have hcon := E.con
      clear E
      go_simp
    · intro ρ w' E
      have e10 : ρ (.tmp 10) = .pointer (some ⟨b, o + 4, none⟩) := E.pre 1 rfl
      refine step_plain rfl ?_
      refine op_val (v := .int .u8 (x.toNat : Int)) (w' := w') ?_ ⟨Below.refl _ _, rfl⟩
      have hk := (World.cell?_of_block (w := w1) (a := ⟨b, o + 4, none⟩) (E.below.block b hltb)).trans h4
      have hcon := E.con
      clear E h4 h5
      go_simp
    · intro ρ w' E
      have e11 : ρ (.tmp 11) = .int .u8 (x.toNat : Int) := E.pre 2 rfl
      refine step_plain rfl ?_
      refine op_val (v := .int .i64 (x.toNat : Int)) (w' := w') ?_ ⟨Below.refl _ _, rfl⟩
      have hcon := E.con
      clear E
      go_simp
      rw [IntKind.wrap_i64]
      have := x.isLt
      omega
    · intro ρ w' E
      have e0 : ρ (.tmp 0) = .slice (some ⟨b, o, none⟩) 14 c := E.out 0 rfl
      refine step_plain rfl ?_
      exact op_move (.inl rfl) e0 ⟨Below.refl _ _, rfl⟩
    · intro ρ w' E
      have e13 : ρ (.tmp 13) = .slice (some ⟨b, o, none⟩) 14 c := E.pre 4 rfl
      refine step_plain rfl ?_
      refine op_val (v := .pointer (some ⟨b, o + 5, none⟩)) (w' := w') ?_ ⟨Below.refl _ _, rfl⟩
      have hcon := E.con
      clear E
      go_simp
    · intro ρ w' E
      have e14 : ρ (.tmp 14) = .pointer (some ⟨b, o + 5, none⟩) := E.pre 5 rfl
      refine step_plain rfl ?_
      refine op_val (v := .int .u8 (y.toNat : Int)) (w' := w') ?_ ⟨Below.refl _ _, rfl⟩
      have hk := (World.cell?_of_block (w := w1) (a := ⟨b, o + 5, none⟩) (E.below.block b hltb)).trans h5
      have hcon := E.con
      clear E h4 h5
      go_simp
    · intro ρ w' E
      have e15 : ρ (.tmp 15) = .int .u8 (y.toNat : Int) := E.pre 6 rfl
      refine step_plain rfl ?_
      refine op_val (v := .int .i64 (y.toNat : Int)) (w' := w') ?_ ⟨Below.refl _ _, rfl⟩
      have hcon := E.con
      clear E
      go_simp
      rw [IntKind.wrap_i64]
      have := y.isLt
      omega
    · intro ρ w' E
      have e0 : ρ (.tmp 0) = .slice (some ⟨b, o, none⟩) 14 c := E.out 0 rfl
      refine step_plain rfl ?_
      exact op_move (.inl rfl) e0 ⟨Below.refl _ _, rfl⟩
    · intro ρ w' E
      have e17 : ρ (.tmp 17) = .slice (some ⟨b, o, none⟩) 14 c := E.pre 8 rfl
      refine step_plain rfl ?_
      refine op_val (v := .slice (some ⟨b, o + 6, none⟩) 4 (c - 6)) (w' := w') ?_ ⟨Below.refl _ _, rfl⟩
      have hcon := E.con
      clear E
      go_simp
      rw [if_pos (by omega), if_neg (by omega)]
    · intro ρ w' E
      have e18 : ρ (.tmp 18) = .slice (some ⟨b, o + 6, none⟩) 4 (c - 6) := E.pre 9 rfl
      refine step_plain rfl ?_
      refine op_call (f := 61) (args := #[.slice (some ⟨b, o + 6, none⟩) 4 (c - 6)]) (w' := w') (by have hcon := E.con; have hfn := E.fn; clear E; go_simp) ?_
      refine (hG.out _ _ _ (hsub1.ext E.below)).mono ?_
      rintro r w2 ⟨rfl, rfl⟩
      exact ⟨_, rfl, Below.refl _ _, rfl⟩
    · intro ρ w' E
      have e12 : ρ (.tmp 12) = .int .i64 (x.toNat : Int) := E.pre 3 rfl
      have e16 : ρ (.tmp 16) = .int .i64 (y.toNat : Int) := E.pre 7 rfl
      have e19 : ρ (.tmp 19) = .int .i64 (n : Int) := E.pre 10 rfl
      refine step_plain rfl ?_
      refine op_val (v := .agg #[.int .i64 (x.toNat : Int), .int .i64 (y.toNat : Int), .int .i64 (n : Int)]) (w' := w') ?_ ⟨Below.refl _ _, rfl⟩
      have hcon := E.con
      clear E
      go_simp
    · intro ρ w' E
      refine step_plain rfl ?_
      refine op_val (v := .pointer (some ⟨w'.heap.size, 0, none⟩)) (w' := w'.alloc (.cells #[.int .i64 0, .int .i64 0, .int .i64 0] 37)) (by have hcon := E.con; clear E; go_simp; try rfl) ⟨ext_alloc _ _, _, rfl, E.below.size, heap_alloc_new _ _⟩
  · intro σ w2 hb12 hall
    obtain ⟨_, _, _, _, _, _, _, _, _, _, _, h20, ⟨g, hp4, hg4, hgg⟩, _⟩ := hall
    have h20 : σ 20 = .agg #[.int .i64 (x.toNat : Int), .int .i64 (y.toNat : Int), .int .i64 (n : Int)] := h20
    have hp4 : σ 4 = .pointer (some ⟨g, 0, none⟩) := hp4
    have hgA := (hb12.block w.heap.size hltA).trans hg0
    have hb02 := bthen hb01 hb12 (Nat.le_refl _)
    have hs2 := hs1.ext hb12
    have hgne : w.heap.size < g := by omega
    clear h4 h5 hG hb01 hb12 hs1 hsub1
    simp only [upd, updL, dstsOf', elemB, List.filterMap_cons, List.filterMap_nil, Nat.reduceAdd, Nat.reduceBEq, Bool.or_false, Bool.false_or, Bool.or_true, Bool.true_or, cond_true, cond_false, Nat.zero_add, hp4, h20]
    have hgB3 := setRow_heap w2 g _ #[.int .i64 (x.toNat : Int), .int .i64 (y.toNat : Int), .int .i64 (n : Int)] _ _ hgg
    have hgA3 := (setRow_other w2 g w.heap.size #[.int .i64 (x.toNat : Int), .int .i64 (y.toNat : Int), .int .i64 (n : Int)] (by omega)).trans hgA
    have hs3 : Src (w2.setRow g #[.int .i64 (x.toNat : Int), .int .i64 (y.toNat : Int), .int .i64 (n : Int)]) (some ⟨b, o, none⟩) (bvs l) := hs2.keep fun b' o' e hlt => setRow_other w2 g b' _ (by simp only [Option.some.injEq, Addr.mk.injEq] at e; omega)
    have hb03 := bsetRow hb02 (show w.heap.size ≤ g by omega) #[.int .i64 (x.toNat : Int), .int .i64 (y.toNat : Int), .int .i64 (n : Int)]
    go_wp2_with (first
      | (refine wpList_store_row rfl rfl 37 (.tmp 4) (.tmp 20) rfl g rfl 37 #[.int .i64 0, .int .i64 0, .int .i64 0] #[.int .i64 (x.toNat : Int), .int .i64 (y.toNat : Int), .int .i64 (n : Int)] rfl hgg rfl (by kernel_rfl) (by simp [Value.oneCell']) ?_)
      | (refine wpList_load_row rfl 37 (.tmp 4) rfl g rfl 37 #[.int .i64 (x.toNat : Int), .int .i64 (y.toNat : Int), .int .i64 (n : Int)] (0, 0) _ hgB3 Try.underlying37 rfl (by kernel_rfl) ?_))
    clear hgg hgA hs2 hb02
    generalize w2.setRow g #[.int .i64 (x.toNat : Int), .int .i64 (y.toNat : Int), .int .i64 (n : Int)] = w3 at *
    have hltA3 := heap_lt hgA3
    have hltB3 := heap_lt hgB3
    cases hok : okL (x.toNat : Int) (y.toNat : Int) (n : Int) with
    | false =>
      have hV : V = 0 ∧ P = 0 ∧ E = 0 ∧ R = 13 := by
        have := HR.out
        simp only [hok] at this
        simp at this
        omega
      obtain ⟨rfl, rfl, rfl, rfl⟩ := hV
      refine (reflabel_at _ _ _ false w3 hok).mono ?_
      rintro r w4 ⟨rfl, hb4⟩
      have hgA4 := heap_own hb4 hgA3 hltA3
      have hb04 := bthen hb03 hb4 (Nat.le_refl _)
      clear hok
      go_wp2_with (refine wpList_store_row rfl rfl 37 (.tmp 2) (.tmp 31) rfl w.heap.size rfl 37 #[.int .i64 0, .int .i64 0, .int .i64 0] #[.int .i64 0, .int .i64 0, .int .i64 0] rfl hgA4 rfl (by kernel_rfl) (by simp [Value.oneCell']) ?_)
      exact bodyPost_ret (results_cell2 (p := 2) (u := 3) rfl _ _ w.heap.size _ #[.int .i64 0, .int .i64 0, .int .i64 0] _ _ rfl (setRow_heap _ w.heap.size _ _ _ _ hgA4) Try.underlying37 rfl (by kernel_rfl)) rfl
        ⟨rfl, bsetRow (hb04) (Nat.le_refl _) _⟩
    | true =>
      refine (reflabel_at _ _ _ true w3 hok).mono ?_
      rintro r w4 ⟨rfl, hb4⟩
      have hgA4 := heap_own hb4 hgA3 hltA3
      have hgB4 := heap_own hb4 hgB3 hltB3
      have hltA4 := heap_lt hgA4
      have hltB4 := heap_lt hgB4
      have hb04 := bthen hb03 hb4 (Nat.le_refl _)
      have hs4 := hs3.ext hb4
      have HB := Lib.hid (reflabbytes_at (x.toNat : Int) (y.toNat : Int) (n : Int) _ w4 hok rfl)
      have HLB := Lib.hid (lbytes_length (x.toNat : Int) (y.toNat : Int) (n : Int))
      by_cases hbl : lbytes (x.toNat : Int) (y.toNat : Int) (n : Int) = l
      · have hV : V = x.toNat ∧ P = y.toNat ∧ E = n ∧ R = 0 := by
          have := HR.out
          simp only [hok, hbl, HL.out] at this
          simp at this
          omega
        obtain ⟨rfl, rfl, rfl, rfl⟩ := hV
        have Hbl := Lib.hid hbl
        clear hok hbl
        have k0 : w4.cell? ⟨g, 0, none⟩ = some (.int .i64 (x.toNat : Int)) := cell_of_row w4 g 0 _ _ _ hgB4
        have k1 : w4.cell? ⟨g, 1, none⟩ = some (.int .i64 (y.toNat : Int)) := cell_of_row w4 g 1 _ _ _ hgB4
        have k2 : w4.cell? ⟨g, 2, none⟩ = some (.int .i64 (n : Int)) := cell_of_row w4 g 2 _ _ _ hgB4
        go_wp2_with fail
        clear k0 k1 k2
        refine HB.out.mono ?_
        rintro r w5 ⟨a5, c5, rfl, hown5, hb5⟩
        have hgA5 := heap_own hb5 hgA4 hltA4
        have hgB5 := heap_own hb5 hgB4 hltB4
        have hb05 := bthen hb04 hb5 (Nat.le_refl _)
        have hs5 := hs4.ext hb5
        have ho5 := hown5.src
        rw [Hbl.out] at ho5
        clear hown5
        go_wp2_with fail
        refine (bytes_at _ _ l _ _ l w5 14 14 true ho5 hs5 HL.out.symm HL.out.symm (by omega) (by omega) (by simp)).mono ?_
        rintro r w6 ⟨rfl, k, rfl⟩
        have hgA6 : (w5.drewN k).heap[w.heap.size]? = _ := hgA5
        have hgB6 : (w5.drewN k).heap[g]? = _ := hgB5
        go_wp2_with (first
          | refine wpList_load_row rfl 37 (.tmp 4) rfl g rfl 37 #[.int .i64 (x.toNat : Int), .int .i64 (y.toNat : Int), .int .i64 (n : Int)] (0, 0) _ hgB6 Try.underlying37 rfl (by kernel_rfl) ?_
          | refine wpList_store_row rfl rfl 37 (.tmp 2) (.tmp 32) rfl w.heap.size rfl 37 #[.int .i64 0, .int .i64 0, .int .i64 0] #[.int .i64 (x.toNat : Int), .int .i64 (y.toNat : Int), .int .i64 (n : Int)] rfl hgA6 rfl (by kernel_rfl) (by simp [Value.oneCell']) ?_)
        exact bodyPost_ret (results_cell2 (p := 2) (u := 3) rfl _ _ w.heap.size _ #[.int .i64 (x.toNat : Int), .int .i64 (y.toNat : Int), .int .i64 (n : Int)] _ _ rfl (setRow_heap _ w.heap.size _ _ _ _ hgA6) Try.underlying37 rfl (by kernel_rfl)) rfl
          ⟨rfl, bsetRow (below_drewN hb05 k) (Nat.le_refl _) _⟩
      · have hV : V = 0 ∧ P = 0 ∧ E = 0 ∧ R = 13 := by
          have := HR.out
          simp only [hok, hbl, HL.out] at this
          simp at this
          omega
        obtain ⟨rfl, rfl, rfl, rfl⟩ := hV
        have Hbl := Lib.hid hbl
        clear hok hbl
        have k0 : w4.cell? ⟨g, 0, none⟩ = some (.int .i64 (x.toNat : Int)) := cell_of_row w4 g 0 _ _ _ hgB4
        have k1 : w4.cell? ⟨g, 1, none⟩ = some (.int .i64 (y.toNat : Int)) := cell_of_row w4 g 1 _ _ _ hgB4
        have k2 : w4.cell? ⟨g, 2, none⟩ = some (.int .i64 (n : Int)) := cell_of_row w4 g 2 _ _ _ hgB4
        go_wp2_with fail
        clear k0 k1 k2
        refine HB.out.mono ?_
        rintro r w5 ⟨a5, c5, rfl, hown5, hb5⟩
        have hgA5 := heap_own hb5 hgA4 hltA4
        have hb05 := bthen hb04 hb5 (Nat.le_refl _)
        have hs5 := hs4.ext hb5
        have ho5 := hown5.src
        clear hown5
        go_wp2_with fail
        refine (bytes_at _ _ _ _ _ l w5 14 14 false ho5 hs5 HLB.out.symm HL.out.symm (by omega) (by omega) (by simpa using Hbl.out)).mono ?_
        rintro r w6 ⟨rfl, k, rfl⟩
        have hgA6 : (w5.drewN k).heap[w.heap.size]? = _ := hgA5
        go_wp2_with (refine wpList_store_row rfl rfl 37 (.tmp 2) (.tmp 31) rfl w.heap.size rfl 37 #[.int .i64 0, .int .i64 0, .int .i64 0] #[.int .i64 0, .int .i64 0, .int .i64 0] rfl hgA6 rfl (by kernel_rfl) (by simp [Value.oneCell']) ?_)
        exact bodyPost_ret (results_cell2 (p := 2) (u := 3) rfl _ _ w.heap.size _ #[.int .i64 0, .int .i64 0, .int .i64 0] _ _ rfl (setRow_heap _ w.heap.size _ _ _ _ hgA6) Try.underlying37 rfl (by kernel_rfl)) rfl
          ⟨rfl, bsetRow (below_drewN hb05 k) (Nat.le_refl _) _⟩

theorem refread_at (a : Option Addr) (L c : Nat) (l : List Byte) (V P E R : Int) (w : World) (hs : Src w a (bvs l)) (hL : L = l.length) (hl : L ≤ 9223372036854775807) (hc : L ≤ c) (hR : labR l = (V, P, E, R)) :
    Calls Try.prog 33 #[.slice a L c] w fun r w' => r = .returned (.tuple #[labV V P E, .int .i64 R]) ∧ Below w.heap.size w w' := by
  by_cases h : L = 14
  · subst h
    exact refread_14 a c l V P E R w hs hL.symm hc hR
  · rw [labR_len (by omega)] at hR
    simp only [Prod.mk.injEq] at hR
    obtain ⟨rfl, rfl, rfl, rfl⟩ := hR
    exact refread_len a L c w h hl
end Go.Proofs.Ythhgngknmjocpaa
