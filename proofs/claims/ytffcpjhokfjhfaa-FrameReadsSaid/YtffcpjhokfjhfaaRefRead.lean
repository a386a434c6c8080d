/- The page's ReadFrame. -/
import Derived.Test.YtffcpjhokfjhfaaFrameSplit
import Derived.Test.YtffcpjhokfjhfaaRefFrame
namespace Go.Proofs.Ytffcpjhokfjhfaa
open Go.RowKit

set_option maxRecDepth 100000

/-- The page's test of a frame: the whole of it; the program's: its sum. -/
theorem frame_eq {l' : List Byte} {x : Byte} {S N : Nat} (h13 : 13 + N ≤ l'.length) (hx : l'.getD 0 0#8 = x) (hS : numOf ((l'.drop 1).take 4) = S) (hN : numOf ((l'.drop 5).take 4) = N) :
    frameOf ⟨(x.toNat : Int), (S : Int), (l'.drop 13).take N⟩ = l'.take (13 + N) ↔ crcBytesOf (crc (l'.take 9 ++ (l'.drop 13).take N)) = (l'.drop 9).take 4 := by
  have hdl : ((l'.drop 13).take N).length = N := by simp; omega
  have hh : fhead ⟨(x.toNat : Int), (S : Int), (l'.drop 13).take N⟩ = l'.take 9 := by
    have h1 : be x.toNat 1 = l'.take 1 := by
      have e : l'.take 1 = [x] := by
        cases l' with
        | nil => simp at h13
        | cons y t => simp at hx; subst hx; rfl
      rw [e]; simp [be]
    have h4 : be S 4 = (l'.drop 1).take 4 := by
      have := be_numOf ((l'.drop 1).take 4)
      rw [hS, show ((l'.drop 1).take 4).length = 4 by simp; omega] at this
      exact this
    have h5 : be N 4 = (l'.drop 5).take 4 := by
      have := be_numOf ((l'.drop 5).take 4)
      rw [hN, show ((l'.drop 5).take 4).length = 4 by simp; omega] at this
      exact this
    unfold fhead
    simp only [Int.toNat_natCast, hdl]
    rw [h1, h4, h5]
    have e2 : l'.take 9 = l'.take 1 ++ ((l'.drop 1).take 4 ++ (l'.drop 5).take 4) := by
      rw [show (9 : Nat) = 1 + 8 from rfl, List.take_add, show (8 : Nat) = 4 + 4 from rfl, List.take_add, List.drop_drop]
    exact e2.symm
  have e3 : l'.take (13 + N) = l'.take 9 ++ ((l'.drop 9).take 4 ++ (l'.drop 13).take N) := by
    rw [show 13 + N = 9 + (4 + N) by omega, List.take_add, List.take_add, List.drop_drop]
  rw [frameOf, hh, e3, List.append_cancel_left_eq]
  constructor
  · intro h
    have := congrArg (List.take 4) h
    rw [List.take_left' (crcBytesOf_len _), List.take_left' (by simp; omega)] at this
    exact this
  · intro h; rw [h]

theorem refreadf_arg (a : Option Addr) (L c : Nat) (A : Int) (w : World) (h : A < 0 ∨ (L : Int) < A) :
    Calls Try.prog 25 #[.slice a L c, .int .i64 A] w (ReadOut w Rec.zero 0 1) := by
  have hg0 := heap_alloc_new w (.cells #[.int .i64 0, .int .i64 0, .slice none 0 0] 29)
  rcases (show A < 0 ∨ (0 ≤ A ∧ (L : Int) < A) by omega) with h | ⟨h, h2⟩
  all_goals
    go_enter Try.func25, Try.ntmps25
    go_wp2_with (refine wpList_store_row rfl rfl 29 (.tmp 4) (.tmp 17) rfl w.heap.size rfl 29 #[.int .i64 0, .int .i64 0, .slice none 0 0] #[.int .i64 0, .int .i64 0, .slice none 0 0] rfl hg0 rfl (by kernel_rfl) (by simp [Value.oneCell']) ?_)
    exact bodyPost_ret (results_cell3 (p := 4) (u := 5) (v := 6) rfl _ _ w.heap.size _ #[.int .i64 0, .int .i64 0, .slice none 0 0] _ _ rfl (setRow_heap _ w.heap.size _ _ _ _ hg0) Try.underlying29 rfl (by kernel_rfl)) rfl
      ⟨none, 0, rfl, Own.nil _ _ _ _ _, bsetRow (ext_alloc w _) (Nat.le_refl _) _⟩

set_option maxHeartbeats 1000000 in
theorem refreadf_few (L c p : Nat) (w : World) (hp : p ≤ L) (h : L < p + 13) (hL : L ≤ 4611686018427387904) (a : Option Addr) :
    Calls Try.prog 25 #[.slice a L c, .int .i64 (p : Int)] w (ReadOut w Rec.zero 0 3) := by
  have hg0 := heap_alloc_new w (.cells #[.int .i64 0, .int .i64 0, .slice none 0 0] 29)
  go_enter Try.func25, Try.ntmps25
  go_wp2_with (refine wpList_store_row rfl rfl 29 (.tmp 4) (.tmp 23) rfl w.heap.size rfl 29 #[.int .i64 0, .int .i64 0, .slice none 0 0] #[.int .i64 0, .int .i64 0, .slice none 0 0] rfl hg0 rfl (by kernel_rfl) (by simp [Value.oneCell']) ?_)
  exact bodyPost_ret (results_cell3 (p := 4) (u := 5) (v := 6) rfl _ _ w.heap.size _ #[.int .i64 0, .int .i64 0, .slice none 0 0] _ _ rfl (setRow_heap _ w.heap.size _ _ _ _ hg0) Try.underlying29 rfl (by kernel_rfl)) rfl
    ⟨none, 0, rfl, Own.nil _ _ _ _ _, bsetRow (ext_alloc w _) (Nat.le_refl _) _⟩

set_option maxHeartbeats 2000000 in
theorem refreadf_mid (b o L c p : Nat) (l l' : List Byte) (x : Byte) (S N : Nat) (w : World) (hs : Src w (some ⟨b, o, none⟩) (bvs l)) (hL : L = l.length) (hl' : l' = l.drop p) (hp : p + 13 ≤ L) (hc : L ≤ c) (hLm : L ≤ 4611686018427387904)
    (hx : l'.getD 0 0#8 = x) (hS : numOf ((l'.drop 1).take 4) = S) (hN : numOf ((l'.drop 5).take 4) = N) (r : Rec) (nx E : Int)
    (hR : (if recE (x.toNat : Int) (S : Int) 0 ≠ 0 ∨ 8000 < N ∨ l'.length < 13 + N then (Rec.zero, 0, 3)
     else if crcBytesOf (crc (l'.take 9 ++ (l'.drop 13).take N)) = (l'.drop 9).take 4 then (⟨(x.toNat : Int), (S : Int), (l'.drop 13).take N⟩, ((p + 13 + N : Nat) : Int), 0)
     else (Rec.zero, 0, 4)) = (r, nx, E)) :
    Calls Try.prog 25 #[.slice (some ⟨b, o, none⟩) L c, .int .i64 (p : Int)] w (ReadOut w r nx E) := by
  have hl'l : l'.length = L - p := by rw [hl', hL]; simp
  have hs' : Src w (some ⟨b, o + p, none⟩) (bvs l') := by
    have := hs.sub p l.length
    rw [List.take_of_length_le (by simp), ← bvs_drop, ← hl'] at this
    exact this
  obtain ⟨b', o', hbo, hlb, hat⟩ := src_bytes_at hs' (show 0 < l'.length by omega)
  simp only [Option.some.injEq, Addr.mk.injEq, and_true] at hbo
  obtain ⟨rfl, rfl⟩ := hbo
  have hx0 := hat 0 (by omega)
  have hx1 : l'[0]'(by omega) = x := by rw [← hx, List.getD_eq_getElem?_getD, List.getElem?_eq_getElem (by omega)]; rfl
  rw [hx1, Nat.add_zero] at hx0
  have hb01 := ext_alloc w (.cells #[.int .i64 0, .int .i64 0, .slice none 0 0] 29)
  have hg0 := heap_alloc_new w (.cells #[.int .i64 0, .int .i64 0, .slice none 0 0] 29)
  have hsub1 : Src w (some ⟨b, o + (p + 1), none⟩) (bvs ((l'.drop 1).take 4)) := by
    have := hs'.sub 1 4
    rw [← bvs_drop, ← bvs_take, Nat.add_assoc] at this
    exact this
  have hsub5 : Src w (some ⟨b, o + (p + 5), none⟩) (bvs ((l'.drop 5).take 4)) := by
    have := hs'.sub 5 4
    rw [← bvs_drop, ← bvs_take, Nat.add_assoc] at this
    exact this
  have hln1 : ((l'.drop 1).take 4).length = 4 := by simp; omega
  have hln5 : ((l'.drop 5).take 4).length = 4 := by simp; omega
  have hb01' := hb01
  go_enter Try.func25, Try.ntmps25
  clear hx1
  have hx1 := (World.cell?_of_block (w := w) (a := ⟨b, o + p, none⟩) (hb01.block b hlb)).trans hx0
  have hlb1 : b < (w.alloc (.cells #[.int .i64 0, .int .i64 0, .slice none 0 0] 29)).heap.size := by rw [World.size_alloc]; omega
  have HN1 := Lib.hid fun w' (hb : Below (w.alloc (.cells #[.int .i64 0, .int .i64 0, .slice none 0 0] 29)).heap.size (w.alloc (.cells #[.int .i64 0, .int .i64 0, .slice none 0 0] 29)) w') => num01_at (some ⟨b, o + (p + 1), none⟩) 4 (c - (p + 1)) _ S w' (hsub1.ext (bthen hb01 hb (Nat.le_refl _))) hln1.symm (by omega) hS
  have HN5 := Lib.hid fun w' (hb : Below w.heap.size w w') => num01_at (some ⟨b, o + (p + 5), none⟩) 4 (c - (p + 5)) _ N w' (hsub5.ext hb) hln5.symm (by omega) hN
  have HR := Lib.hid hR
  have Hll := Lib.hid hl'l
  have HS := Lib.hid hS
  have HNn := Lib.hid hN
  have Hxx := Lib.hid hx
  clear hR hL hl' hx hS hN hl'l hat hs hln1 hln5 hsub1 hsub5 hx0
  go_wp2_with fail
  generalize (w.alloc (.cells #[.int .i64 0, .int .i64 0, .slice none 0 0] 29)) = w1 at *
  refine wp_region_last2 _ _ (by simp only [lastSplit, Option.map_some]; rfl) (by kernel_rfl) [Sp.eq (.slice (some ⟨b, o, none⟩) L c), Sp.eq (.int .i64 (p : Int)), Sp.eq (.pointer (some ⟨b, o + p, none⟩)), Sp.eq (.int .u8 (x.toNat : Int)), Sp.eq (.int .i64 (x.toNat : Int)), Sp.eq (.slice (some ⟨b, o, none⟩) L c), Sp.eq (.int .i64 (p : Int)), Sp.eq (.int .i64 ((p + 1 : Nat) : Int)), Sp.eq (.int .i64 (p : Int)), Sp.eq (.int .i64 ((p + 5 : Nat) : Int)), Sp.eq (.slice (some ⟨b, o + (p + 1), none⟩) 4 (c - (p + 1))), Sp.eq (.int .i64 (S : Int)), Sp.eq (.agg #[.int .i64 (x.toNat : Int), .int .i64 (S : Int), .slice none 0 0]), ⟨fun w v => ∃ g, v = .pointer (some ⟨g, 0, none⟩) ∧ w1.heap.size ≤ g ∧ w.heap[g]? = some (.cells #[.int .i64 0, .int .i64 0, .slice none 0 0] 29), fun _ _ _ ⟨g, h, hle, hg⟩ hb => ⟨g, h, hle, (hb.block g (heap_lt hg)).trans hg⟩⟩] (by kernel_rfl) (by kernel_rfl) ?_ ?_
  · refine stepsOk_cons ?_ (stepsOk_cons ?_ (stepsOk_cons ?_ (stepsOk_cons ?_ (stepsOk_cons ?_ (stepsOk_cons ?_ (stepsOk_cons ?_ (stepsOk_cons ?_ (stepsOk_cons ?_ (stepsOk_cons ?_ (stepsOk_cons ?_ (stepsOk_cons ?_ (stepsOk_cons ?_ (stepsOk_cons ?_ (stepsOk_nil))))))))))))))
    · intro ρ w' E
      have e0 : ρ (.tmp 0) = .slice (some ⟨b, o, none⟩) L c := E.out 0 rfl
      refine step_plain rfl ?_
      exact op_move (.inl rfl) e0 ⟨Below.refl _ _, rfl⟩
    · intro ρ w' E
      have e1 : ρ (.tmp 1) = .int .i64 (p : Int) := E.out 1 rfl
      refine step_plain rfl ?_
      exact op_move (.inl rfl) e1 ⟨Below.refl _ _, rfl⟩
    · intro ρ w' E
      have e24 : ρ (.tmp 24) = .slice (some ⟨b, o, none⟩) L c := E.pre 0 rfl
      have e25 : ρ (.tmp 25) = .int .i64 (p : Int) := E.pre 1 rfl
      refine step_plain rfl ?_
      refine op_val (v := .pointer (some ⟨b, o + p, none⟩)) (w' := w') ?_ ⟨Below.refl _ _, rfl⟩
      have hcon := E.con
      clear E
      go_simp
      intro hh
      omega
    · intro ρ w' E
      have e26 : ρ (.tmp 26) = .pointer (some ⟨b, o + p, none⟩) := E.pre 2 rfl
      refine step_plain rfl ?_
      refine op_val (v := .int .u8 (x.toNat : Int)) (w' := w') ?_ ⟨Below.refl _ _, rfl⟩
      have hk := (World.cell?_of_block (w := w1) (a := ⟨b, o + p, none⟩) (E.below.block b hlb1)).trans hx1
      have hcon := E.con
      clear E
      go_simp
    · intro ρ w' E
      have e27 : ρ (.tmp 27) = .int .u8 (x.toNat : Int) := E.pre 3 rfl
      refine step_plain rfl ?_
      refine op_val (v := .int .i64 (x.toNat : Int)) (w' := w') ?_ ⟨Below.refl _ _, rfl⟩
      have hcon := E.con
      clear E
      go_simp
      rw [IntKind.wrap_i64]
      have := x.isLt
      omega
    · intro ρ w' E
      have e0 : ρ (.tmp 0) = .slice (some ⟨b, o, none⟩) L c := E.out 0 rfl
      refine step_plain rfl ?_
      exact op_move (.inl rfl) e0 ⟨Below.refl _ _, rfl⟩
    · intro ρ w' E
      have e1 : ρ (.tmp 1) = .int .i64 (p : Int) := E.out 1 rfl
      refine step_plain rfl ?_
      exact op_move (.inl rfl) e1 ⟨Below.refl _ _, rfl⟩
    · intro ρ w' E
      have e30 : ρ (.tmp 30) = .int .i64 (p : Int) := E.pre 6 rfl
      refine step_plain rfl ?_
      refine op_val (v := .int .i64 ((p + 1 : Nat) : Int)) (w' := w') ?_ ⟨Below.refl _ _, rfl⟩
      have hcon := E.con
      clear E
      go_simp
      rw [IntKind.wrap_i64]
      omega
    · intro ρ w' E
      have e1 : ρ (.tmp 1) = .int .i64 (p : Int) := E.out 1 rfl
      refine step_plain rfl ?_
      exact op_move (.inl rfl) e1 ⟨Below.refl _ _, rfl⟩
    · intro ρ w' E
      have e32 : ρ (.tmp 32) = .int .i64 (p : Int) := E.pre 8 rfl
      refine step_plain rfl ?_
      refine op_val (v := .int .i64 ((p + 5 : Nat) : Int)) (w' := w') ?_ ⟨Below.refl _ _, rfl⟩
      have hcon := E.con
      clear E
      go_simp
      rw [IntKind.wrap_i64]
      omega
    · intro ρ w' E
      have e29 : ρ (.tmp 29) = .slice (some ⟨b, o, none⟩) L c := E.pre 5 rfl
      have e31 : ρ (.tmp 31) = .int .i64 ((p + 1 : Nat) : Int) := E.pre 7 rfl
      have e33 : ρ (.tmp 33) = .int .i64 ((p + 5 : Nat) : Int) := E.pre 9 rfl
      refine step_plain rfl ?_
      refine op_val (v := .slice (some ⟨b, o + (p + 1), none⟩) 4 (c - (p + 1))) (w' := w') ?_ ⟨Below.refl _ _, rfl⟩
      have hcp1 : ¬ c = p + 1 := by omega
      have hcon := E.con
      clear E
      go_simp
      rw [if_pos (by omega), if_pos (by omega), show ((p : Int) + 5).toNat - (p + 1) = 4 by omega]
    · intro ρ w' E
      have e34 : ρ (.tmp 34) = .slice (some ⟨b, o + (p + 1), none⟩) 4 (c - (p + 1)) := E.pre 10 rfl
      refine step_plain rfl ?_
      refine op_call (f := 36) (args := #[.slice (some ⟨b, o + (p + 1), none⟩) 4 (c - (p + 1))]) (w' := w') (by have hcon := E.con; have hfn := E.fn; clear E; go_simp) ?_
      refine (HN1.out w' E.below).mono ?_
      rintro e w2 ⟨rfl, rfl⟩
      exact ⟨_, rfl, Below.refl _ _, rfl⟩
    · intro ρ w' E
      have e28 : ρ (.tmp 28) = .int .i64 (x.toNat : Int) := E.pre 4 rfl
      have e35 : ρ (.tmp 35) = .int .i64 (S : Int) := E.pre 11 rfl
      refine step_plain rfl ?_
      refine op_val (v := .agg #[.int .i64 (x.toNat : Int), .int .i64 (S : Int), .slice none 0 0]) (w' := w') ?_ ⟨Below.refl _ _, rfl⟩
      have hcon := E.con
      clear E
      go_simp
    · intro ρ w' E
      refine step_plain rfl ?_
      refine op_val (v := .pointer (some ⟨w'.heap.size, 0, none⟩)) (w' := w'.alloc (.cells #[.int .i64 0, .int .i64 0, .slice none 0 0] 29)) (by have hcon := E.con; clear E; go_simp; try rfl) ⟨ext_alloc _ _, _, rfl, E.below.size, heap_alloc_new _ _⟩
  · intro σ w2 hb12 hall
    obtain ⟨_, _, _, _, _, _, _, _, _, _, _, _, h36, ⟨g7, hp7, hg7, hgg⟩, _⟩ := hall
    have h36 : σ 36 = .agg #[.int .i64 (x.toNat : Int), .int .i64 (S : Int), .slice none 0 0] := h36
    have hp7 : σ 7 = .pointer (some ⟨g7, 0, none⟩) := hp7
    simp only [upd, updL, dstsOf', elemB, List.filterMap_cons, List.filterMap_nil, Nat.reduceAdd, Nat.reduceBEq, Bool.or_false, Bool.false_or, Bool.or_true, Bool.true_or, cond_true, cond_false, Nat.zero_add, hp7, h36]
    have hb02 := bthen hb01 hb12 (Nat.le_refl _)
    have hwg7 : w.heap.size ≤ g7 := Nat.le_trans hb01.size hg7
    have hg3 := setRow_heap w2 g7 _ #[.int .i64 (x.toNat : Int), .int .i64 (S : Int), .slice none 0 0] _ _ hgg
    have hwo : ∀ b', b' < w1.heap.size → (w2.setRow g7 #[.int .i64 (x.toNat : Int), .int .i64 (S : Int), .slice none 0 0]).heap[b']? = w1.heap[b']? := fun b' hb' => (setRow_other w2 g7 b' _ (by omega)).trans (hb12.block b' hb')
    have hl0 := heap_lt hg0
    have hg03 := (hwo _ hl0).trans hg0
    have hb03 := bsetRow hb02 (show w.heap.size ≤ g7 by omega) #[.int .i64 (x.toNat : Int), .int .i64 (S : Int), .slice none 0 0]
    go_wp2_with (first
      | (refine wpList_store_row rfl rfl 29 (.tmp 7) (.tmp 36) rfl g7 rfl 29 #[.int .i64 0, .int .i64 0, .slice none 0 0] #[.int .i64 (x.toNat : Int), .int .i64 (S : Int), .slice none 0 0] rfl hgg rfl (by kernel_rfl) (by simp [Value.oneCell']) ?_))
    generalize hws : World.setRow _ _ _ = w3 at *
    clear hws
    refine (HN5.out w3 hb03).mono ?_
    rintro e w4 ⟨rfl, rfl⟩
    have hs3 : Src w3 (some ⟨b, o + p, none⟩) (bvs l') := hs'.ext hb03
    have hlt7 := heap_lt hg3
    have hne7 : w.heap.size ≠ g7 := by omega
    clear hwo hgg hb02 HN1 HN5 hb01' hp7 h36 hb12 hx1 hlb1 hg0 hl0 hs'
    by_cases hb8 : 8000 < N
    · have hV : r = Rec.zero ∧ nx = 0 ∧ E = 3 := by
        have := HR.out
        rw [if_pos (.inr (.inl hb8))] at this
        simp only [Prod.mk.injEq] at this
        exact ⟨this.1.symm, this.2.1.symm, this.2.2.symm⟩
      obtain ⟨rfl, rfl, rfl⟩ := hV
      go_wp2_with (refine wpList_store_row rfl rfl 29 (.tmp 4) (.tmp 60) rfl w.heap.size rfl 29 #[.int .i64 0, .int .i64 0, .slice none 0 0] #[.int .i64 0, .int .i64 0, .slice none 0 0] rfl hg03 rfl (by kernel_rfl) (by simp [Value.oneCell']) ?_)
      exact bodyPost_ret (results_cell3 (p := 4) (u := 5) (v := 6) rfl _ _ w.heap.size _ #[.int .i64 0, .int .i64 0, .slice none 0 0] _ _ rfl (setRow_heap _ w.heap.size _ _ _ _ hg03) Try.underlying29 rfl (by kernel_rfl)) rfl
        ⟨none, 0, rfl, Own.nil _ _ _ _ _, bsetRow (hb03) (Nat.le_refl _) _⟩
    · by_cases hbl : L < p + 13 + N
      · have hV : r = Rec.zero ∧ nx = 0 ∧ E = 3 := by
          have := HR.out
          rw [if_pos (.inr (.inr (by rw [Hll.out]; omega)))] at this
          simp only [Prod.mk.injEq] at this
          exact ⟨this.1.symm, this.2.1.symm, this.2.2.symm⟩
        obtain ⟨rfl, rfl, rfl⟩ := hV
        have hbl2 : (L : Int) - (p : Int) - 13 < (N : Int) := by omega
        go_wp2_with (refine wpList_store_row rfl rfl 29 (.tmp 4) (.tmp 60) rfl w.heap.size rfl 29 #[.int .i64 0, .int .i64 0, .slice none 0 0] #[.int .i64 0, .int .i64 0, .slice none 0 0] rfl hg03 rfl (by kernel_rfl) (by simp [Value.oneCell']) ?_)
        exact bodyPost_ret (results_cell3 (p := 4) (u := 5) (v := 6) rfl _ _ w.heap.size _ #[.int .i64 0, .int .i64 0, .slice none 0 0] _ _ rfl (setRow_heap _ w.heap.size _ _ _ _ hg03) Try.underlying29 rfl (by kernel_rfl)) rfl
          ⟨none, 0, rfl, Own.nil _ _ _ _ _, bsetRow (hb03) (Nat.le_refl _) _⟩
      · obtain ⟨E', hE'⟩ : ∃ E', recE (x.toNat : Int) (S : Int) 0 = E' := ⟨_, rfl⟩
        have HE' := Lib.hid hE'
        have HC := Lib.hid fun wx => refrec_at ⟨(x.toNat : Int), (S : Int), ⟨none, 0, []⟩⟩ E' wx hE'
        unfold RecV.val at HC
        simp only [List.length_nil] at HC
        have hr3 : RecAt w3 g7 ⟨(x.toNat : Int), (S : Int), ⟨none, 0, []⟩⟩ := hg3
        obtain ⟨k0, k1, k2⟩ := hr3.cells
        simp only [List.length_nil] at k0 k1 k2
        have hbl2 : (N : Int) ≤ (L : Int) - (p : Int) - 13 := by omega
        clear hE'
        go_wp2_with fail
        refine (HC.out w3).mono ?_
        rintro e w4 ⟨rfl, hb4⟩
        have hg4 := heap_own3 hb4 hg3 hlt7
        have hg04 := heap_own3 hb4 hg03 (heap_lt hg03)
        have hs4 := hs3.ext hb4
        have hb04 := bthen hb03 hb4 (Nat.le_refl _)
        clear k0 k1 k2 hr3 hg3 hg03 HC hs3
        by_cases hE0 : E' = 0
        · subst hE0
          have hR2 := HR.out
          rw [HE'.out, if_neg (by rw [Hll.out]; omega)] at hR2
          have HR2 := Lib.hid hR2
          have hiff := frame_eq (l' := l') (x := x) (S := S) (N := N) (by rw [Hll.out]; omega) Hxx.out HS.out HNn.out
          have hdl : ((l'.drop 13).take N).length = N := by simp; have := Hll.out; omega
          have heR : recE (x.toNat : Int) (S : Int) ((l'.drop 13).take N).length = 0 := by
            obtain ⟨u1, u2, u3, u4, _⟩ := recE_ok.1 HE'.out
            exact recE_ok.2 ⟨u1, u2, u3, u4, by omega⟩
          have hsd4 : Src w4 (some ⟨b, o + (p + 13), none⟩) (bvs ((l'.drop 13).take N)) := by
            have := hs4.sub 13 N
            rw [← bvs_drop, ← bvs_take, Nat.add_assoc] at this
            exact this
          have hsl4 : Src w4 (some ⟨b, o + p, none⟩) (bvs (l'.take (13 + N))) := by rw [bvs_take]; exact hs4.take _
          have hsll : (l'.take (13 + N)).length = 13 + N := by simp; have := Hll.out; omega
          have hfl : (frameOf ⟨(x.toNat : Int), (S : Int), (l'.drop 13).take N⟩).length = 13 + N := by rw [frameOf_length]; show 13 + ((l'.drop 13).take N).length = _; rw [hdl]
          generalize hddd : (l'.drop 13).take N = dd at *
          generalize l'.take (13 + N) = sl at *
          obtain ⟨fr, hfr⟩ : ∃ fr, frameOf ⟨(x.toNat : Int), (S : Int), dd⟩ = fr := ⟨_, rfl⟩
          rw [hfr] at hiff hfl
          have Hfrr := Lib.hid hfr
          have Hiff := Lib.hid hiff
          have Hdd := Lib.hid hdl
          have Hfr := Lib.hid hfl
          have Hsl := Lib.hid hsll
          have HeR : Hid ((⟨(x.toNat : Int), (S : Int), dd⟩ : Rec).e = 0) := Lib.hid heR
          clear hfr hiff hdl hfl hsll heR hddd hR2 HR
          by_cases h13 : c = p + 13
          · have hN0 : N = 0 := by omega
            have hdd0 : dd = [] := List.eq_nil_of_length_eq_zero (by rw [Hdd.out]; exact hN0)
            have Hdd0 := Lib.hid hdd0
            subst h13
            clear hdd0 hN0
            go_wp2_with fail
            refine (twin_at _ _ N dd w4 (by rw [Hdd0.out]; exact Src.nil _ _) Hdd.out.symm (by omega)).mono ?_
            rintro e w5 ⟨ad, cd, rfl, hod, hb5⟩
            have hg5 := heap_own3 hb5 hg4 (heap_lt hg4)
            have hg05 := heap_own3 hb5 hg04 (heap_lt hg04)
            have hr5 : RecAt w5 g7 ⟨(x.toNat : Int), (S : Int), ⟨none, 0, []⟩⟩ := hg5
            obtain ⟨k0, k1, k2⟩ := hr5.cells
            have hfz := frozen_of_row w5 g7 2 _ _ hg5
            have hsz4 := hb04.size
            have hb05 := bthen hb04 hb5 (Nat.le_refl _)
            have hwo : ∀ b', b' ≠ g7 → (w5.setCell ⟨g7, 2, none⟩ (.slice ad N cd)).heap[b']? = w5.heap[b']? := fun b' hb' => Below.heap_setCell w5 ⟨g7, 2, none⟩ _ b' hb'
            have hg7 : (w5.setCell ⟨g7, 2, none⟩ (.slice ad N cd)).heap[g7]? = some (.cells #[.int .i64 (x.toNat : Int), .int .i64 (S : Int), .slice ad N cd] 29 (0, 0)) := heap_setCell_same w5 g7 2 _ _ _ hg5
            have hg07 := (hwo _ hne7).trans hg05
            have hod7 := own_store hod hg5 (by decide) hwo
            have hsl7 : Src (w5.setCell ⟨g7, 2, none⟩ (.slice ad N cd)) (some ⟨b, o + p, none⟩) (bvs sl) := (hsl4.ext hb5).keep fun b' o' ha' _ => hwo b' (by simp only [Option.some.injEq, Addr.mk.injEq] at ha'; omega)
            have hb07 := hb05.setCell (p := ⟨g7, 2, none⟩) (show w.heap.size ≤ g7 by omega) (.slice ad N cd)
            go_wp2_with fail
            generalize hws : World.setCell _ _ _ = w7 at *
            clear hws k0 k1 k2 hr5 hfz hwo hb05 hg5 hg05 hg4 hg04 hb5 hsl4 hs4 hb04 hod hsd4
            have hl7 := heap_lt hg7
            have hsd7 : Bsl.ok w7 ⟨ad, cd, dd⟩ := ⟨hod7.src, by show dd.length ≤ _; rw [Hdd.out]; omega⟩
            have HF := Lib.hid fun wx hok => refframe_ok ⟨(x.toNat : Int), (S : Int), ⟨ad, cd, dd⟩⟩ wx hok HeR.out
            unfold RecV.val at HF
            simp only [RecV.pl, Hdd.out, Hfrr.out] at HF
            by_cases hq : fr = sl
            · have Heq : Hid (decide (fr = sl) = true) := Lib.hid (by simp [hq])
              have hV : r = ⟨(x.toNat : Int), (S : Int), dd⟩ ∧ nx = ((p + 13 + N : Nat) : Int) ∧ E = 0 := by
                have := HR2.out
                rw [if_pos (Hiff.out.1 hq)] at this
                simp only [Prod.mk.injEq] at this
                exact ⟨this.1.symm, this.2.1.symm, this.2.2.symm⟩
              obtain ⟨rfl, rfl, rfl⟩ := hV
              clear hq
              refine wp_region_sp (by kernel_rfl) [Sp.eq (.agg #[.int .i64 (x.toNat : Int), .int .i64 (S : Int), .slice ad N cd]), ⟨fun w v => ∃ a' c', v = .slice a' (13 + N) c' ∧ Src w a' (bvs fr), fun _ _ _ ⟨a', c', h, hs⟩ hb => ⟨a', c', h, hs.ext hb⟩⟩, Sp.eq (.slice (some ⟨b, o, none⟩) L (p + 13)), Sp.eq (.int .i64 (p : Int)), Sp.eq (.int .i64 (p : Int)), Sp.eq (.int .i64 ((p + 13 : Nat) : Int)), Sp.eq (.int .i64 (N : Int)), Sp.eq (.int .i64 ((p + 13 + N : Nat) : Int)), Sp.eq (.slice (some ⟨b, o + p, none⟩) (13 + N) 13), Sp.eq (.bool true), Sp.eq (.bool false)] (by kernel_rfl) ?_ ?_
              · refine stepsOk_cons ?_ (stepsOk_cons ?_ (stepsOk_cons ?_ (stepsOk_cons ?_ (stepsOk_cons ?_ (stepsOk_cons ?_ (stepsOk_cons ?_ (stepsOk_cons ?_ (stepsOk_cons ?_ (stepsOk_cons ?_ (stepsOk_cons ?_ (stepsOk_nil)))))))))))
                · intro ρ w' E
                  have e7 : ρ (.tmp 7) = .pointer (some ⟨g7, 0, none⟩) := E.out 7 rfl
                  refine step_plain rfl ?_
                  refine op_val (v := .agg #[.int .i64 (x.toNat : Int), .int .i64 (S : Int), .slice ad N cd]) (w' := w') ?_ ⟨Below.refl _ _, rfl⟩
                  have hg : w'.heap[g7]? = _ := heap_own3 E.below hg7 hl7
                  have j0 : w'.cell? ⟨g7, 0, none⟩ = some (.int .i64 (x.toNat : Int)) := cell_of_row w' g7 0 _ _ _ hg
                  have j1 : w'.cell? ⟨g7, 1, none⟩ = some (.int .i64 (S : Int)) := cell_of_row w' g7 1 _ _ _ hg
                  have j2 : w'.cell? ⟨g7, 2, none⟩ = some (.slice ad N cd) := cell_of_row w' g7 2 _ _ _ hg
                  have hcon := E.con
                  clear E hg
                  go_simp
                · intro ρ w' E
                  have e71 : ρ (.tmp 71) = .agg #[.int .i64 (x.toNat : Int), .int .i64 (S : Int), .slice ad N cd] := E.pre 0 rfl
                  refine step_plain rfl ?_
                  refine op_call (f := 16) (args := #[.agg #[.int .i64 (x.toNat : Int), .int .i64 (S : Int), .slice ad N cd]]) (w' := w') (by have hcon := E.con; have hfn := E.fn; clear E; go_simp) ?_
                  refine (HF.out w' (hsd7.ext E.below)).mono ?_
                  rintro e w2 ⟨a', c', rfl, ho, hb⟩
                  exact ⟨_, rfl, hb, a', c', rfl, ho.src⟩
                · intro ρ w' E
                  have e0 : ρ (.tmp 0) = .slice (some ⟨b, o, none⟩) L (p + 13) := E.out 0 rfl
                  refine step_plain rfl ?_
                  exact op_move (.inl rfl) e0 ⟨Below.refl _ _, rfl⟩
                · intro ρ w' E
                  have e1 : ρ (.tmp 1) = .int .i64 (p : Int) := E.out 1 rfl
                  refine step_plain rfl ?_
                  exact op_move (.inl rfl) e1 ⟨Below.refl _ _, rfl⟩
                · intro ρ w' E
                  have e1 : ρ (.tmp 1) = .int .i64 (p : Int) := E.out 1 rfl
                  refine step_plain rfl ?_
                  exact op_move (.inl rfl) e1 ⟨Below.refl _ _, rfl⟩
                · intro ρ w' E
                  have e75 : ρ (.tmp 75) = .int .i64 (p : Int) := E.pre 4 rfl
                  refine step_plain rfl ?_
                  refine op_val (v := .int .i64 ((p + 13 : Nat) : Int)) (w' := w') ?_ ⟨Below.refl _ _, rfl⟩
                  have hcon := E.con
                  clear E
                  go_simp
                  rw [IntKind.wrap_i64]
                  omega
                · intro ρ w' E
                  have e8 : ρ (.tmp 8) = .int .i64 (N : Int) := E.out 8 rfl
                  refine step_plain rfl ?_
                  exact op_move (.inl rfl) e8 ⟨Below.refl _ _, rfl⟩
                · intro ρ w' E
                  have e76 : ρ (.tmp 76) = .int .i64 ((p + 13 : Nat) : Int) := E.pre 5 rfl
                  have e77 : ρ (.tmp 77) = .int .i64 (N : Int) := E.pre 6 rfl
                  refine step_plain rfl ?_
                  refine op_val (v := .int .i64 ((p + 13 + N : Nat) : Int)) (w' := w') ?_ ⟨Below.refl _ _, rfl⟩
                  have hcon := E.con
                  clear E
                  go_simp
                  rw [IntKind.wrap_i64]
                  omega
                · intro ρ w' E
                  have e73 : ρ (.tmp 73) = .slice (some ⟨b, o, none⟩) L (p + 13) := E.pre 2 rfl
                  have e74 : ρ (.tmp 74) = .int .i64 (p : Int) := E.pre 3 rfl
                  have e78 : ρ (.tmp 78) = .int .i64 ((p + 13 + N : Nat) : Int) := E.pre 7 rfl
                  refine step_plain rfl ?_
                  refine op_val (v := .slice (some ⟨b, o + p, none⟩) (13 + N) 13) (w' := w') ?_ ⟨Below.refl _ _, rfl⟩
                  have hcp1 : ¬ (p + 13) = p := by omega
                  have hcon := E.con
                  clear E
                  go_simp
                  rw [if_pos (by omega), if_pos (by omega), show ((p : Int) + 13 + (N : Int)).toNat - p = 13 + N by omega]
                · intro ρ w' E
                  have p72 : (fun w v => ∃ a' c', v = .slice a' (13 + N) c' ∧ Src w a' (bvs fr)) w' (ρ (.tmp 72)) := E.pre 1 rfl
                  have e79 : ρ (.tmp 79) = .slice (some ⟨b, o + p, none⟩) (13 + N) 13 := E.pre 8 rfl
                  refine step_plain rfl ?_
                  refine op_call (f := 15) (args := #[ρ (.tmp 72), .slice (some ⟨b, o + p, none⟩) (13 + N) 13]) (w' := w') (by have hcon := E.con; have hfn := E.fn; clear E; go_simp) ?_
                  obtain ⟨a', c', e1, hs1⟩ := p72
                  rw [e1]
                  refine (bytes_at a' c' fr _ _ sl w' (13 + N) (13 + N) true hs1 (hsl7.ext E.below) Hfr.out.symm Hsl.out.symm (by omega) (by omega) Heq.out).mono ?_
                  rintro e w2 ⟨rfl, n, rfl⟩
                  exact ⟨_, rfl, ext_drewN _ _ _, rfl⟩
                · intro ρ w' E
                  have e80 : ρ (.tmp 80) = .bool true := E.pre 9 rfl
                  refine step_plain rfl ?_
                  refine op_val (v := .bool false) (w' := w') ?_ ⟨Below.refl _ _, rfl⟩
                  have hcon := E.con
                  clear E
                  go_simp
              · intro σ2 w9 hb89 hall
                have h81 : σ2 81 = .bool false := by obtain ⟨_, _, _, _, _, _, _, _, _, _, h, _⟩ := hall; exact h
                clear hall
                simp only [upd, updL, dstsOf', elemB, List.filterMap_cons, List.filterMap_nil, Nat.reduceAdd, Nat.reduceBEq, Bool.or_false, Bool.false_or, Bool.or_true, Bool.true_or, cond_true, cond_false, Nat.zero_add, h81]
                have hg9 := heap_own3 hb89 hg7 hl7
                have hg09 := heap_own3 hb89 hg07 (heap_lt hg07)
                have hod9 := hod7.ext hb89
                have hb09 := bthen hb07 hb89 (Nat.le_refl _)
                have hdl := Hdd.out
                go_wp2_with (first
                  | refine wpList_load_row rfl 29 (.tmp 7) rfl g7 rfl 29 #[.int .i64 (x.toNat : Int), .int .i64 (S : Int), .slice ad N cd] (0, 0) _ hg9 Try.underlying29 rfl (by kernel_rfl) ?_
                  | refine wpList_store_row rfl rfl 29 (.tmp 4) (.tmp 83) rfl w.heap.size rfl 29 #[.int .i64 0, .int .i64 0, .slice none 0 0] #[.int .i64 (x.toNat : Int), .int .i64 (S : Int), .slice ad N cd] rfl hg09 rfl (by kernel_rfl) (by simp [Value.oneCell']) ?_)
                refine bodyPost_ret (results_cell3 (p := 4) (u := 5) (v := 6) rfl _ _ w.heap.size _ #[.int .i64 (x.toNat : Int), .int .i64 (S : Int), .slice ad N cd] _ _ rfl (setRow_heap _ w.heap.size _ _ _ _ hg09) Try.underlying29 rfl (by kernel_rfl)) rfl
                  ⟨ad, cd, ?_, ?_, bsetRow hb09 (Nat.le_refl _) _⟩
                · rw [show (((p : Int) + 13 + (N : Int))) = ((p + 13 + N : Nat) : Int) by omega]
                  simp only [hdl]
                  rfl
                · have hod10 := own_store hod9 hg09 (by decide) (w' := w9.setRow w.heap.size #[.int .i64 (x.toNat : Int), .int .i64 (S : Int), .slice ad N cd]) (fun b' hb' => setRow_other w9 w.heap.size b' _ hb')
                  simp only [hdl]
                  exact hod10.mono (by omega)
            · have Heq : Hid (decide (fr = sl) = false) := Lib.hid (by simp [hq])
              have hV : r = Rec.zero ∧ nx = 0 ∧ E = 4 := by
                have := HR2.out
                rw [if_neg (fun h => hq (Hiff.out.2 h))] at this
                simp only [Prod.mk.injEq] at this
                exact ⟨this.1.symm, this.2.1.symm, this.2.2.symm⟩
              obtain ⟨rfl, rfl, rfl⟩ := hV
              clear hq
              refine wp_region_sp (by kernel_rfl) [Sp.eq (.agg #[.int .i64 (x.toNat : Int), .int .i64 (S : Int), .slice ad N cd]), ⟨fun w v => ∃ a' c', v = .slice a' (13 + N) c' ∧ Src w a' (bvs fr), fun _ _ _ ⟨a', c', h, hs⟩ hb => ⟨a', c', h, hs.ext hb⟩⟩, Sp.eq (.slice (some ⟨b, o, none⟩) L (p + 13)), Sp.eq (.int .i64 (p : Int)), Sp.eq (.int .i64 (p : Int)), Sp.eq (.int .i64 ((p + 13 : Nat) : Int)), Sp.eq (.int .i64 (N : Int)), Sp.eq (.int .i64 ((p + 13 + N : Nat) : Int)), Sp.eq (.slice (some ⟨b, o + p, none⟩) (13 + N) 13), Sp.eq (.bool false), Sp.eq (.bool true)] (by kernel_rfl) ?_ ?_
              · refine stepsOk_cons ?_ (stepsOk_cons ?_ (stepsOk_cons ?_ (stepsOk_cons ?_ (stepsOk_cons ?_ (stepsOk_cons ?_ (stepsOk_cons ?_ (stepsOk_cons ?_ (stepsOk_cons ?_ (stepsOk_cons ?_ (stepsOk_cons ?_ (stepsOk_nil)))))))))))
                · intro ρ w' E
                  have e7 : ρ (.tmp 7) = .pointer (some ⟨g7, 0, none⟩) := E.out 7 rfl
                  refine step_plain rfl ?_
                  refine op_val (v := .agg #[.int .i64 (x.toNat : Int), .int .i64 (S : Int), .slice ad N cd]) (w' := w') ?_ ⟨Below.refl _ _, rfl⟩
                  have hg : w'.heap[g7]? = _ := heap_own3 E.below hg7 hl7
                  have j0 : w'.cell? ⟨g7, 0, none⟩ = some (.int .i64 (x.toNat : Int)) := cell_of_row w' g7 0 _ _ _ hg
                  have j1 : w'.cell? ⟨g7, 1, none⟩ = some (.int .i64 (S : Int)) := cell_of_row w' g7 1 _ _ _ hg
                  have j2 : w'.cell? ⟨g7, 2, none⟩ = some (.slice ad N cd) := cell_of_row w' g7 2 _ _ _ hg
                  have hcon := E.con
                  clear E hg
                  go_simp
                · intro ρ w' E
                  have e71 : ρ (.tmp 71) = .agg #[.int .i64 (x.toNat : Int), .int .i64 (S : Int), .slice ad N cd] := E.pre 0 rfl
                  refine step_plain rfl ?_
                  refine op_call (f := 16) (args := #[.agg #[.int .i64 (x.toNat : Int), .int .i64 (S : Int), .slice ad N cd]]) (w' := w') (by have hcon := E.con; have hfn := E.fn; clear E; go_simp) ?_
                  refine (HF.out w' (hsd7.ext E.below)).mono ?_
                  rintro e w2 ⟨a', c', rfl, ho, hb⟩
                  exact ⟨_, rfl, hb, a', c', rfl, ho.src⟩
                · intro ρ w' E
                  have e0 : ρ (.tmp 0) = .slice (some ⟨b, o, none⟩) L (p + 13) := E.out 0 rfl
                  refine step_plain rfl ?_
                  exact op_move (.inl rfl) e0 ⟨Below.refl _ _, rfl⟩
                · intro ρ w' E
                  have e1 : ρ (.tmp 1) = .int .i64 (p : Int) := E.out 1 rfl
                  refine step_plain rfl ?_
                  exact op_move (.inl rfl) e1 ⟨Below.refl _ _, rfl⟩
                · intro ρ w' E
                  have e1 : ρ (.tmp 1) = .int .i64 (p : Int) := E.out 1 rfl
                  refine step_plain rfl ?_
                  exact op_move (.inl rfl) e1 ⟨Below.refl _ _, rfl⟩
                · intro ρ w' E
                  have e75 : ρ (.tmp 75) = .int .i64 (p : Int) := E.pre 4 rfl
                  refine step_plain rfl ?_
                  refine op_val (v := .int .i64 ((p + 13 : Nat) : Int)) (w' := w') ?_ ⟨Below.refl _ _, rfl⟩
                  have hcon := E.con
                  clear E
                  go_simp
                  rw [IntKind.wrap_i64]
                  omega
                · intro ρ w' E
                  have e8 : ρ (.tmp 8) = .int .i64 (N : Int) := E.out 8 rfl
                  refine step_plain rfl ?_
                  exact op_move (.inl rfl) e8 ⟨Below.refl _ _, rfl⟩
                · intro ρ w' E
                  have e76 : ρ (.tmp 76) = .int .i64 ((p + 13 : Nat) : Int) := E.pre 5 rfl
                  have e77 : ρ (.tmp 77) = .int .i64 (N : Int) := E.pre 6 rfl
                  refine step_plain rfl ?_
                  refine op_val (v := .int .i64 ((p + 13 + N : Nat) : Int)) (w' := w') ?_ ⟨Below.refl _ _, rfl⟩
                  have hcon := E.con
                  clear E
                  go_simp
                  rw [IntKind.wrap_i64]
                  omega
                · intro ρ w' E
                  have e73 : ρ (.tmp 73) = .slice (some ⟨b, o, none⟩) L (p + 13) := E.pre 2 rfl
                  have e74 : ρ (.tmp 74) = .int .i64 (p : Int) := E.pre 3 rfl
                  have e78 : ρ (.tmp 78) = .int .i64 ((p + 13 + N : Nat) : Int) := E.pre 7 rfl
                  refine step_plain rfl ?_
                  refine op_val (v := .slice (some ⟨b, o + p, none⟩) (13 + N) 13) (w' := w') ?_ ⟨Below.refl _ _, rfl⟩
                  have hcp1 : ¬ (p + 13) = p := by omega
                  have hcon := E.con
                  clear E
                  go_simp
                  rw [if_pos (by omega), if_pos (by omega), show ((p : Int) + 13 + (N : Int)).toNat - p = 13 + N by omega]
                · intro ρ w' E
                  have p72 : (fun w v => ∃ a' c', v = .slice a' (13 + N) c' ∧ Src w a' (bvs fr)) w' (ρ (.tmp 72)) := E.pre 1 rfl
                  have e79 : ρ (.tmp 79) = .slice (some ⟨b, o + p, none⟩) (13 + N) 13 := E.pre 8 rfl
                  refine step_plain rfl ?_
                  refine op_call (f := 15) (args := #[ρ (.tmp 72), .slice (some ⟨b, o + p, none⟩) (13 + N) 13]) (w' := w') (by have hcon := E.con; have hfn := E.fn; clear E; go_simp) ?_
                  obtain ⟨a', c', e1, hs1⟩ := p72
                  rw [e1]
                  refine (bytes_at a' c' fr _ _ sl w' (13 + N) (13 + N) false hs1 (hsl7.ext E.below) Hfr.out.symm Hsl.out.symm (by omega) (by omega) Heq.out).mono ?_
                  rintro e w2 ⟨rfl, n, rfl⟩
                  exact ⟨_, rfl, ext_drewN _ _ _, rfl⟩
                · intro ρ w' E
                  have e80 : ρ (.tmp 80) = .bool false := E.pre 9 rfl
                  refine step_plain rfl ?_
                  refine op_val (v := .bool true) (w' := w') ?_ ⟨Below.refl _ _, rfl⟩
                  have hcon := E.con
                  clear E
                  go_simp
              · intro σ2 w9 hb89 hall
                have h81 : σ2 81 = .bool true := by obtain ⟨_, _, _, _, _, _, _, _, _, _, h, _⟩ := hall; exact h
                clear hall
                simp only [upd, updL, dstsOf', elemB, List.filterMap_cons, List.filterMap_nil, Nat.reduceAdd, Nat.reduceBEq, Bool.or_false, Bool.false_or, Bool.or_true, Bool.true_or, cond_true, cond_false, Nat.zero_add, h81]
                have hg09 := heap_own3 hb89 hg07 (heap_lt hg07)
                have hb09 := bthen hb07 hb89 (Nat.le_refl _)
                go_wp2_with (refine wpList_store_row rfl rfl 29 (.tmp 4) (.tmp 82) rfl w.heap.size rfl 29 #[.int .i64 0, .int .i64 0, .slice none 0 0] #[.int .i64 0, .int .i64 0, .slice none 0 0] rfl hg09 rfl (by kernel_rfl) (by simp [Value.oneCell']) ?_)
                exact bodyPost_ret (results_cell3 (p := 4) (u := 5) (v := 6) rfl _ _ w.heap.size _ #[.int .i64 0, .int .i64 0, .slice none 0 0] _ _ rfl (setRow_heap _ w.heap.size _ _ _ _ hg09) Try.underlying29 rfl (by kernel_rfl)) rfl
                  ⟨none, 0, rfl, Own.nil _ _ _ _ _, bsetRow hb09 (Nat.le_refl _) _⟩
          · go_wp2_with fail
            refine (twin_at _ _ N dd w4 hsd4 Hdd.out.symm (by omega)).mono ?_
            rintro e w5 ⟨ad, cd, rfl, hod, hb5⟩
            have hg5 := heap_own3 hb5 hg4 (heap_lt hg4)
            have hg05 := heap_own3 hb5 hg04 (heap_lt hg04)
            have hr5 : RecAt w5 g7 ⟨(x.toNat : Int), (S : Int), ⟨none, 0, []⟩⟩ := hg5
            obtain ⟨k0, k1, k2⟩ := hr5.cells
            have hfz := frozen_of_row w5 g7 2 _ _ hg5
            have hsz4 := hb04.size
            have hb05 := bthen hb04 hb5 (Nat.le_refl _)
            have hwo : ∀ b', b' ≠ g7 → (w5.setCell ⟨g7, 2, none⟩ (.slice ad N cd)).heap[b']? = w5.heap[b']? := fun b' hb' => Below.heap_setCell w5 ⟨g7, 2, none⟩ _ b' hb'
            have hg7 : (w5.setCell ⟨g7, 2, none⟩ (.slice ad N cd)).heap[g7]? = some (.cells #[.int .i64 (x.toNat : Int), .int .i64 (S : Int), .slice ad N cd] 29 (0, 0)) := heap_setCell_same w5 g7 2 _ _ _ hg5
            have hg07 := (hwo _ hne7).trans hg05
            have hod7 := own_store hod hg5 (by decide) hwo
            have hsl7 : Src (w5.setCell ⟨g7, 2, none⟩ (.slice ad N cd)) (some ⟨b, o + p, none⟩) (bvs sl) := (hsl4.ext hb5).keep fun b' o' ha' _ => hwo b' (by simp only [Option.some.injEq, Addr.mk.injEq] at ha'; omega)
            have hb07 := hb05.setCell (p := ⟨g7, 2, none⟩) (show w.heap.size ≤ g7 by omega) (.slice ad N cd)
            go_wp2_with fail
            generalize hws : World.setCell _ _ _ = w7 at *
            clear hws k0 k1 k2 hr5 hfz hwo hb05 hg5 hg05 hg4 hg04 hb5 hsl4 hs4 hb04 hod hsd4
            have hl7 := heap_lt hg7
            have hsd7 : Bsl.ok w7 ⟨ad, cd, dd⟩ := ⟨hod7.src, by show dd.length ≤ _; rw [Hdd.out]; omega⟩
            have HF := Lib.hid fun wx hok => refframe_ok ⟨(x.toNat : Int), (S : Int), ⟨ad, cd, dd⟩⟩ wx hok HeR.out
            unfold RecV.val at HF
            simp only [RecV.pl, Hdd.out, Hfrr.out] at HF
            by_cases hq : fr = sl
            · have Heq : Hid (decide (fr = sl) = true) := Lib.hid (by simp [hq])
              have hV : r = ⟨(x.toNat : Int), (S : Int), dd⟩ ∧ nx = ((p + 13 + N : Nat) : Int) ∧ E = 0 := by
                have := HR2.out
                rw [if_pos (Hiff.out.1 hq)] at this
                simp only [Prod.mk.injEq] at this
                exact ⟨this.1.symm, this.2.1.symm, this.2.2.symm⟩
              obtain ⟨rfl, rfl, rfl⟩ := hV
              clear hq
              refine wp_region_sp (by kernel_rfl) [Sp.eq (.agg #[.int .i64 (x.toNat : Int), .int .i64 (S : Int), .slice ad N cd]), ⟨fun w v => ∃ a' c', v = .slice a' (13 + N) c' ∧ Src w a' (bvs fr), fun _ _ _ ⟨a', c', h, hs⟩ hb => ⟨a', c', h, hs.ext hb⟩⟩, Sp.eq (.slice (some ⟨b, o, none⟩) L c), Sp.eq (.int .i64 (p : Int)), Sp.eq (.int .i64 (p : Int)), Sp.eq (.int .i64 ((p + 13 : Nat) : Int)), Sp.eq (.int .i64 (N : Int)), Sp.eq (.int .i64 ((p + 13 + N : Nat) : Int)), Sp.eq (.slice (some ⟨b, o + p, none⟩) (13 + N) (c - p)), Sp.eq (.bool true), Sp.eq (.bool false)] (by kernel_rfl) ?_ ?_
              · refine stepsOk_cons ?_ (stepsOk_cons ?_ (stepsOk_cons ?_ (stepsOk_cons ?_ (stepsOk_cons ?_ (stepsOk_cons ?_ (stepsOk_cons ?_ (stepsOk_cons ?_ (stepsOk_cons ?_ (stepsOk_cons ?_ (stepsOk_cons ?_ (stepsOk_nil)))))))))))
                · intro ρ w' E
                  have e7 : ρ (.tmp 7) = .pointer (some ⟨g7, 0, none⟩) := E.out 7 rfl
                  refine step_plain rfl ?_
                  refine op_val (v := .agg #[.int .i64 (x.toNat : Int), .int .i64 (S : Int), .slice ad N cd]) (w' := w') ?_ ⟨Below.refl _ _, rfl⟩
                  have hg : w'.heap[g7]? = _ := heap_own3 E.below hg7 hl7
                  have j0 : w'.cell? ⟨g7, 0, none⟩ = some (.int .i64 (x.toNat : Int)) := cell_of_row w' g7 0 _ _ _ hg
                  have j1 : w'.cell? ⟨g7, 1, none⟩ = some (.int .i64 (S : Int)) := cell_of_row w' g7 1 _ _ _ hg
                  have j2 : w'.cell? ⟨g7, 2, none⟩ = some (.slice ad N cd) := cell_of_row w' g7 2 _ _ _ hg
                  have hcon := E.con
                  clear E hg
                  go_simp
                · intro ρ w' E
                  have e71 : ρ (.tmp 71) = .agg #[.int .i64 (x.toNat : Int), .int .i64 (S : Int), .slice ad N cd] := E.pre 0 rfl
                  refine step_plain rfl ?_
                  refine op_call (f := 16) (args := #[.agg #[.int .i64 (x.toNat : Int), .int .i64 (S : Int), .slice ad N cd]]) (w' := w') (by have hcon := E.con; have hfn := E.fn; clear E; go_simp) ?_
                  refine (HF.out w' (hsd7.ext E.below)).mono ?_
                  rintro e w2 ⟨a', c', rfl, ho, hb⟩
                  exact ⟨_, rfl, hb, a', c', rfl, ho.src⟩
                · intro ρ w' E
                  have e0 : ρ (.tmp 0) = .slice (some ⟨b, o, none⟩) L c := E.out 0 rfl
                  refine step_plain rfl ?_
                  exact op_move (.inl rfl) e0 ⟨Below.refl _ _, rfl⟩
                · intro ρ w' E
                  have e1 : ρ (.tmp 1) = .int .i64 (p : Int) := E.out 1 rfl
                  refine step_plain rfl ?_
                  exact op_move (.inl rfl) e1 ⟨Below.refl _ _, rfl⟩
                · intro ρ w' E
                  have e1 : ρ (.tmp 1) = .int .i64 (p : Int) := E.out 1 rfl
                  refine step_plain rfl ?_
                  exact op_move (.inl rfl) e1 ⟨Below.refl _ _, rfl⟩
                · intro ρ w' E
                  have e75 : ρ (.tmp 75) = .int .i64 (p : Int) := E.pre 4 rfl
                  refine step_plain rfl ?_
                  refine op_val (v := .int .i64 ((p + 13 : Nat) : Int)) (w' := w') ?_ ⟨Below.refl _ _, rfl⟩
                  have hcon := E.con
                  clear E
                  go_simp
                  rw [IntKind.wrap_i64]
                  omega
                · intro ρ w' E
                  have e8 : ρ (.tmp 8) = .int .i64 (N : Int) := E.out 8 rfl
                  refine step_plain rfl ?_
                  exact op_move (.inl rfl) e8 ⟨Below.refl _ _, rfl⟩
                · intro ρ w' E
                  have e76 : ρ (.tmp 76) = .int .i64 ((p + 13 : Nat) : Int) := E.pre 5 rfl
                  have e77 : ρ (.tmp 77) = .int .i64 (N : Int) := E.pre 6 rfl
                  refine step_plain rfl ?_
                  refine op_val (v := .int .i64 ((p + 13 + N : Nat) : Int)) (w' := w') ?_ ⟨Below.refl _ _, rfl⟩
                  have hcon := E.con
                  clear E
                  go_simp
                  rw [IntKind.wrap_i64]
                  omega
                · intro ρ w' E
                  have e73 : ρ (.tmp 73) = .slice (some ⟨b, o, none⟩) L c := E.pre 2 rfl
                  have e74 : ρ (.tmp 74) = .int .i64 (p : Int) := E.pre 3 rfl
                  have e78 : ρ (.tmp 78) = .int .i64 ((p + 13 + N : Nat) : Int) := E.pre 7 rfl
                  refine step_plain rfl ?_
                  refine op_val (v := .slice (some ⟨b, o + p, none⟩) (13 + N) (c - p)) (w' := w') ?_ ⟨Below.refl _ _, rfl⟩
                  have hcp1 : ¬ c = p := by omega
                  have hcon := E.con
                  clear E
                  go_simp
                  rw [if_pos (by omega), if_pos (by omega), show ((p : Int) + 13 + (N : Int)).toNat - p = 13 + N by omega]
                · intro ρ w' E
                  have p72 : (fun w v => ∃ a' c', v = .slice a' (13 + N) c' ∧ Src w a' (bvs fr)) w' (ρ (.tmp 72)) := E.pre 1 rfl
                  have e79 : ρ (.tmp 79) = .slice (some ⟨b, o + p, none⟩) (13 + N) (c - p) := E.pre 8 rfl
                  refine step_plain rfl ?_
                  refine op_call (f := 15) (args := #[ρ (.tmp 72), .slice (some ⟨b, o + p, none⟩) (13 + N) (c - p)]) (w' := w') (by have hcon := E.con; have hfn := E.fn; clear E; go_simp) ?_
                  obtain ⟨a', c', e1, hs1⟩ := p72
                  rw [e1]
                  refine (bytes_at a' c' fr _ _ sl w' (13 + N) (13 + N) true hs1 (hsl7.ext E.below) Hfr.out.symm Hsl.out.symm (by omega) (by omega) Heq.out).mono ?_
                  rintro e w2 ⟨rfl, n, rfl⟩
                  exact ⟨_, rfl, ext_drewN _ _ _, rfl⟩
                · intro ρ w' E
                  have e80 : ρ (.tmp 80) = .bool true := E.pre 9 rfl
                  refine step_plain rfl ?_
                  refine op_val (v := .bool false) (w' := w') ?_ ⟨Below.refl _ _, rfl⟩
                  have hcon := E.con
                  clear E
                  go_simp
              · intro σ2 w9 hb89 hall
                have h81 : σ2 81 = .bool false := by obtain ⟨_, _, _, _, _, _, _, _, _, _, h, _⟩ := hall; exact h
                clear hall
                simp only [upd, updL, dstsOf', elemB, List.filterMap_cons, List.filterMap_nil, Nat.reduceAdd, Nat.reduceBEq, Bool.or_false, Bool.false_or, Bool.or_true, Bool.true_or, cond_true, cond_false, Nat.zero_add, h81]
                have hg9 := heap_own3 hb89 hg7 hl7
                have hg09 := heap_own3 hb89 hg07 (heap_lt hg07)
                have hod9 := hod7.ext hb89
                have hb09 := bthen hb07 hb89 (Nat.le_refl _)
                have hdl := Hdd.out
                go_wp2_with (first
                  | refine wpList_load_row rfl 29 (.tmp 7) rfl g7 rfl 29 #[.int .i64 (x.toNat : Int), .int .i64 (S : Int), .slice ad N cd] (0, 0) _ hg9 Try.underlying29 rfl (by kernel_rfl) ?_
                  | refine wpList_store_row rfl rfl 29 (.tmp 4) (.tmp 83) rfl w.heap.size rfl 29 #[.int .i64 0, .int .i64 0, .slice none 0 0] #[.int .i64 (x.toNat : Int), .int .i64 (S : Int), .slice ad N cd] rfl hg09 rfl (by kernel_rfl) (by simp [Value.oneCell']) ?_)
                refine bodyPost_ret (results_cell3 (p := 4) (u := 5) (v := 6) rfl _ _ w.heap.size _ #[.int .i64 (x.toNat : Int), .int .i64 (S : Int), .slice ad N cd] _ _ rfl (setRow_heap _ w.heap.size _ _ _ _ hg09) Try.underlying29 rfl (by kernel_rfl)) rfl
                  ⟨ad, cd, ?_, ?_, bsetRow hb09 (Nat.le_refl _) _⟩
                · rw [show (((p : Int) + 13 + (N : Int))) = ((p + 13 + N : Nat) : Int) by omega]
                  simp only [hdl]
                  rfl
                · have hod10 := own_store hod9 hg09 (by decide) (w' := w9.setRow w.heap.size #[.int .i64 (x.toNat : Int), .int .i64 (S : Int), .slice ad N cd]) (fun b' hb' => setRow_other w9 w.heap.size b' _ hb')
                  simp only [hdl]
                  exact hod10.mono (by omega)
            · have Heq : Hid (decide (fr = sl) = false) := Lib.hid (by simp [hq])
              have hV : r = Rec.zero ∧ nx = 0 ∧ E = 4 := by
                have := HR2.out
                rw [if_neg (fun h => hq (Hiff.out.2 h))] at this
                simp only [Prod.mk.injEq] at this
                exact ⟨this.1.symm, this.2.1.symm, this.2.2.symm⟩
              obtain ⟨rfl, rfl, rfl⟩ := hV
              clear hq
              refine wp_region_sp (by kernel_rfl) [Sp.eq (.agg #[.int .i64 (x.toNat : Int), .int .i64 (S : Int), .slice ad N cd]), ⟨fun w v => ∃ a' c', v = .slice a' (13 + N) c' ∧ Src w a' (bvs fr), fun _ _ _ ⟨a', c', h, hs⟩ hb => ⟨a', c', h, hs.ext hb⟩⟩, Sp.eq (.slice (some ⟨b, o, none⟩) L c), Sp.eq (.int .i64 (p : Int)), Sp.eq (.int .i64 (p : Int)), Sp.eq (.int .i64 ((p + 13 : Nat) : Int)), Sp.eq (.int .i64 (N : Int)), Sp.eq (.int .i64 ((p + 13 + N : Nat) : Int)), Sp.eq (.slice (some ⟨b, o + p, none⟩) (13 + N) (c - p)), Sp.eq (.bool false), Sp.eq (.bool true)] (by kernel_rfl) ?_ ?_
              · refine stepsOk_cons ?_ (stepsOk_cons ?_ (stepsOk_cons ?_ (stepsOk_cons ?_ (stepsOk_cons ?_ (stepsOk_cons ?_ (stepsOk_cons ?_ (stepsOk_cons ?_ (stepsOk_cons ?_ (stepsOk_cons ?_ (stepsOk_cons ?_ (stepsOk_nil)))))))))))
                · intro ρ w' E
                  have e7 : ρ (.tmp 7) = .pointer (some ⟨g7, 0, none⟩) := E.out 7 rfl
                  refine step_plain rfl ?_
                  refine op_val (v := .agg #[.int .i64 (x.toNat : Int), .int .i64 (S : Int), .slice ad N cd]) (w' := w') ?_ ⟨Below.refl _ _, rfl⟩
                  have hg : w'.heap[g7]? = _ := heap_own3 E.below hg7 hl7
                  have j0 : w'.cell? ⟨g7, 0, none⟩ = some (.int .i64 (x.toNat : Int)) := cell_of_row w' g7 0 _ _ _ hg
                  have j1 : w'.cell? ⟨g7, 1, none⟩ = some (.int .i64 (S : Int)) := cell_of_row w' g7 1 _ _ _ hg
                  have j2 : w'.cell? ⟨g7, 2, none⟩ = some (.slice ad N cd) := cell_of_row w' g7 2 _ _ _ hg
                  have hcon := E.con
                  clear E hg
                  go_simp
                · intro ρ w' E
                  have e71 : ρ (.tmp 71) = .agg #[.int .i64 (x.toNat : Int), .int .i64 (S : Int), .slice ad N cd] := E.pre 0 rfl
                  refine step_plain rfl ?_
                  refine op_call (f := 16) (args := #[.agg #[.int .i64 (x.toNat : Int), .int .i64 (S : Int), .slice ad N cd]]) (w' := w') (by have hcon := E.con; have hfn := E.fn; clear E; go_simp) ?_
                  refine (HF.out w' (hsd7.ext E.below)).mono ?_
                  rintro e w2 ⟨a', c', rfl, ho, hb⟩
                  exact ⟨_, rfl, hb, a', c', rfl, ho.src⟩
                · intro ρ w' E
                  have e0 : ρ (.tmp 0) = .slice (some ⟨b, o, none⟩) L c := E.out 0 rfl
                  refine step_plain rfl ?_
                  exact op_move (.inl rfl) e0 ⟨Below.refl _ _, rfl⟩
                · intro ρ w' E
                  have e1 : ρ (.tmp 1) = .int .i64 (p : Int) := E.out 1 rfl
                  refine step_plain rfl ?_
                  exact op_move (.inl rfl) e1 ⟨Below.refl _ _, rfl⟩
                · intro ρ w' E
                  have e1 : ρ (.tmp 1) = .int .i64 (p : Int) := E.out 1 rfl
                  refine step_plain rfl ?_
                  exact op_move (.inl rfl) e1 ⟨Below.refl _ _, rfl⟩
                · intro ρ w' E
                  have e75 : ρ (.tmp 75) = .int .i64 (p : Int) := E.pre 4 rfl
                  refine step_plain rfl ?_
                  refine op_val (v := .int .i64 ((p + 13 : Nat) : Int)) (w' := w') ?_ ⟨Below.refl _ _, rfl⟩
                  have hcon := E.con
                  clear E
                  go_simp
                  rw [IntKind.wrap_i64]
                  omega
                · intro ρ w' E
                  have e8 : ρ (.tmp 8) = .int .i64 (N : Int) := E.out 8 rfl
                  refine step_plain rfl ?_
                  exact op_move (.inl rfl) e8 ⟨Below.refl _ _, rfl⟩
                · intro ρ w' E
                  have e76 : ρ (.tmp 76) = .int .i64 ((p + 13 : Nat) : Int) := E.pre 5 rfl
                  have e77 : ρ (.tmp 77) = .int .i64 (N : Int) := E.pre 6 rfl
                  refine step_plain rfl ?_
                  refine op_val (v := .int .i64 ((p + 13 + N : Nat) : Int)) (w' := w') ?_ ⟨Below.refl _ _, rfl⟩
                  have hcon := E.con
                  clear E
                  go_simp
                  rw [IntKind.wrap_i64]
                  omega
                · intro ρ w' E
                  have e73 : ρ (.tmp 73) = .slice (some ⟨b, o, none⟩) L c := E.pre 2 rfl
                  have e74 : ρ (.tmp 74) = .int .i64 (p : Int) := E.pre 3 rfl
                  have e78 : ρ (.tmp 78) = .int .i64 ((p + 13 + N : Nat) : Int) := E.pre 7 rfl
                  refine step_plain rfl ?_
                  refine op_val (v := .slice (some ⟨b, o + p, none⟩) (13 + N) (c - p)) (w' := w') ?_ ⟨Below.refl _ _, rfl⟩
                  have hcp1 : ¬ c = p := by omega
                  have hcon := E.con
                  clear E
                  go_simp
                  rw [if_pos (by omega), if_pos (by omega), show ((p : Int) + 13 + (N : Int)).toNat - p = 13 + N by omega]
                · intro ρ w' E
                  have p72 : (fun w v => ∃ a' c', v = .slice a' (13 + N) c' ∧ Src w a' (bvs fr)) w' (ρ (.tmp 72)) := E.pre 1 rfl
                  have e79 : ρ (.tmp 79) = .slice (some ⟨b, o + p, none⟩) (13 + N) (c - p) := E.pre 8 rfl
                  refine step_plain rfl ?_
                  refine op_call (f := 15) (args := #[ρ (.tmp 72), .slice (some ⟨b, o + p, none⟩) (13 + N) (c - p)]) (w' := w') (by have hcon := E.con; have hfn := E.fn; clear E; go_simp) ?_
                  obtain ⟨a', c', e1, hs1⟩ := p72
                  rw [e1]
                  refine (bytes_at a' c' fr _ _ sl w' (13 + N) (13 + N) false hs1 (hsl7.ext E.below) Hfr.out.symm Hsl.out.symm (by omega) (by omega) Heq.out).mono ?_
                  rintro e w2 ⟨rfl, n, rfl⟩
                  exact ⟨_, rfl, ext_drewN _ _ _, rfl⟩
                · intro ρ w' E
                  have e80 : ρ (.tmp 80) = .bool false := E.pre 9 rfl
                  refine step_plain rfl ?_
                  refine op_val (v := .bool true) (w' := w') ?_ ⟨Below.refl _ _, rfl⟩
                  have hcon := E.con
                  clear E
                  go_simp
              · intro σ2 w9 hb89 hall
                have h81 : σ2 81 = .bool true := by obtain ⟨_, _, _, _, _, _, _, _, _, _, h, _⟩ := hall; exact h
                clear hall
                simp only [upd, updL, dstsOf', elemB, List.filterMap_cons, List.filterMap_nil, Nat.reduceAdd, Nat.reduceBEq, Bool.or_false, Bool.false_or, Bool.or_true, Bool.true_or, cond_true, cond_false, Nat.zero_add, h81]
                have hg09 := heap_own3 hb89 hg07 (heap_lt hg07)
                have hb09 := bthen hb07 hb89 (Nat.le_refl _)
                go_wp2_with (refine wpList_store_row rfl rfl 29 (.tmp 4) (.tmp 82) rfl w.heap.size rfl 29 #[.int .i64 0, .int .i64 0, .slice none 0 0] #[.int .i64 0, .int .i64 0, .slice none 0 0] rfl hg09 rfl (by kernel_rfl) (by simp [Value.oneCell']) ?_)
                exact bodyPost_ret (results_cell3 (p := 4) (u := 5) (v := 6) rfl _ _ w.heap.size _ #[.int .i64 0, .int .i64 0, .slice none 0 0] _ _ rfl (setRow_heap _ w.heap.size _ _ _ _ hg09) Try.underlying29 rfl (by kernel_rfl)) rfl
                  ⟨none, 0, rfl, Own.nil _ _ _ _ _, bsetRow hb09 (Nat.le_refl _) _⟩
        · have hV : r = Rec.zero ∧ nx = 0 ∧ E = 3 := by
            have := HR.out
            rw [if_pos (.inl (by rw [HE'.out]; exact hE0))] at this
            simp only [Prod.mk.injEq] at this
            exact ⟨this.1.symm, this.2.1.symm, this.2.2.symm⟩
          obtain ⟨rfl, rfl, rfl⟩ := hV
          have hne : ((E' : Int) != 0) = true := by simpa using hE0
          clear hE0
          go_wp2_with (refine wpList_store_row rfl rfl 29 (.tmp 4) (.tmp 60) rfl w.heap.size rfl 29 #[.int .i64 0, .int .i64 0, .slice none 0 0] #[.int .i64 0, .int .i64 0, .slice none 0 0] rfl hg04 rfl (by kernel_rfl) (by simp [Value.oneCell']) ?_)
          exact bodyPost_ret (results_cell3 (p := 4) (u := 5) (v := 6) rfl _ _ w.heap.size _ #[.int .i64 0, .int .i64 0, .slice none 0 0] _ _ rfl (setRow_heap _ w.heap.size _ _ _ _ hg04) Try.underlying29 rfl (by kernel_rfl)) rfl
            ⟨none, 0, rfl, Own.nil _ _ _ _ _, bsetRow (hb04) (Nat.le_refl _) _⟩

theorem refreadf_at (a : Option Addr) (L c : Nat) (l : List Byte) (A : Int) (r : Rec) (nx E : Int) (w : World) (hs : Src w a (bvs l)) (hL : L = l.length) (hc : L ≤ c) (hLm : L ≤ 4611686018427387904) (hR : readF l A = (r, nx, E)) :
    Calls Try.prog 25 #[.slice a L c, .int .i64 A] w (ReadOut w r nx E) := by
  by_cases h1 : A < 0 ∨ (L : Int) < A
  · have : readF l A = (Rec.zero, 0, 1) := by unfold readF; rw [if_pos (by omega)]
    rw [this] at hR
    simp only [Prod.mk.injEq] at hR
    obtain ⟨rfl, rfl, rfl⟩ := hR
    exact refreadf_arg a L c A w h1
  · obtain ⟨p, rfl⟩ := Int.eq_ofNat_of_zero_le (show 0 ≤ A by omega)
    by_cases h2 : L < p + 13
    · have : readF l (p : Int) = (Rec.zero, 0, 3) := by
        unfold readF
        have e0 : ((p : Int)).toNat = p := by simp
        rw [e0, if_neg (by omega), if_pos (by omega)]
      rw [this] at hR
      simp only [Prod.mk.injEq] at hR
      obtain ⟨rfl, rfl, rfl⟩ := hR
      exact refreadf_few L c p w (by omega) h2 hLm a
    · obtain ⟨b, o, rfl, _, _⟩ := src_bytes_at hs (show 0 < l.length by omega)
      rw [readF_mid (l' := l.drop p) rfl (by omega) (by simp; omega)] at hR
      exact refreadf_mid b o L c p l _ _ _ _ w hs hL rfl (by omega) hc hLm rfl rfl rfl r nx E hR
end Go.Proofs.Ytffcpjhokfjhfaa
