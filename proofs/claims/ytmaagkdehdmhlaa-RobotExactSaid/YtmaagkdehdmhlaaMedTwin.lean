/- medium.Twin. -/
import Derived.Test.YtmaagkdehdmhlaaRobotExactPartC
import Derived.Test.YtmaagkdehdmhlaaRegionLast
namespace Go.Proofs.Ytmaagkdehdmhlaa
open Go.RowKit

/-- Rows of bytes that lie in blocks of their own. -/
def Apart (cs : List CellV) : Prop := cs.Pairwise fun x y => x.d.l ≠ [] → y.d.l ≠ [] → x.d.a ≠ y.d.a
theorem Apart.snoc {cs : List CellV} {x : CellV} {w w' : World} {B0 B : Nat} (h : Apart cs) (hd : ∀ y ∈ cs, Own w B0 5 1 y.d.a y.d.l.length y.d.c (bvs y.d.l)) (hn : Own w' B 5 1 x.d.a x.d.l.length x.d.c (bvs x.d.l)) (hB : w.heap.size ≤ B) : Apart (cs ++ [x]) := by
  refine List.pairwise_append.2 ⟨h, List.pairwise_singleton _ _, fun y hy z hz hy0 hz0 e => ?_⟩
  rw [List.mem_singleton.1 hz] at hz0 e
  have l1 : y.d.l.length ≠ 0 := fun h => hy0 (List.eq_nil_of_length_eq_zero h)
  have l2 : x.d.l.length ≠ 0 := fun h => hz0 (List.eq_nil_of_length_eq_zero h)
  obtain ⟨_, ⟨h0, _⟩ | ⟨g, cur, ha, _, hh, _⟩⟩ := hd y hy
  · exact l1 h0
  obtain ⟨_, ⟨h0, _⟩ | ⟨g', cur', ha', hb', _⟩⟩ := hn
  · exact l2 h0
  rw [ha, ha'] at e
  simp only [Option.some.injEq, Addr.mk.injEq, and_true] at e
  have := heap_lt hh
  omega
/-- The cells of a tape of the call's own. -/
structure OwnM (w : World) (B : Nat) (a : Option Addr) (c : Nat) (cs : List CellV) : Prop where
  row : Own w B 42 3 a cs.length c (flt CellV.cells cs)
  dat : ∀ x ∈ cs, Own w B 5 1 x.d.a x.d.l.length x.d.c (bvs x.d.l)
  apart : Apart cs
theorem OwnM.ext {w w' : World} {B : Nat} {a : Option Addr} {c : Nat} {cs : List CellV} (h : OwnM w B a c cs) (hb : Below w.heap.size w w') : OwnM w' B a c cs := ⟨h.row.ext hb, fun x hx => (h.dat x hx).ext hb, h.apart⟩
theorem OwnM.mono {w : World} {B B' : Nat} {a : Option Addr} {c : Nat} {cs : List CellV} (h : OwnM w B a c cs) (hB : B' ≤ B) : OwnM w B' a c cs := ⟨h.row.mono hB, fun x hx => (h.dat x hx).mono hB, h.apart⟩
theorem OwnM.mat {w : World} {B : Nat} {a : Option Addr} {c : Nat} {cs : List CellV} (h : OwnM w B a c cs) : CMat w a cs := ⟨h.row.src, fun x hx => ⟨(h.dat x hx).src, by have := (h.dat x hx).len; unfold maxLen at this; omega⟩⟩
theorem OwnM.nil (w : World) (B : Nat) (a : Option Addr) : OwnM w B a 0 [] := ⟨Own.nil _ _ _ _ _, by simp, List.Pairwise.nil⟩
theorem OwnM.mod {w w' : World} {B : Nat} {a : Option Addr} {c : Nat} {cs : List CellV} {F : Nat → TypeId → Prop} (h : OwnM w B a c cs) (hm : Mod F w w') (hF : ∀ b T, F b T → T ≠ 42 ∧ T ≠ 5) : OwnM w' B a c cs :=
  ⟨h.row.mod hm fun _ _ _ hf => (hF _ _ hf).1 rfl, fun x hx => (h.dat x hx).mod hm fun _ _ _ hf => (hF _ _ hf).2 rfl, h.apart⟩

theorem infoCell : (Try.prog.info? 42).map (fun i => (i.zero, i.size, i.bytes)) = some (some (.agg #[.int .i64 0, .slice none 0 0, .bool false]), 3, 40) := by kernel_rfl
theorem cells_nil {cs : List CellV} (h : flt CellV.cells cs = []) : cs = [] := by
  have := congrArg List.length h
  rw [flt_length CellV.len, List.length_nil] at this
  exact List.eq_nil_of_length_eq_zero (by omega)
set_option maxHeartbeats 400000 in
theorem clone_cells (a : Option Addr) (c n : Nat) (l : List CellV) (w : World) (hs : Src w a (flt CellV.cells l)) (hn : n = l.length) (hl : n ≤ 100000) :
    Calls Try.prog 67 #[.slice a n c] w fun e w' => ∃ a' c', e = .returned (.slice a' n c') ∧ Own w' w.heap.size 42 3 a' n c' (flt CellV.cells l) ∧ Below w.heap.size w w' := by
  subst hn
  obtain ⟨i0, hi, hz0, hz1, hz2⟩ := info_parts infoCell
  go_enter Try.func67, Try.ntmps67
  have hnil := fun (wx : World) (aa : Option Addr) (n cc : Nat) => Lib.run_eql_slice_nil (P := Try.prog) wx 43 42 aa n cc 0 0 Try.underlying43
  cases a with
  | none =>
    have h0 : l = [] := by
      rcases hs with h | ⟨b, o, cs, T, m, ha, _⟩
      · exact cells_nil h
      · cases ha
    subst h0
    go_wp2
    go_ret
    exact ⟨none, 0, rfl, Own.nil _ _ _ _ _, Below.refl _ _⟩
  | some ad =>
    go_wp2_with (refine wpList_app rfl (.tmp 5) (.tmp 6) 43 rfl w.heap.size 42 i0 (.agg #[.int .i64 0, .slice none 0 0, .bool false]) 3 40 Try.underlying43 hi hz0 hz1 hz2 rfl (by decide) (some ⟨w.heap.size, 0, none⟩) 0 0 [] rfl (Own.nil _ _ _ _ _) (some ad) l.length c (flt CellV.cells l) rfl (flt_length CellV.len l) (hs.ext (ext_alloc w _)) (flt_one CellV.one l) (by unfold maxLen; omega) (by omega) (by simp) ?_; simp only [Nat.zero_add, List.nil_append]; intro a' c' w' hown hb)
    go_ret
    exact ⟨a', c', rfl, hown, (ext_alloc w _).trans hb⟩

theorem Own.setAt {w : World} {B : Nat} {e : TypeId} {x n c k : Nat} {xs : List Value} (h : Own w B e k (some ⟨x, 0, none⟩) n c xs) (i : Nat) (v : Value) (hi : i < n * k) : Own (w.setCell ⟨x, i, none⟩ v) B e k (some ⟨x, 0, none⟩) n c (xs.set i v) := by
  obtain ⟨hl, ⟨rfl, rfl⟩ | ⟨g', cur, ha, hb, hh, hn, hm, hs, ht⟩⟩ := h
  · omega
  · simp only [Option.some.injEq, Addr.mk.injEq, and_self, and_true] at ha
    subst ha
    refine ⟨by simpa using hl, Or.inr ⟨x, cur.setIfInBounds i v, rfl, hb, heap_setCell_same w x i cur e v hh, hn, hm, by simpa using hs, ?_⟩⟩
    rw [← ht]
    simp [List.take_set]
/-- One cell of one element is written. -/
theorem flt_set1 {α : Type} {f : α → List Value} {k : Nat} (hf : ∀ x, (f x).length = k) (l : List α) (i j : Nat) (hi : i < l.length) (hj : j < k) (y : α) (v : Value) (hy : f y = (f l[i]).set j v) : (flt f l).set (i * k + j) v = flt f (l.set i y) := by
  rw [flt_set hf l i y hi, hy]
  have h : flt f l = flt f (l.take i) ++ (f l[i] ++ flt f (l.drop (i + 1))) := by
    rw [← flt_cons, ← flt_append, ← List.drop_eq_getElem_cons hi, List.take_append_drop]
  have hl : (flt f (l.take i)).length = i * k := by rw [flt_length hf]; simp [Nat.min_eq_left (Nat.le_of_lt hi)]
  conv => lhs; rw [h]
  rw [List.set_append_right _ _ (by omega), hl, show i * k + j - i * k = j by omega, List.set_append_left _ _ (by rw [hf]; exact hj), ← flt_take hf, show i * k + k = (i + 1) * k by rw [Nat.succ_mul], ← flt_drop hf, List.append_assoc]

set_option maxRecDepth 100000 in
set_option maxHeartbeats 4000000 in
theorem med_twin (cap : Int) (a : Option Addr) (c n : Nat) (cs : List CellV) (w : World) (hs : CMat w a cs) (hn : n = cs.length) (hn2 : n ≤ 100000) (hx : ∀ x ∈ cs, x.d.l.length ≤ 140737488355328) :
    Calls Try.prog 43 #[.agg #[.int .i64 cap, .slice a n c]] w fun e w' => ∃ a' c' cs', e = .returned (.agg #[.int .i64 cap, .slice a' n c']) ∧ cs'.length = n ∧ OwnM w' w.heap.size a' c' cs' ∧ pls cs' = pls cs ∧ Below w.heap.size w w' := by
  have Hs := Lib.hid hs
  have Hn := Lib.hid hn
  have Hx := Lib.hid hx
  have hz1 := heap_alloc_new w (.cells #[.int .i64 cap, .slice a n c] 45)
  have hz2 := heap_alloc_new (w.alloc (.cells #[.int .i64 cap, .slice a n c] 45)) (.cells #[.int .i64 0, .slice none 0 0] 45)
  rw [World.size_alloc] at hz2
  have hb1 := ext_alloc w (.cells #[.int .i64 cap, .slice a n c] 45)
  have hb2 := ext_alloc (w.alloc (.cells #[.int .i64 cap, .slice a n c] 45)) (.cells #[.int .i64 0, .slice none 0 0] 45)
  have hz1' := (hb2.block w.heap.size (by rw [World.size_alloc]; omega)).trans hz1
  have hb02 := bthen hb1 hb2 (Nat.le_refl _)
  have d1 := cell_of_row _ w.heap.size 1 _ _ _ hz1'
  have hs2 := Lib.hid (Hs.out.src.ext hb02)
  clear hs hn hx hb1 hb2
  go_enter Try.func43, Try.ntmps43
  go_wp2_with fail
  generalize hw2 : World.alloc _ (Obj.cells #[.int .i64 0, .slice none 0 0] 45) = w2 at *
  clear hw2 hz1 d1
  refine (clone_cells a c n cs w2 hs2.out Hn.out hn2).mono ?_
  rintro e w3 ⟨a3, c3, rfl, ho3, hb3⟩
  have hl2 := heap_lt hz2
  have hl1 := heap_lt hz1'
  have g1 := (hb3.block _ hl1).trans hz1'
  have g2 := (hb3.block _ hl2).trans hz2
  have hb03 := bthen hb02 hb3 (Nat.le_refl _)
  have ho3' := ho3.mono (base' := w.heap.size) hb02.size
  have d0 := cell_of_row w3 w.heap.size 0 _ _ _ g1
  have d1 := cell_of_row w3 w.heap.size 1 _ _ _ g1
  have hf1 := frozen_of_row w3 w.heap.size 1 _ _ g1
  have s1 := heap_setCell_same w3 w.heap.size 1 _ _ (.slice a3 n c3) g1
  have s2 : (w3.setCell ⟨w.heap.size, 1, none⟩ (.slice a3 n c3)).heap[w.heap.size + 1]? = _ := (Below.heap_setCell w3 ⟨w.heap.size, 1, none⟩ _ _ (by simp)).trans g2
  have hb04 := hb03.setCell (p := ⟨w.heap.size, 1, none⟩) (Nat.le_refl _) (.slice a3 n c3)
  have ho4 : Own (w3.setCell ⟨w.heap.size, 1, none⟩ (.slice a3 n c3)) w.heap.size 42 3 a3 n c3 (flt CellV.cells cs) := ho3'.mod ((Mod.refl (fun b T => T = 45) w3).setCell g1 rfl _ _) fun _ _ _ hf => absurd (show 42 = 45 from hf) (by decide)
  have t1 := cell_of_row _ w.heap.size 1 _ _ _ s1
  clear ho3 hb3 hz1' hz2 hl1 hl2 g1 g2 ho3' hb03 hb02 hs2
  go_wp2_with fail
  clear t1 d0 d1 hf1
  go_loopw [11] (fun i wr => ∃ (k : Nat) (cs' : List CellV), k ≤ n ∧ i = .int .i64 (k : Int) ∧ cs'.length = n ∧ Own wr w.heap.size 42 3 a3 n c3 (flt CellV.cells cs') ∧ pls cs' = pls cs ∧ (∀ (j : Nat) (h : j < cs'.length), j < k → Own wr w.heap.size 5 1 cs'[j].d.a cs'[j].d.l.length cs'[j].d.c (bvs cs'[j].d.l)) ∧ cs'.drop k = cs.drop k ∧ Apart (cs'.take k) ∧
    wr.heap[w.heap.size]? = some (.cells #[.int .i64 cap, .slice a3 n c3] 45 (0, 0)) ∧ wr.heap[w.heap.size + 1]? = some (.cells #[.int .i64 0, .slice none 0 0] 45 (0, 0)) ∧ Below w.heap.size w wr) (fun i _ => n - (intOf i).toNat)
  case atStart => exact ⟨0, cs, by omega, rfl, Hn.out.symm, ho4, rfl, fun j _ h => by omega, rfl, List.Pairwise.nil, s1, s2, hb04⟩
  case round =>
    rename_i wr
    obtain ⟨k, cs', hk, rfl, hcl, hrow, hpl, hdat, hdr, hap, r1, r2, hbr⟩ := hrel
    have Hcl := Lib.hid hcl
    have Hrow := Lib.hid hrow
    have Hpl := Lib.hid hpl
    have Hdat := Lib.hid hdat
    have Hdr := Lib.hid hdr
    have Hap := Lib.hid hap
    have R1 := Lib.hid r1
    have R2 := Lib.hid r2
    have d1 := cell_of_row wr w.heap.size 1 _ _ _ r1
    have hlG := heap_lt r1
    clear hcl hrow hpl hdat hdr hap s1 s2 ho4 hb04
    by_cases hlt : k < n
    · have hkc : k < cs'.length := by rw [Hcl.out]; exact hlt
      have hkl : k < cs.length := by have := Hn.out; omega
      have hx' : cs'[k] = cs[k] := by
        have h := Hdr.out
        rw [List.drop_eq_getElem_cons hkc, List.drop_eq_getElem_cons hkl] at h
        exact (List.cons.inj h).1
      obtain ⟨gx, hgx, hBx, hlgx, hat, hfx⟩ := Hrow.out.elem CellV.len (by decide) hkc
      subst hgx
      have q1 := hat 1 _ rfl
      have Hsx0 := (Hs.out.row _ (List.getElem_mem hkl)).1.ext hbr
      have hxl0 := Hx.out _ (List.getElem_mem hkl)
      rw [hx'] at q1
      clear r1 r2 hat
      obtain ⟨x, hxx⟩ : ∃ x, x = cs[k] := ⟨_, rfl⟩
      rw [← hxx] at q1 Hsx0 hxl0
      have HX := Lib.hid (hx'.trans hxx.symm)
      clear hx' hxx
      obtain ⟨kd, ⟨xa, xc, xl⟩, bd⟩ := x
      dsimp only at q1 Hsx0 hxl0
      obtain ⟨L, hL⟩ : ∃ L, L = xl.length := ⟨_, rfl⟩
      rw [← hL] at q1 hxl0
      have HLx := Lib.hid hL
      have Hsx := Lib.hid Hsx0
      have c1 : wr.cell? ⟨gx, k * 3 + 1, none⟩ = some (.slice xa L xc) := q1
      have hxl := hxl0
      clear hL Hsx0 hxl0 q1
      go_wp2_with fail
      refine wp_region_last2 _ _ (by simp only [lastSplit, Option.map_some]; rfl) (by kernel_rfl) [Sp.eq (.pointer (some ⟨w.heap.size, 1, none⟩)), Sp.eq (.slice (some ⟨gx, 0, none⟩) n c3), Sp.eq (.int .i64 (k : Int)), Sp.eq (.pointer (some ⟨w.heap.size, 1, none⟩)), Sp.eq (.slice (some ⟨gx, 0, none⟩) n c3), Sp.eq (.int .i64 (k : Int)), Sp.eq (.pointer (some ⟨gx, k * 3, none⟩)), Sp.eq (.pointer (some ⟨gx, k * 3 + 1, none⟩)), Sp.eq (.slice xa L xc), ⟨fun w' v => ∃ a4 c4, v = .slice a4 L c4 ∧ Own w' wr.heap.size 5 1 a4 L c4 (bvs xl), fun _ _ _ ⟨a4, c4, h, ho⟩ hb => ⟨a4, c4, h, ho.ext hb⟩⟩, Sp.eq (.pointer (some ⟨gx, k * 3, none⟩)), Sp.eq (.pointer (some ⟨gx, k * 3 + 1, none⟩))] (by kernel_rfl) (by kernel_rfl) ?_ ?_
      · refine stepsOk_cons ?_ (stepsOk_cons ?_ (stepsOk_cons ?_ (stepsOk_cons ?_ (stepsOk_cons ?_ (stepsOk_cons ?_ (stepsOk_cons ?_ (stepsOk_cons ?_ (stepsOk_cons ?_ (stepsOk_cons ?_ (stepsOk_cons ?_ (stepsOk_cons ?_ (stepsOk_nil))))))))))))
        · intro ρ w' E
          have e1 : ρ (.tmp 1) = .pointer (some ⟨w.heap.size, 0, none⟩) := E.out 1 rfl
          refine step_plain rfl ?_
          refine op_val (v := .pointer (some ⟨w.heap.size, 1, none⟩)) (w' := w') ?_ ⟨Below.refl _ _, rfl⟩
          have hcon := E.con
          clear E
          go_simp
        · intro ρ w' E
          have e14 : ρ (.tmp 14) = .pointer (some ⟨w.heap.size, 1, none⟩) := E.pre 0 rfl
          refine step_plain rfl ?_
          refine op_val (v := .slice (some ⟨gx, 0, none⟩) n c3) (w' := w') ?_ ⟨Below.refl _ _, rfl⟩
          have hk := (World.cell?_of_block (w := wr) (E.below.block _ hlG)).trans d1
          have hcon := E.con
          clear E d1 c1
          go_simp
        · intro ρ w' E
          have e3 : ρ (.tmp 3) = .int .i64 (k : Int) := E.out 3 rfl
          refine step_plain rfl ?_
          exact op_move (.inl rfl) e3 ⟨Below.refl _ _, rfl⟩
        · intro ρ w' E
          have e1 : ρ (.tmp 1) = .pointer (some ⟨w.heap.size, 0, none⟩) := E.out 1 rfl
          refine step_plain rfl ?_
          refine op_val (v := .pointer (some ⟨w.heap.size, 1, none⟩)) (w' := w') ?_ ⟨Below.refl _ _, rfl⟩
          have hcon := E.con
          clear E
          go_simp
        · intro ρ w' E
          have e17 : ρ (.tmp 17) = .pointer (some ⟨w.heap.size, 1, none⟩) := E.pre 3 rfl
          refine step_plain rfl ?_
          refine op_val (v := .slice (some ⟨gx, 0, none⟩) n c3) (w' := w') ?_ ⟨Below.refl _ _, rfl⟩
          have hk := (World.cell?_of_block (w := wr) (E.below.block _ hlG)).trans d1
          have hcon := E.con
          clear E d1 c1
          go_simp
        · intro ρ w' E
          have e3 : ρ (.tmp 3) = .int .i64 (k : Int) := E.out 3 rfl
          refine step_plain rfl ?_
          exact op_move (.inl rfl) e3 ⟨Below.refl _ _, rfl⟩
        · intro ρ w' E
          have e18 : ρ (.tmp 18) = .slice (some ⟨gx, 0, none⟩) n c3 := E.pre 4 rfl
          have e19 : ρ (.tmp 19) = .int .i64 (k : Int) := E.pre 5 rfl
          refine step_plain rfl ?_
          refine op_val (v := .pointer (some ⟨gx, k * 3, none⟩)) (w' := w') ?_ ⟨Below.refl _ _, rfl⟩
          have hcon := E.con
          clear E
          go_simp
        · intro ρ w' E
          have e20 : ρ (.tmp 20) = .pointer (some ⟨gx, k * 3, none⟩) := E.pre 6 rfl
          refine step_plain rfl ?_
          refine op_val (v := .pointer (some ⟨gx, k * 3 + 1, none⟩)) (w' := w') ?_ ⟨Below.refl _ _, rfl⟩
          have hcon := E.con
          clear E
          go_simp
        · intro ρ w' E
          have e21 : ρ (.tmp 21) = .pointer (some ⟨gx, k * 3 + 1, none⟩) := E.pre 7 rfl
          refine step_plain rfl ?_
          refine op_val (v := .slice xa L xc) (w' := w') ?_ ⟨Below.refl _ _, rfl⟩
          have hk := (World.cell?_of_block (w := wr) (E.below.block _ hlgx)).trans c1
          have hcon := E.con
          clear E d1 c1
          go_simp
        · intro ρ w' E
          have e22 : ρ (.tmp 22) = .slice xa L xc := E.pre 8 rfl
          refine step_plain rfl ?_
          refine op_call (f := 68) (args := #[.slice xa L xc]) (w' := w') (by have hcon := E.con; have hfn := E.fn; clear E; go_simp) ?_
          refine (clone_at xa xc L xl w' (Hsx.out.ext E.below) HLx.out hxl).mono ?_
          rintro e w2 ⟨a4, c4, rfl, ho4, hb4⟩
          exact ⟨_, rfl, hb4, a4, c4, rfl, ho4.mono E.below.size⟩
        · intro ρ w' E
          have e15 : ρ (.tmp 15) = .slice (some ⟨gx, 0, none⟩) n c3 := E.pre 1 rfl
          have e16 : ρ (.tmp 16) = .int .i64 (k : Int) := E.pre 2 rfl
          refine step_plain rfl ?_
          refine op_val (v := .pointer (some ⟨gx, k * 3, none⟩)) (w' := w') ?_ ⟨Below.refl _ _, rfl⟩
          have hcon := E.con
          clear E
          go_simp
        · intro ρ w' E
          have e24 : ρ (.tmp 24) = .pointer (some ⟨gx, k * 3, none⟩) := E.pre 10 rfl
          refine step_plain rfl ?_
          refine op_val (v := .pointer (some ⟨gx, k * 3 + 1, none⟩)) (w' := w') ?_ ⟨Below.refl _ _, rfl⟩
          have hcon := E.con
          clear E
          go_simp
      · intro σ w5 hb5 hall
        obtain ⟨_, _, _, _, _, _, _, _, _, ⟨a4, c4, h23, ho5⟩, h24, h25, _⟩ := hall
        have h23 : σ 23 = .slice a4 L c4 := h23
        have h25 : σ 25 = .pointer (some ⟨gx, k * 3 + 1, none⟩) := h25
        simp only [upd, updL, dstsOf', elemB, List.filterMap_cons, List.filterMap_nil, Nat.reduceAdd, Nat.reduceBEq, Bool.or_false, Bool.false_or, Bool.or_true, Bool.true_or, cond_true, cond_false, Nat.zero_add, h23, h25]
        have q1 := (World.cell?_of_block (w := wr) (hb5.block gx hlgx)).trans c1
        have hrow5 := Hrow.out.ext hb5
        obtain ⟨_, _, cur, hcur⟩ := hrow5.blk (by omega)
        have hf5 := frozen_of_row w5 gx (k * 3 + 1) _ _ hcur
        have hm6 := (Mod.refl (fun b T => b = gx ∧ T = 42) w5).setCell hcur ⟨rfl, rfl⟩ (k * 3 + 1) (.slice a4 L c4)
        have hno : ∀ {T' : TypeId}, T' ≠ 42 → ∀ b, ¬ (fun b T => b = gx ∧ T = 42 : Nat → TypeId → Prop) b T' := fun h b hf => h hf.2
        have hset := hrow5.setAt (k * 3 + 1) (.slice a4 L c4) (by omega)
        rw [flt_set1 CellV.len cs' k 1 hkc (by decide) ⟨kd, ⟨a4, c4, xl⟩, bd⟩ _ (by rw [HX.out]; unfold CellV.cells; simp [HLx.out])] at hset
        have HS := Lib.hid hset
        have R1' := Lib.hid (hm6.keep ((hb5.block _ hlG).trans R1.out) (hno (by decide) _))
        have R2' := Lib.hid (hm6.keep ((hb5.block _ (heap_lt R2.out)).trans R2.out) (hno (by decide) _))
        have HD : Hid (∀ (j : Nat) (h : j < (cs'.set k ⟨kd, ⟨a4, c4, xl⟩, bd⟩).length), j < k + 1 → Own (w5.setCell ⟨gx, k * 3 + 1, none⟩ (.slice a4 L c4)) w.heap.size 5 1 (cs'.set k ⟨kd, ⟨a4, c4, xl⟩, bd⟩)[j].d.a (cs'.set k ⟨kd, ⟨a4, c4, xl⟩, bd⟩)[j].d.l.length (cs'.set k ⟨kd, ⟨a4, c4, xl⟩, bd⟩)[j].d.c (bvs (cs'.set k ⟨kd, ⟨a4, c4, xl⟩, bd⟩)[j].d.l)) := Lib.hid fun j hj hjk => by
          by_cases hjk' : j = k
          · subst hjk'
            rw [List.getElem_set_self]
            have := (ho5.mod hm6 fun b _ _ => hno (by decide) b).mono (base' := w.heap.size) hbr.size
            rw [HLx.out] at this ⊢
            exact this
          · rw [List.getElem_set_ne (fun h => hjk' h.symm)]
            exact ((Hdat.out j (by simpa using hj) (by omega)).ext hb5).mod hm6 fun b _ _ => hno (by decide) b
        have HAp : Hid (Apart ((cs'.set k ⟨kd, ⟨a4, c4, xl⟩, bd⟩).take (k + 1))) := Lib.hid (by
          rw [take_succ_list _ k (by rw [List.length_set]; exact hkc), List.take_set_of_le (Nat.le_refl k), List.getElem_set_self]
          refine Hap.out.snoc (w := wr) (B0 := w.heap.size) (w' := w5) (B := wr.heap.size) (fun y hy => ?_) ?_ (Nat.le_refl _)
          · obtain ⟨j, hj, rfl⟩ := List.getElem_of_mem hy
            rw [List.length_take] at hj
            rw [List.getElem_take]
            exact Hdat.out j (by omega) (by omega)
          · show Own w5 wr.heap.size 5 1 a4 xl.length c4 (bvs xl)
            rw [← HLx.out]
            exact ho5)
        have HP : Hid (pls (cs'.set k ⟨kd, ⟨a4, c4, xl⟩, bd⟩) = pls cs) := Lib.hid (by
          rw [← Hpl.out]
          unfold pls
          rw [List.map_set, show CellV.pl ⟨kd, ⟨a4, c4, xl⟩, bd⟩ = CellV.pl cs'[k] by rw [HX.out]; rfl]
          have e : (cs'.map CellV.pl)[k]'(by simpa using hkc) = CellV.pl cs'[k] := by simp
          rw [← e]
          exact List.set_getElem_self _)
        have HQ : Hid ((cs'.set k ⟨kd, ⟨a4, c4, xl⟩, bd⟩).drop (k + 1) = cs.drop (k + 1)) := Lib.hid (by
          rw [List.drop_set_of_lt (by omega), ← List.drop_drop, ← List.drop_drop, Hdr.out])
        have hb06 := (bthen hbr hb5 (Nat.le_refl _)).setCell (p := ⟨gx, k * 3 + 1, none⟩) hBx (.slice a4 L c4)
        clear c1 d1 hm6 hset ho5 hcur hrow5 hb5
        go_wp2_with fail
        go_roundw
        case rel => exact ⟨k + 1, _, by omega, by go_num, by rw [List.length_set]; exact Hcl.out, HS.out, HP.out, HD.out, HQ.out, HAp.out, R1'.out, R2'.out, hb06⟩
        case measure => simp [intOf]; omega
    · have hkn : k = n := by omega
      have d0 := cell_of_row wr w.heap.size 0 _ _ _ r1
      have hfin : OwnM (wr.setRow (w.heap.size + 1) #[.int .i64 cap, .slice a3 n c3]) w.heap.size a3 c3 cs' := by
        have hm : Mod (fun b T => T = 45) wr (wr.setRow (w.heap.size + 1) #[.int .i64 cap, .slice a3 n c3]) := Mod.one (bsetRow (Below.refl (w.heap.size + 1) _) (Nat.le_refl _) _) (fun b hb => setRow_other wr _ b _ hb) r2 (setRow_heap wr _ _ _ _ _ r2) rfl
        refine ⟨?_, fun x hx => ?_, by have := Hap.out; rwa [List.take_of_length_le (by rw [Hcl.out]; omega)] at this⟩
        · rw [Hcl.out]; exact Hrow.out.mod hm fun _ _ _ hf => absurd (show 42 = 45 from hf) (by decide)
        · obtain ⟨j, hj, rfl⟩ := List.getElem_of_mem hx
          exact (Hdat.out j hj (by rw [Hcl.out] at hj; omega)).mod hm fun _ _ _ hf => absurd (show 5 = 45 from hf) (by decide)
      have Hfin := Lib.hid hfin
      have hbF := bsetRow hbr (show w.heap.size ≤ w.heap.size + 1 by omega) #[.int .i64 cap, .slice a3 n c3]
      have hg2 := setRow_heap wr (w.heap.size + 1) _ #[.int .i64 cap, .slice a3 n c3] _ _ r2
      clear hfin
      go_wp2_with (refine wpList_store_row rfl rfl 45 (.tmp 2) (.tmp 27) rfl (w.heap.size + 1) rfl 45 #[.int .i64 0, .slice none 0 0] #[.int .i64 cap, .slice a3 n c3] rfl r2 rfl (by kernel_rfl) (by simp [Value.oneCell']) ?_)
      exact bodyPost_ret (v := .agg _) (results_cell_row (p := 2) rfl _ _ (w.heap.size + 1) _ #[.int .i64 cap, .slice a3 n c3] _ _ rfl hg2 Try.underlying45 rfl (by kernel_rfl)) rfl
        ⟨a3, c3, cs', rfl, Hcl.out, Hfin.out, Hpl.out, hbF⟩
end Go.Proofs.Ytmaagkdehdmhlaa
