/- The page's put: a cell at a place of a twin of a tape. -/
import Derived.Test.YtmaagkdehdmhlaaRobotExactPartN
import Derived.Test.YtmaagkdehdmhlaaRobotExactPartE
namespace Go.Proofs.Ytmaagkdehdmhlaa
open Go.RowKit

set_option maxRecDepth 100000 in
set_option maxHeartbeats 8000000 in
theorem put_any (cap : Int) (a : Option Addr) (c n p : Nat) (cs : List CellV) (kind : Int) (ab : Option Addr) (m cb : Nat) (l : List Byte) (w : World) (hs : CMat w a cs) (hn : n = cs.length) (hn2 : n ≤ 90000) (hx : ∀ x ∈ cs, x.d.l.length ≤ 140737488355328) (hp : p ≤ n) (hsb : Src w ab (bvs l)) (hm : m = l.length) (hm2 : m ≤ 140737488355328) :
    Calls Try.prog 70 #[.agg #[.int .i64 cap, .slice a n c], .int .i64 (p : Int), .agg #[.int .i64 kind, .slice ab m cb, .bool false]] w fun e w' => ∃ a' c' cs', e = .returned (.agg #[.int .i64 cap, .slice a' (p + 1) c']) ∧ cs'.length = p + 1 ∧ OwnM w' w.heap.size a' c' cs' ∧ pls cs' = (pls cs).take p ++ [⟨kind, l, false⟩] ∧ Below w.heap.size w w' := by
  obtain ⟨i0, hi, hz0, hz1, hz2⟩ := info_parts infoCell
  have Hs := Lib.hid hs
  have Hn := Lib.hid hn
  have Hx := Lib.hid hx
  have Hsb := Lib.hid hsb
  have Hm := Lib.hid hm
  have b1 := ext_alloc w (.cells #[.int .i64 cap, .slice a n c] 45)
  have b2 := ext_alloc (w.alloc (.cells #[.int .i64 cap, .slice a n c] 45)) (.cells #[.int .i64 kind, .slice ab m cb, .bool false] 42)
  have b3 := ext_alloc ((w.alloc (.cells #[.int .i64 cap, .slice a n c] 45)).alloc (.cells #[.int .i64 kind, .slice ab m cb, .bool false] 42)) (.cells #[.int .i64 0, .slice none 0 0] 45)
  have q1 := heap_alloc_new w (.cells #[.int .i64 cap, .slice a n c] 45)
  have q2 := heap_alloc_new (w.alloc (.cells #[.int .i64 cap, .slice a n c] 45)) (.cells #[.int .i64 kind, .slice ab m cb, .bool false] 42)
  have q3 := heap_alloc_new ((w.alloc (.cells #[.int .i64 cap, .slice a n c] 45)).alloc (.cells #[.int .i64 kind, .slice ab m cb, .bool false] 42)) (.cells #[.int .i64 0, .slice none 0 0] 45)
  rw [World.size_alloc] at q2
  rw [World.size_alloc, World.size_alloc] at q3
  have q1' := (b3.block _ (by rw [World.size_alloc, World.size_alloc]; omega)).trans ((b2.block _ (heap_lt q1)).trans q1)
  have q2' := (b3.block _ (heap_lt q2)).trans q2
  have HB0 := Lib.hid (bthen (bthen b1 b2 (Nat.le_refl _)) b3 (Nat.le_refl _))
  clear hs hn hx hsb hm b1 b2 b3 q1 q2
  go_enter Try.func70, Try.ntmps70
  have d0 := cell_of_row _ w.heap.size 0 _ _ _ q1'
  have d1 := cell_of_row _ w.heap.size 1 _ _ _ q1'
  go_wp2_with fail
  generalize hw2 : World.alloc _ (Obj.cells #[.int .i64 0, .slice none 0 0] 45) = w2 at *
  clear hw2 d0 d1
  refine (twinmed_any cap a c n cs w2 (Hs.out.ext HB0.out) Hn.out (by omega) Hx.out).mono ?_
  rintro e w3 ⟨a3, c3, cs3, rfl, hl3, ho3, hp3, hb3⟩
  have g1 := (hb3.block _ (heap_lt q1')).trans q1'
  have g2 := (hb3.block _ (heap_lt q2')).trans q2'
  have g3 := (hb3.block _ (heap_lt q3)).trans q3
  have hw2 : w.heap.size + 2 < w2.heap.size := heap_lt q3
  have hB2 := hb3.size
  have HB3 := Lib.hid (bthen HB0.out hb3 (Nat.le_refl _))
  have hmM : Mod (fun b T => b = w.heap.size ∧ T = 45) w3 (w3.setRow w.heap.size #[.int .i64 cap, .slice a3 n c3]) := Mod.one (bsetRow (Below.refl w.heap.size _) (Nat.le_refl _) _) (fun b hb => setRow_other _ _ b _ hb) g1 (setRow_heap _ _ _ _ _ _ g1) ⟨rfl, rfl⟩
  have ho4 := ho3.mod hmM fun b T hf => ⟨fun h => by rw [hf.2] at h; revert h; decide, fun h => by rw [hf.2] at h; revert h; decide⟩
  have g1' := setRow_heap w3 w.heap.size _ #[.int .i64 cap, .slice a3 n c3] _ _ g1
  have g2' := (setRow_other w3 w.heap.size (w.heap.size + 1) #[.int .i64 cap, .slice a3 n c3] (by omega)).trans g2
  have g3' := (setRow_other w3 w.heap.size (w.heap.size + 1 + 1) #[.int .i64 cap, .slice a3 n c3] (by omega)).trans g3
  have HB4 := Lib.hid (bsetRow HB3.out (Nat.le_refl _) #[.int .i64 cap, .slice a3 n c3])
  have e1 := cell_of_row _ (w.heap.size + 1) 1 _ _ _ g2'
  have hs24 : w2.heap.size ≤ (w3.setRow w.heap.size #[.int .i64 cap, .slice a3 n c3]).heap.size := by simpa using hB2
  clear hmM ho3 hb3 q1' q2' q3 HB0 HB3
  go_wp2_with (refine wpList_store_row rfl rfl 45 (.tmp 3) (.tmp 8) rfl w.heap.size rfl 45 #[.int .i64 cap, .slice a n c] #[.int .i64 cap, .slice a3 n c3] rfl g1 rfl (by kernel_rfl) (by simp [Value.oneCell']) ?_)
  clear e1 g1 g2 g3
  generalize hw4 : World.setRow _ _ _ = w4 at *
  clear hw4
  refine (twin_at ab cb m l w4 (Hsb.out.ext HB4.out) Hm.out hm2).mono ?_
  rintro e w5 ⟨ad, cd, rfl, hod, hb5⟩
  have g1 := (hb5.block _ (heap_lt g1')).trans g1'
  have g2 := (hb5.block _ (heap_lt g2')).trans g2'
  have g3 := (hb5.block _ (heap_lt g3')).trans g3'
  have ho5 := ho4.ext hb5
  have HB5 := Lib.hid (bthen HB4.out hb5 (Nat.le_refl _))
  have hap : Apart (cs3.take p ++ [⟨kind, ⟨ad, cd, l⟩, false⟩]) := Apart.snoc (w := w4) (w' := w5) (B0 := w2.heap.size) (B := w4.heap.size) (ho4.apart.sublist (List.take_sublist _ _)) (fun y hy => ho4.dat y (List.mem_of_mem_take hy)) (by rw [Hm.out] at hod; exact hod) (Nat.le_refl _)
  have Hap := Lib.hid hap
  have hfz := frozen_of_row w5 (w.heap.size + 1) 1 _ _ g2
  have k1 := cell_of_row w5 (w.heap.size + 1) 1 _ _ _ g2
  have hmS := (Mod.refl (fun b T => b = w.heap.size + 1 ∧ T = 42) w5).setCell g2 ⟨rfl, rfl⟩ 1 (.slice ad m cd)
  have s1 := heap_setCell_same w5 (w.heap.size + 1) 1 _ _ (.slice ad m cd) g2
  have t1 := (Below.heap_setCell w5 ⟨w.heap.size + 1, 1, none⟩ (.slice ad m cd) w.heap.size (by simp)).trans g1
  have t3 := (Below.heap_setCell w5 ⟨w.heap.size + 1, 1, none⟩ (.slice ad m cd) (w.heap.size + 1 + 1) (by simp)).trans g3
  have hrow6 : Own (w5.setCell ⟨w.heap.size + 1, 1, none⟩ (.slice ad m cd)) w2.heap.size 42 3 a3 n c3 (flt CellV.cells cs3) := by
    have := ho5.row
    rw [hl3] at this
    obtain ⟨hl, h0 | ⟨g, cur, ha, hb', hh, rest⟩⟩ := this
    · exact ⟨hl, .inl h0⟩
    · exact ⟨hl, .inr ⟨g, cur, ha, hb', (Below.heap_setCell w5 ⟨w.heap.size + 1, 1, none⟩ (.slice ad m cd) g (by show g ≠ w.heap.size + 1; omega)).trans hh, rest⟩⟩
  have hdat6 : ∀ y ∈ cs3, Own (w5.setCell ⟨w.heap.size + 1, 1, none⟩ (.slice ad m cd)) w2.heap.size 5 1 y.d.a y.d.l.length y.d.c (bvs y.d.l) := fun y hy => (ho5.dat y hy).mod hmS fun _ _ _ hf => absurd hf.2 (by decide)
  have hod6 := hod.mod hmS fun _ _ _ hf => absurd hf.2 (by decide)
  have HB6 := Lib.hid (HB5.out.setCell (p := ⟨w.heap.size + 1, 1, none⟩) (show w.heap.size ≤ w.heap.size + 1 by omega) (.slice ad m cd))
  have hsz6 : (w5.setCell ⟨w.heap.size + 1, 1, none⟩ (.slice ad m cd)).heap.size = w5.heap.size := World.size_setCell _ _ _
  have hs45 := hb5.size
  have hs26 : w2.heap.size ≤ (w5.setCell ⟨w.heap.size + 1, 1, none⟩ (.slice ad m cd)).heap.size := by rw [hsz6]; omega
  have HR : Hid (Own (w5.setCell ⟨w.heap.size + 1, 1, none⟩ (.slice ad m cd)) w2.heap.size 42 3 a3 p c3 (flt CellV.cells (cs3.take p))) := Lib.hid (by rw [flt_take CellV.len]; exact hrow6.take p hp)
  have hlc3 := hrow6.len.1
  clear hrow6 hmS ho5 ho4 g1 g2 g3 hb5 hod hap g1' g2' g3'
  go_wp2_with fail
  generalize hw6 : World.setCell _ _ _ = w6 at *
  have HR : Hid (Own w6 w2.heap.size 42 3 a3 p c3 (flt CellV.cells (cs3.take p))) := HR
  have HB6 : Hid (Below w.heap.size w w6) := HB6
  clear hw6 k1 hfz
  generalize hG0 : w.heap.size = G at *
  generalize hB0 : w2.heap.size = B at *
  have g1 := t1
  have g5 : w6.heap[G + 1]? = some (.cells #[.int .i64 kind, .slice ad m cd, .bool false] 42 (0, 0)) := s1
  have hG : ¬ B ≤ G := by omega
  have hG5 : ¬ B ≤ G + 1 := by omega
  have HBw := Lib.hid hs26
  have d1 := cell_of_row w6 G 1 _ _ _ g1
  have b0 := cell_of_row w6 (G + 1) 0 _ _ _ g5
  have b1 := cell_of_row w6 (G + 1) 1 _ _ _ g5
  have b2 := cell_of_row w6 (G + 1) 2 _ _ _ g5
  have hpc3 : (p : Int) ≤ (c3 : Int) := by omega
  refine wp_region_chainL (by kernel_rfl) [5, 6, 8] (Mod.rel (fun b T => B ≤ b ∧ T = 42)) [SpT.eq (.pointer (some ⟨G, 1, none⟩)), SpT.eq (.slice a3 n c3), SpT.eq (.int .i64 (p : Int)), SpT.eq (.slice a3 p c3), SpT.eq (.agg #[.int .i64 kind, .slice ad m cd, .bool false]), SpT.top, SpT.top, SpT.eq (.pointer (some ⟨G, 1, none⟩)), SpT.top] (by kernel_rfl) (by kernel_rfl) (by kernel_rfl) (by kernel_rfl) ?_ ?_
  · refine stepsL_free rfl ?_ (stepsL_free rfl ?_ (stepsL_free rfl ?_ (stepsL_free rfl ?_ (stepsL_free rfl ?_ (stepsL_chain rfl (stepsL_chain rfl (stepsL_free rfl ?_ (stepsL_chain rfl (stepsL_nil)))))))))
    · intro ρ w' E
      have e3 : ρ (.tmp 3) = .pointer (some ⟨G, 0, none⟩) := E.out 3 rfl
      refine step_plain rfl ?_
      refine op_val (v := .pointer (some ⟨G, 1, none⟩)) (w' := w') ?_ ⟨Below.refl _ _, rfl⟩
      have hcon := E.con
      clear E
      go_simp
    · intro ρ w' E
      have e13 : ρ (.tmp 13) = .pointer (some ⟨G, 1, none⟩) := E.pre 0 rfl rfl
      refine step_plain rfl ?_
      refine op_val (v := .slice a3 n c3) (w' := w') ?_ ⟨Below.refl _ _, rfl⟩
      have hk : w'.cell? ⟨G, 1, none⟩ = some (.slice a3 n c3) := (World.cell?_of_block (w := w6) ((E.t.keep g1 (fun h => hG h.1)).trans g1.symm)).trans d1
      have hcon := E.con
      clear E d1 b0 b1 b2
      go_simp
    · intro ρ w' E
      have e1 : ρ (.tmp 1) = .int .i64 (p : Int) := E.out 1 rfl
      refine step_plain rfl ?_
      exact op_move (.inl rfl) e1 ⟨Below.refl _ _, rfl⟩
    · intro ρ w' E
      have e14 : ρ (.tmp 14) = .slice a3 n c3 := E.pre 1 rfl rfl
      have e15 : ρ (.tmp 15) = .int .i64 (p : Int) := E.pre 2 rfl rfl
      refine step_plain rfl ?_
      refine op_val (v := .slice a3 p c3) (w' := w') ?_ ⟨Below.refl _ _, rfl⟩
      have hcon := E.con
      clear E d1 b0 b1 b2
      go_simp
    · intro ρ w' E
      have e5 : ρ (.tmp 5) = .pointer (some ⟨G + 1, 0, none⟩) := E.out 5 rfl
      refine step_plain rfl ?_
      refine op_val (v := .agg #[.int .i64 kind, .slice ad m cd, .bool false]) (w' := w') ?_ ⟨Below.refl _ _, rfl⟩
      have hk := E.t.keep g5 (fun h => hG5 h.1)
      have hk0 : w'.cell? ⟨G + 1, 0, none⟩ = _ := cell_of_row w' (G + 1) 0 _ _ _ hk
      have hk1 : w'.cell? ⟨G + 1, 1, none⟩ = _ := cell_of_row w' (G + 1) 1 _ _ _ hk
      have hk2 : w'.cell? ⟨G + 1, 2, none⟩ = _ := cell_of_row w' (G + 1) 2 _ _ _ hk
      have hcon := E.con
      clear E hk d1 b0 b1 b2
      go_simp
    · intro ρ w' E
      have e3 : ρ (.tmp 3) = .pointer (some ⟨G, 0, none⟩) := E.out 3 rfl
      refine step_plain rfl ?_
      refine op_val (v := .pointer (some ⟨G, 1, none⟩)) (w' := w') ?_ ⟨Below.refl _ _, rfl⟩
      have hcon := E.con
      clear E
      go_simp
  · intro ρ1 w1c G1 E1
    have e17 : ρ1 (.tmp 17) = .agg #[.int .i64 kind, .slice ad m cd, .bool false] := E1.pre 4 rfl rfl
    refine step_plain rfl ?_
    refine op_val (v := .slice (some ⟨w1c.heap.size, 0, none⟩) 1 1) (w' := w1c.alloc (.cells #[.int .i64 kind, .slice ad m cd, .bool false] 42)) (by have hcon := E1.con; clear E1 d1 b0 b1 b2; go_simp) ⟨bmod (ext_alloc _ _) _, ?_⟩
    intro ρ2 w2c G2 E2
    have e16 : ρ2 (.tmp 16) = .slice a3 p c3 := E2.pre 3 rfl rfl
    have e18 : ρ2 (.tmp 18) = .slice (some ⟨w1c.heap.size, 0, none⟩) 1 1 := E2.chn 5 18 rfl rfl rfl
    refine step_plain rfl ?_
    have hb02 := bthen (bthen G1 (ext_alloc w1c (.cells #[.int .i64 kind, .slice ad m cd, .bool false] 42)) (Nat.le_refl _)) G2 (Nat.le_refl _)
    have hnew := (G2.block w1c.heap.size (by rw [World.size_alloc]; omega)).trans (heap_alloc_at w1c (.cells #[.int .i64 kind, .slice ad m cd, .bool false] 42))
    refine op_appm (s := .tmp 16) (x := .tmp 18) (t := 43) rfl B 42 i0 (.agg #[.int .i64 0, .slice none 0 0, .bool false]) 3 40 Try.underlying43 hi hz0 hz1 hz2 rfl (by decide) a3 p c3 (flt CellV.cells (cs3.take p)) e16 (HR.out.ext hb02) (some ⟨w1c.heap.size, 0, none⟩) 1 1 (CellV.cells ⟨kind, ⟨ad, cd, l⟩, false⟩) e18 rfl (Or.inr ⟨w1c.heap.size, 0, _, _, _, rfl, hnew, by rw [List.drop_zero]; unfold CellV.cells; rw [← Hm.out]; rfl⟩) (CellV.one _) (by unfold maxLen; omega) (by omega) (Nat.le_trans HBw.out hb02.size) ?_
    intro a5 c5 wx3 hA5
    refine ⟨hA5.mod _ fun g _ _ hb => ⟨hb, rfl⟩, ?_⟩
    intro ρ3 w3c G3 E3
    have e20 : ρ3 (.tmp 20) = .pointer (some ⟨G, 1, none⟩) := E3.pre 7 rfl rfl
    have e19 : ρ3 (.tmp 19) = .slice a5 (p + 1) c5 := E3.chn 6 19 rfl rfl rfl
    refine step_plain rfl ?_
    have hm3 : Mod (fun b T => B ≤ b ∧ T = 42) w6 w3c := ((bmod hb02 _).trans (hA5.mod _ fun g _ _ hb => ⟨hb, rfl⟩)).trans (bmod G3 _)
    have g13 := hm3.keep g1 (fun h => hG h.1)
    have k13 := cell_of_row w3c G 1 _ _ _ g13
    refine op_store rfl e20 e19 rfl k13 (frozen_of_row w3c G 1 _ _ g13) (by kernel_rfl) ⟨trivial, ?_⟩
    intro σ wF GF hκ
    simp only [upd, updL, dstsOf', elemB, List.filterMap_cons, List.filterMap_nil, Nat.reduceAdd, Nat.reduceBEq, Bool.or_false, Bool.false_or, Bool.or_true, Bool.true_or, cond_true, cond_false, Nat.zero_add]
    have hset := heap_setCell_same w3c G 1 _ _ (.slice a5 (p + 1) c5) g13
    have hm5 := (Mod.refl (fun b T => b = G ∧ T = 45) w3c).setCell g13 ⟨rfl, rfl⟩ 1 (.slice a5 (p + 1) c5)
    have hno : ∀ {T' : TypeId}, T' ≠ 45 → ∀ b, ¬ (fun b T => b = G ∧ T = 45 : Nat → TypeId → Prop) b T' := fun h b hf => h hf.2
    have hno2 : ∀ b, ¬ (fun b T => B ≤ b ∧ T = 42 : Nat → TypeId → Prop) b 5 := fun b hf => absurd hf.2 (by decide)
    have hrF := ((hA5.own.ext G3).mod hm5 fun g _ _ => hno (by decide) g).ext GF
    have hOM : OwnM wF G a5 c5 (cs3.take p ++ [⟨kind, ⟨ad, cd, l⟩, false⟩]) := by
      refine ⟨?_, fun y hy => ?_, Hap.out⟩
      · rw [flt_snoc, List.length_append, List.length_take, hl3, Nat.min_eq_left hp]
        exact hrF.mono (by omega)
      · rcases List.mem_append.1 hy with hy | hy
        · exact (((((hdat6 y (List.mem_of_mem_take hy)).mod hm3 fun b _ _ => hno2 b).mod hm5 fun b _ _ => hno (by decide) b).ext GF)).mono (by omega)
        · rw [List.mem_singleton.1 hy]
          have := ((((hod6.mod hm3 fun b _ _ => hno2 b).mod hm5 fun b _ _ => hno (by decide) b).ext GF)).mono (base' := G) (by omega)
          rw [Hm.out] at this
          exact this
    have f1 := (GF.block G (heap_lt hset)).trans hset
    have t3a := hm3.keep t3 (fun h => by have := h.1; omega)
    have t3b := (Below.heap_setCell w3c ⟨G, 1, none⟩ (.slice a5 (p + 1) c5) (G + 1 + 1) (by show G + 1 + 1 ≠ G; omega)).trans t3a
    have f3 := (GF.block _ (heap_lt t3b)).trans t3b
    have hbF : Below G w wF := ((HB6.out.trans (hm3.below (fun b T h => by have := h.1; omega) (by have := HB6.out.size; omega))).setCell (p := ⟨G, 1, none⟩) (Nat.le_refl _) (.slice a5 (p + 1) c5)).trans (GF.mono (by rw [World.size_setCell]; have h1 := HB6.out.size; have h2 := hm3.size; omega))
    have hmZ : Mod (fun b T => b = G + 1 + 1 ∧ T = 45) wF (wF.setRow (G + 1 + 1) #[.int .i64 cap, .slice a5 (p + 1) c5]) := Mod.one (bsetRow (Below.refl (G + 1 + 1) _) (Nat.le_refl _) _) (fun b hb => setRow_other _ _ b _ hb) f3 (setRow_heap _ _ _ _ _ _ f3) ⟨rfl, rfl⟩
    have HO := Lib.hid (hOM.mod hmZ fun b T hf => ⟨fun h => by rw [hf.2] at h; revert h; decide, fun h => by rw [hf.2] at h; revert h; decide⟩)
    have HbF := Lib.hid (bsetRow hbF (show G ≤ G + 1 + 1 by omega) #[.int .i64 cap, .slice a5 (p + 1) c5])
    have hgF := setRow_heap wF (G + 1 + 1) _ #[.int .i64 cap, .slice a5 (p + 1) c5] _ _ f3
    have Hp4 := Lib.hid (show pls (cs3.take p ++ [⟨kind, ⟨ad, cd, l⟩, false⟩]) = (pls cs).take p ++ [⟨kind, l, false⟩] by unfold pls at hp3 ⊢; rw [List.map_append, List.map_take, hp3]; rfl)
    have Hl4 := Lib.hid (show (cs3.take p ++ ([⟨kind, ⟨ad, cd, l⟩, false⟩] : List CellV)).length = p + 1 by rw [List.length_append, List.length_take, hl3, Nat.min_eq_left hp]; rfl)
    have k0 := cell_of_row wF G 0 _ _ _ f1
    have k1 := cell_of_row wF G 1 _ _ _ f1
    clear hOM hmZ hbF hrF hm5 hset hA5 hdat6 hod6 t3a t3b hm3 g13 k13 hb02 hnew G1 G2 G3 GF E1 E2 E3 hκ d1 b0 b1 b2 g1 g5 t1 t3 s1 hp3 hno hno2
    go_wp2_with (refine wpList_store_row rfl rfl 45 (.tmp 6) (.tmp 21) rfl (G + 1 + 1) rfl 45 #[.int .i64 0, .slice none 0 0] #[.int .i64 cap, .slice a5 (p + 1) c5] rfl f3 rfl (by kernel_rfl) (by simp [Value.oneCell']) ?_)
    subst hG0
    exact bodyPost_ret (v := .agg _) (results_cell_row (p := 6) rfl _ _ (w.heap.size + 1 + 1) _ #[.int .i64 cap, .slice a5 (p + 1) c5] _ _ rfl hgF Try.underlying45 rfl (by kernel_rfl)) rfl
      ⟨a5, c5, _, rfl, Hl4.out, HO.out, Hp4.out, HbF.out⟩
end Go.Proofs.Ytmaagkdehdmhlaa
