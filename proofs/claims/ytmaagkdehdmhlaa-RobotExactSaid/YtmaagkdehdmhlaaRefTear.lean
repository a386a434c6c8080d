/- The page's Tear, of a right tape. -/
import Derived.Test.YtmaagkdehdmhlaaRefMed1
namespace Go.Proofs.Ytmaagkdehdmhlaa
open Go.RowKit

set_option maxRecDepth 100000 in
set_option maxHeartbeats 4000000 in
theorem reftear_any (cap : Int) (a : Option Addr) (c n : Nat) (cs : List CellV) (p : Int) (ab : Option Addr) (m cb : Nat) (l : List Byte) (keep : Int) (M : Med) (E : Int) (w : World) (hs : CMat w a cs) (hn : n = cs.length) (hn2 : n ≤ 90000) (hx : ∀ x ∈ cs, x.d.l.length ≤ 140737488355328) (hsb : Src w ab (bvs l)) (hm : m = l.length) (hm2 : m ≤ 140737488355328) (hmc : m ≤ cb) (hok : (medOf cap cs).ok = true) (hr : (medOf cap cs).tear p l keep = (M, E)) :
    Calls Try.prog 57 #[.agg #[.int .i64 cap, .slice a n c], .int .i64 p, .slice ab m cb, .int .i64 keep] w fun e w' => ∃ a' c' k cs', e = .returned (.tuple #[.agg #[.int .i64 M.cap, .slice a' k c'], .int .i64 E]) ∧ MedR w' w.heap.size M a' k c' cs' ∧ k ≤ c' ∧ Below w.heap.size w w' := by
  have Hsb := Lib.hid hsb
  have Hm := Lib.hid hm
  have Hok := Lib.hid hok
  clear hsb hm
  have Hs := Lib.hid hs
  have Hn := Lib.hid hn
  have Hx := Lib.hid hx
  have HR := Lib.hid hr
  have hcl : (medOf cap cs).cells.length = n := (pls_length cs).trans hn.symm
  have Hcl := Lib.hid hcl
  have hz1 := heap_alloc_new w (.cells #[.int .i64 cap, .slice a n c] 45)
  have hz2 := heap_alloc_new (w.alloc (.cells #[.int .i64 cap, .slice a n c] 45)) (.cells #[.int .i64 0, .slice none 0 0] 45)
  rw [World.size_alloc] at hz2
  have hb1 := ext_alloc w (.cells #[.int .i64 cap, .slice a n c] 45)
  have hb2 := ext_alloc (w.alloc (.cells #[.int .i64 cap, .slice a n c] 45)) (.cells #[.int .i64 0, .slice none 0 0] 45)
  have hz1' := (hb2.block w.heap.size (by rw [World.size_alloc]; omega)).trans hz1
  have hb02 := bthen hb1 hb2 (Nat.le_refl _)
  clear hs hn hx hb1 hb2 hz1 hr hcl
  have d0 := cell_of_row _ w.heap.size 0 _ _ _ hz1'
  have d1 := cell_of_row _ w.heap.size 1 _ _ _ hz1'
  have hw := Med.tear_eq hok p l keep
  rw [show (medOf cap cs).tear p l keep = (M, E) from HR.out, ← Hm.out] at hw
  have hw1 := Med.write_eq hok p l
  rw [← Hm.out] at hw1
  obtain ⟨W, hW⟩ : ∃ W, W = (medOf cap cs).wrong p m true := ⟨_, rfl⟩
  rw [← hW] at hw hw1
  have HW := Lib.hid hw
  have HWe := Lib.hid hW
  obtain ⟨⟨M1, E1⟩, hM1⟩ : ∃ x : Med × Int, x = (medOf cap cs).write p l := ⟨_, rfl⟩
  have HM1 := Lib.hid hM1.symm
  rw [← hM1] at hw1
  have HW1 := Lib.hid hw1
  clear HR hok hw hw1 hM1 hW
  go_enter Try.func57, Try.ntmps57
  go_wp2_with fail
  generalize hw2 : World.alloc _ (Obj.cells #[.int .i64 0, .slice none 0 0] 45) = w2 at *
  clear hw2 d0 d1
  refine (refwrite_any cap a c n cs p ab m cb l M1 E1 w2 (Hs.out.ext hb02) Hn.out hn2 Hx.out (Hsb.out.ext hb02) Hm.out hm2 Hok.out HM1.out).mono ?_
  rintro e w3 ⟨a1, c1, k1, cs1, rfl, _, _, hb3⟩
  have gx := heap_alloc_new w3 (.cells #[.int .i64 0, .slice none 0 0] 45)
  have hb4 := bsetRow (bthen hb3 (ext_alloc w3 (.cells #[.int .i64 0, .slice none 0 0] 45)) (Nat.le_refl _)) hb3.size #[.int .i64 M1.cap, .slice a1 k1 c1]
  have g1 := (hb4.block _ (heap_lt hz1')).trans hz1'
  have g2' := (hb4.block _ (heap_lt hz2)).trans hz2
  have hb04 := bthen hb02 hb4 (Nat.le_refl _)
  have d0 := cell_of_row _ w.heap.size 0 _ _ _ g1
  have d1 := cell_of_row _ w.heap.size 1 _ _ _ g1
  clear hb3 hz1' hz2 hb4
  by_cases hW0 : W = 0
  · subst hW0
    have hE1 : E1 = 0 := by have := HW1.out; rw [if_neg (by decide)] at this; simp only [Prod.mk.injEq] at this; exact this.2
    subst hE1
    have HR2 := HW.out
    rw [if_neg (by decide)] at HR2
    have HR2 := Lib.hid HR2
    have hpn : 0 ≤ p ∧ p ≤ (n : Int) := by
      have h := HWe.out
      unfold Med.wrong at h
      rw [Hcl.out] at h
      split at h
      · cases h
      · omega
    obtain ⟨p, rfl⟩ := Int.eq_ofNat_of_zero_le hpn.1
    have hpn2 : p ≤ n := by omega
    clear HW HW1 hpn HM1 HWe
    by_cases hk0 : keep < 0
    · have hl : M = medOf cap cs ∧ E = 0 := by
        have h := HR2.out
        rw [if_pos hk0] at h
        simpa using h
      obtain ⟨rfl, rfl⟩ := hl
      clear HR2
      go_wp2_with (refine wpList_store_row rfl rfl 45 (.tmp 10) (.tmp 17) rfl w3.heap.size rfl 45 #[.int .i64 0, .slice none 0 0] #[.int .i64 M1.cap, .slice a1 k1 c1] rfl gx rfl (by kernel_rfl) (by simp [Value.oneCell']) ?_)
      refine (twinmed_any cap a c n cs _ (Hs.out.ext hb04) Hn.out (by omega) Hx.out).mono ?_
      rintro e w5 ⟨a5, c5, cs5, rfl, hl5, ho5, hp5, hb5⟩
      have g3 := (hb5.block _ (heap_lt g2')).trans g2'
      have hMR : MedR w5 w.heap.size (medOf cap cs) a5 n c5 cs5 := ⟨ho5.mono hb04.size, hl5, hp5⟩
      have HMR := Lib.hid (hMR.setRow (new := #[.int .i64 cap, .slice a5 n c5]) g3)
      have hlc := Lib.hid (by have := ho5.row.len.1; rw [hl5] at this; exact this : n ≤ c5)
      have hg3 := setRow_heap w5 (w.heap.size + 1) _ #[.int .i64 cap, .slice a5 n c5] _ _ g3
      have hbF := bsetRow (bthen hb04 hb5 (Nat.le_refl _)) (show w.heap.size ≤ w.heap.size + 1 by omega) #[.int .i64 cap, .slice a5 n c5]
      clear hb5 ho5 hMR d0 d1 g1 g2' hp5 gx
      go_wp2_with (refine wpList_store_row rfl rfl 45 (.tmp 8) (.tmp 26) rfl (w.heap.size + 1) rfl 45 #[.int .i64 0, .slice none 0 0] #[.int .i64 cap, .slice a5 n c5] rfl g3 rfl (by kernel_rfl) (by simp [Value.oneCell']) ?_)
      exact bodyPost_ret (results_cellm (p := 8) (u := 9) rfl _ _ (w.heap.size + 1) _ #[.int .i64 cap, .slice a5 n c5] _ _ rfl hg3 Try.underlying45 rfl (by kernel_rfl)) rfl
        ⟨a5, c5, n, cs5, rfl, HMR.out, hlc.out, hbF⟩
    · obtain ⟨kp, rfl⟩ := Int.eq_ofNat_of_zero_le (show 0 ≤ keep by omega)
      obtain ⟨kk, hkk⟩ : ∃ k : Nat, k = min kp m := ⟨_, rfl⟩
      have hkm : kk ≤ m := by omega
      have hkc : kk ≤ cb := by omega
      have Hkk : Hid (min (kp : Int) (m : Int) = (kk : Int)) := Lib.hid (by omega)
      have hl : M = (medOf cap cs).lay p ⟨3, l.take kk, false⟩ ∧ E = 0 := by
        have h := HR2.out
        rw [if_neg hk0, Int.toNat_natCast, Int.toNat_natCast] at h
        have e1 : l.take kp = l.take kk := by
          rw [hkk, Hm.out]
          by_cases h : kp ≤ l.length
          · rw [Nat.min_eq_left h]
          · rw [Nat.min_eq_right (by omega), List.take_length, List.take_of_length_le (by omega)]
        rw [e1] at h
        simpa using h
      obtain ⟨rfl, rfl⟩ := hl
      have hk0' : ¬ (kp : Int) < 0 := by omega
      clear HR2 hkk hk0
      go_wp2_with (refine wpList_store_row rfl rfl 45 (.tmp 10) (.tmp 17) rfl w3.heap.size rfl 45 #[.int .i64 0, .slice none 0 0] #[.int .i64 M1.cap, .slice a1 k1 c1] rfl gx rfl (by kernel_rfl) (by simp [Value.oneCell']) ?_)
      clear gx
      generalize hw4 : World.setRow _ _ _ = w4 at *
      clear hw4
      have hl1 := heap_lt g1
      have hl2 := heap_lt g2'
      refine wp_region_chainL (by kernel_rfl) [9, 10, 11] (Keeps.rel (fun b => b = w.heap.size)) [SpT.eq (.agg #[.int .i64 cap, .slice a n c]), SpT.eq (.int .i64 (p : Int)), SpT.eq (.slice ab m cb), SpT.eq (.int .i64 (kp : Int)), SpT.eq (.slice ab m cb), SpT.eq (.int .i64 (m : Int)), SpT.eq (.int .i64 (kk : Int)), SpT.eq (.slice ab kk cb), SpT.eq (.agg #[.int .i64 3, .slice ab kk cb, .bool false]), SpT.top, SpT.top, SpT.top] (by kernel_rfl) (by kernel_rfl) (by kernel_rfl) (by kernel_rfl) ?_ ?_
      · refine stepsL_free rfl ?_ (stepsL_free rfl ?_ (stepsL_free rfl ?_ (stepsL_free rfl ?_ (stepsL_free rfl ?_ (stepsL_free rfl ?_ (stepsL_free rfl ?_ (stepsL_free rfl ?_ (stepsL_free rfl ?_ (stepsL_chain rfl (stepsL_chain rfl (stepsL_chain rfl (stepsL_nil))))))))))))
        · intro ρ w' E
          have e4 : ρ (.tmp 4) = .pointer (some ⟨w.heap.size, 0, none⟩) := E.out 4 rfl
          refine step_plain rfl ?_
          refine op_val (v := .agg #[.int .i64 cap, .slice a n c]) (w' := w') ?_ ⟨Below.refl _ _, rfl⟩
          have k0 : w'.cell? ⟨w.heap.size, 0, none⟩ = some (.int .i64 cap) := (World.cell?_of_block (w := w4) (E.t.block w.heap.size rfl hl1)).trans d0
          have k1 : w'.cell? ⟨w.heap.size, 1, none⟩ = some (.slice a n c) := (World.cell?_of_block (w := w4) (E.t.block w.heap.size rfl hl1)).trans d1
          have hcon := E.con
          clear E d0 d1
          go_simp
        · intro ρ w' E
          have e1 : ρ (.tmp 1) = .int .i64 (p : Int) := E.out 1 rfl
          refine step_plain rfl ?_
          exact op_move (.inl rfl) e1 ⟨Below.refl _ _, rfl⟩
        · intro ρ w' E
          have e2 : ρ (.tmp 2) = .slice ab m cb := E.out 2 rfl
          refine step_plain rfl ?_
          exact op_move (.inl rfl) e2 ⟨Below.refl _ _, rfl⟩
        · intro ρ w' E
          have e3 : ρ (.tmp 3) = .int .i64 (kp : Int) := E.out 3 rfl
          refine step_plain rfl ?_
          exact op_move (.inl rfl) e3 ⟨Below.refl _ _, rfl⟩
        · intro ρ w' E
          have e2 : ρ (.tmp 2) = .slice ab m cb := E.out 2 rfl
          refine step_plain rfl ?_
          exact op_move (.inl rfl) e2 ⟨Below.refl _ _, rfl⟩
        · intro ρ w' E
          have e31 : ρ (.tmp 31) = .slice ab m cb := E.pre 4 rfl rfl
          refine step_plain rfl ?_
          refine op_val (v := .int .i64 (m : Int)) (w' := w') ?_ ⟨Below.refl _ _, rfl⟩
          have hcon := E.con
          clear E
          go_simp
        · intro ρ w' E
          have e30 : ρ (.tmp 30) = .int .i64 (kp : Int) := E.pre 3 rfl rfl
          have e32 : ρ (.tmp 32) = .int .i64 (m : Int) := E.pre 5 rfl rfl
          refine step_plain rfl ?_
          refine op_val (v := .int .i64 (kk : Int)) (w' := w') ?_ ⟨Below.refl _ _, rfl⟩
          have hkk := Hkk.out
          have hcon := E.con
          clear E d0 d1
          go_simp
          split <;> omega
        · intro ρ w' E
          have e29 : ρ (.tmp 29) = .slice ab m cb := E.pre 2 rfl rfl
          have e33 : ρ (.tmp 33) = .int .i64 (kk : Int) := E.pre 6 rfl rfl
          refine step_plain rfl ?_
          refine op_val (v := .slice ab kk cb) (w' := w') ?_ ⟨Below.refl _ _, rfl⟩
          have hcon := E.con
          clear E d0 d1
          go_simp
        · intro ρ w' E
          have e34 : ρ (.tmp 34) = .slice ab kk cb := E.pre 7 rfl rfl
          refine step_plain rfl ?_
          refine op_val (v := .agg #[.int .i64 3, .slice ab kk cb, .bool false]) (w' := w') ?_ ⟨Below.refl _ _, rfl⟩
          have hcon := E.con
          clear E d0 d1
          go_simp
      · intro ρ1 w1c G1 E1
        have e27 : ρ1 (.tmp 27) = .agg #[.int .i64 cap, .slice a n c] := E1.pre 0 rfl rfl
        have e28 : ρ1 (.tmp 28) = .int .i64 (p : Int) := E1.pre 1 rfl rfl
        have e35 : ρ1 (.tmp 35) = .agg #[.int .i64 3, .slice ab kk cb, .bool false] := E1.pre 8 rfl rfl
        refine step_plain rfl ?_
        refine op_call (f := 70) (args := #[.agg #[.int .i64 cap, .slice a n c], .int .i64 (p : Int), .agg #[.int .i64 3, .slice ab kk cb, .bool false]]) (w' := w1c) (by have hcon := E1.con; have hfn := E1.fn; clear E1 d0 d1; go_simp) ?_
        refine (put_any cap a c n p cs 3 ab kk cb (l.take kk) w1c ((Hs.out.ext hb04).ext G1) Hn.out hn2 Hx.out hpn2 (by rw [bvs_take]; exact ((Hsb.out.ext hb04).ext G1).take kk) (by rw [List.length_take]; have := Hm.out; omega) (by omega)).mono ?_
        rintro e wx1 ⟨a5, c5, cs5, rfl, hl5, ho5, hp5, hb5⟩
        refine ⟨_, rfl, (Keeps.rel (fun b => b = w.heap.size)).of hb5, ?_⟩
        intro ρ2 w2c G2 E2
        have e8 : ρ2 (.tmp 8) = .pointer (some ⟨(w.heap.size + 1), 0, none⟩) := E2.out 8 rfl
        have e36 : ρ2 (.tmp 36) = .agg #[.int .i64 cap, .slice a5 (p + 1) c5] := E2.chn 9 36 rfl rfl rfl
        refine step_plain rfl ?_
        have hb2c := bthen G1 (bthen hb5 G2 (Nat.le_refl _)) (Nat.le_refl _)
        have gq := (hb2c.block _ hl2).trans g2'
        refine op_store_row rfl (E2.out 8 rfl) e36 gq rfl (by kernel_rfl) (by simp [Value.oneCell']) ⟨⟨by simp, fun b hb _ => by subst hb; exact setRow_other _ _ _ _ (by omega)⟩, ?_⟩
        have hgr := setRow_heap w2c (w.heap.size + 1) _ #[.int .i64 cap, .slice a5 (p + 1) c5] _ _ gq
        intro ρ3 w3c G3 E3
        refine step_plain rfl ?_
        refine op_move (.inr rfl) (E3.con _) ⟨trivial, ?_⟩
        intro σ wF GF hκ
        have h9 : σ 9 = .int .i64 0 := hκ 11 9 rfl rfl
        simp only [upd, updL, dstsOf', elemB, List.filterMap_cons, List.filterMap_nil, Nat.reduceAdd, Nat.reduceBEq, Bool.or_false, Bool.false_or, Bool.or_true, Bool.true_or, cond_true, cond_false, Nat.zero_add, h9]
        have hMR : MedR w2c w.heap.size ((medOf cap cs).lay p ⟨3, l.take kk, false⟩) a5 (p + 1) c5 cs5 := ⟨(ho5.ext G2).mono (bthen hb04 G1 (Nat.le_refl _)).size, hl5, hp5⟩
        have HMF := Lib.hid ((hMR.setRow (new := #[.int .i64 cap, .slice a5 (p + 1) c5]) gq).ext (bthen G3 GF (Nat.le_refl _)))
        have HgF := Lib.hid (((bthen G3 GF (Nat.le_refl _)).block _ (heap_lt hgr)).trans hgr)
        have hbF := bthen (bsetRow (bthen hb04 hb2c (Nat.le_refl _)) (show w.heap.size ≤ w.heap.size + 1 by omega) #[.int .i64 cap, .slice a5 (p + 1) c5]) (bthen G3 GF (Nat.le_refl _)) (Nat.le_refl _)
        have hlc : p + 1 ≤ c5 := by have := ho5.row.len.1; rw [hl5] at this; exact this
        clear hMR hgr gq hb2c hb5 ho5 hp5 G1 G2 G3 GF E1 E2 E3 hκ d0 d1 g1 g2'
        go_wp2_with fail
        exact bodyPost_ret (results_cellm (p := 8) (u := 9) rfl _ _ (w.heap.size + 1) _ #[.int .i64 cap, .slice a5 (p + 1) c5] _ _ rfl HgF.out Try.underlying45 rfl (by kernel_rfl)) rfl
          ⟨a5, c5, p + 1, cs5, rfl, HMF.out, hlc, hbF⟩
  · have hl : M = Med.none ∧ E = W := by
      have h := HW.out
      rw [if_pos hW0] at h
      simpa using h
    have hE1 : E1 = W := by have := HW1.out; rw [if_pos hW0] at this; simp only [Prod.mk.injEq] at this; exact this.2
    obtain ⟨rfl, rfl⟩ := hl
    subst hE1
    have eW : (E1 != 0) = true := by simpa using hW0
    clear HW HW1 hW0 HM1 HWe
    have hg3 := setRow_heap _ (w.heap.size + 1) _ #[.int .i64 0, .slice none 0 0] _ _ g2'
    have hbF := bsetRow hb04 (show w.heap.size ≤ w.heap.size + 1 by omega) #[.int .i64 0, .slice none 0 0]
    go_wp2_with (first | (refine wpList_store_row rfl rfl 45 (.tmp 10) (.tmp 17) rfl w3.heap.size rfl 45 #[.int .i64 0, .slice none 0 0] #[.int .i64 M1.cap, .slice a1 k1 c1] rfl gx rfl (by kernel_rfl) (by simp [Value.oneCell']) ?_) | (refine wpList_store_row rfl rfl 45 (.tmp 8) (.tmp 21) rfl (w.heap.size + 1) rfl 45 #[.int .i64 0, .slice none 0 0] #[.int .i64 0, .slice none 0 0] rfl g2' rfl (by kernel_rfl) (by simp [Value.oneCell']) ?_))
    exact bodyPost_ret (results_cellm (p := 8) (u := 9) rfl _ _ (w.heap.size + 1) _ #[.int .i64 0, .slice none 0 0] _ _ rfl hg3 Try.underlying45 rfl (by kernel_rfl)) rfl
      ⟨none, 0, 0, [], rfl, MedR.none _ _, Nat.le_refl _, hbF⟩
end Go.Proofs.Ytmaagkdehdmhlaa
