/- medium.Spoil, medium.Flip. -/
import Derived.Test.YtjngfkkbfkoedaaVolumeSpoiltPartK
namespace Go.Proofs.Ytjngfkkbfkoedaa
open Go.RowKit

theorem Med.spoil_ok {m : Med} (h : m.ok = true) {p : Nat} {c : CellP} (hc : m.cells[p]? = some c) : m.spoil (p : Int) = (m.put p ⟨c.kind, c.data, true⟩, 0) := by
  have hl := (List.getElem?_eq_some_iff.1 hc).1
  unfold Med.spoil
  rw [if_neg (by rw [h]; decide), if_neg (by omega), Int.toNat_natCast, hc]
set_option maxRecDepth 100000 in
set_option maxHeartbeats 4000000 in
theorem spoilm_any (cap : Int) (a : Option Addr) (c n : Nat) (cs : List CellV) (p : Int) (M : Med) (E : Int) (w : World) (hs : CMat w a cs) (hn : n = cs.length) (hn2 : n ≤ 90000) (hx : ∀ x ∈ cs, x.d.l.length ≤ 140737488355328) (hr : (medOf cap cs).spoil p = (M, E)) :
    Calls Try.prog 30 #[.agg #[.int .i64 cap, .slice a n c], .int .i64 p] w fun e w' => ∃ a' c' k cs', e = .returned (.tuple #[.agg #[.int .i64 M.cap, .slice a' k c'], .int .i64 E]) ∧ MedR w' w.heap.size M a' k c' cs' ∧ k ≤ c' ∧ Below w.heap.size w w' := by
  have Hs := Lib.hid hs
  have Hn := Lib.hid hn
  have Hx := Lib.hid hx
  have HR := Lib.hid hr
  have hcl : (medOf cap cs).cells.length = n := (pls_length cs).trans hn.symm
  have Hcl := Lib.hid hcl
  have hz1 := heap_alloc_new w (.cells #[.int .i64 cap, .slice a n c] 24)
  have hz2 := heap_alloc_new (w.alloc (.cells #[.int .i64 cap, .slice a n c] 24)) (.cells #[.int .i64 0, .slice none 0 0] 24)
  rw [World.size_alloc] at hz2
  have hb1 := ext_alloc w (.cells #[.int .i64 cap, .slice a n c] 24)
  have hb2 := ext_alloc (w.alloc (.cells #[.int .i64 cap, .slice a n c] 24)) (.cells #[.int .i64 0, .slice none 0 0] 24)
  have hz1' := (hb2.block w.heap.size (by rw [World.size_alloc]; omega)).trans hz1
  have hb02 := bthen hb1 hb2 (Nat.le_refl _)
  clear hs hn hx hb1 hb2 hz1 hr hcl
  cases hok : (medOf cap cs).ok with
  | false =>
    have hl : M = Med.none ∧ E = 1 := by have := HR.out; unfold Med.spoil at this; rw [if_pos hok] at this; simp at this; exact ⟨this.1.symm, this.2.symm⟩
    obtain ⟨rfl, rfl⟩ := hl
    clear HR
    go_enter Try.func30, Try.ntmps30
    go_wp2_with fail
    generalize hw2 : World.alloc _ (Obj.cells #[.int .i64 0, .slice none 0 0] 24) = w2 at *
    clear hw2
    refine (check_any cap a c n cs false w2 (Hs.out.ext hb02) Hn.out (by omega) hok).mono ?_
    rintro e w3 ⟨rfl, hb3⟩
    have g1 := (hb3.block _ (heap_lt hz1')).trans hz1'
    have g2 := (hb3.block _ (heap_lt hz2)).trans hz2
    have hb03 := bthen hb02 hb3 (Nat.le_refl _)
    have d0 := cell_of_row w3 w.heap.size 0 _ _ _ g1
    have d1 := cell_of_row w3 w.heap.size 1 _ _ _ g1
    clear hb3 hz1' hz2
    have hg3 := setRow_heap w3 (w.heap.size + 1) _ #[.int .i64 0, .slice none 0 0] _ _ g2
    have hbF := bsetRow hb03 (show w.heap.size ≤ w.heap.size + 1 by omega) #[.int .i64 0, .slice none 0 0]
    go_wp2_with (refine wpList_store_row rfl rfl 24 (.tmp 4) (.tmp 11) rfl (w.heap.size + 1) rfl 24 #[.int .i64 0, .slice none 0 0] #[.int .i64 0, .slice none 0 0] rfl g2 rfl (by kernel_rfl) (by simp [Value.oneCell']) ?_)
    refine bodyPost_ret (results_cellm (p := 4) (u := 5) rfl _ _ (w.heap.size + 1) _ #[.int .i64 0, .slice none 0 0] _ _ rfl hg3 Try.underlying24 rfl (by kernel_rfl)) rfl ?_
    first | exact ⟨none, 0, 0, [], rfl, MedR.none _ _, Nat.le_refl _, hbF⟩ | exact ⟨none, 0, 0, rfl, ⟨[], MedR.none _ _⟩, Nat.le_refl _, hbF⟩ | exact ⟨none, 0, 0, ⟨[], rfl, MedR.none _ _⟩, Nat.le_refl _, hbF⟩
  | true =>
    go_enter Try.func30, Try.ntmps30
    go_wp2_with fail
    generalize hw2 : World.alloc _ (Obj.cells #[.int .i64 0, .slice none 0 0] 24) = w2 at *
    clear hw2
    refine (check_any cap a c n cs true w2 (Hs.out.ext hb02) Hn.out (by omega) hok).mono ?_
    rintro e w3 ⟨rfl, hb3⟩
    have g1 := (hb3.block _ (heap_lt hz1')).trans hz1'
    have g2 := (hb3.block _ (heap_lt hz2)).trans hz2
    have hb03 := bthen hb02 hb3 (Nat.le_refl _)
    have d0 := cell_of_row w3 w.heap.size 0 _ _ _ g1
    have d1 := cell_of_row w3 w.heap.size 1 _ _ _ g1
    clear hb3 hz1' hz2
    by_cases hp0 : p < 0 ∨ (n : Int) ≤ p
    · have hl : M = Med.none ∧ E = 8 := by have := HR.out; unfold Med.spoil at this; rw [if_neg (by rw [hok]; decide), if_pos (by rw [Hcl.out]; exact hp0)] at this; simp at this; exact ⟨this.1.symm, this.2.symm⟩
      obtain ⟨rfl, rfl⟩ := hl
      clear HR hok
      by_cases hp1 : p < 0
      · clear hp0
        have hg3 := setRow_heap w3 (w.heap.size + 1) _ #[.int .i64 0, .slice none 0 0] _ _ g2
        have hbF := bsetRow hb03 (show w.heap.size ≤ w.heap.size + 1 by omega) #[.int .i64 0, .slice none 0 0]
        go_wp2_with (refine wpList_store_row rfl rfl 24 (.tmp 4) (.tmp 22) rfl (w.heap.size + 1) rfl 24 #[.int .i64 0, .slice none 0 0] #[.int .i64 0, .slice none 0 0] rfl g2 rfl (by kernel_rfl) (by simp [Value.oneCell']) ?_)
        refine bodyPost_ret (results_cellm (p := 4) (u := 5) rfl _ _ (w.heap.size + 1) _ #[.int .i64 0, .slice none 0 0] _ _ rfl hg3 Try.underlying24 rfl (by kernel_rfl)) rfl ?_
        first | exact ⟨none, 0, 0, [], rfl, MedR.none _ _, Nat.le_refl _, hbF⟩ | exact ⟨none, 0, 0, rfl, ⟨[], MedR.none _ _⟩, Nat.le_refl _, hbF⟩ | exact ⟨none, 0, 0, ⟨[], rfl, MedR.none _ _⟩, Nat.le_refl _, hbF⟩
      · have hp2 : (n : Int) ≤ p := by omega
        clear hp0
        have hg3 := setRow_heap w3 (w.heap.size + 1) _ #[.int .i64 0, .slice none 0 0] _ _ g2
        have hbF := bsetRow hb03 (show w.heap.size ≤ w.heap.size + 1 by omega) #[.int .i64 0, .slice none 0 0]
        go_wp2_with (refine wpList_store_row rfl rfl 24 (.tmp 4) (.tmp 22) rfl (w.heap.size + 1) rfl 24 #[.int .i64 0, .slice none 0 0] #[.int .i64 0, .slice none 0 0] rfl g2 rfl (by kernel_rfl) (by simp [Value.oneCell']) ?_)
        refine bodyPost_ret (results_cellm (p := 4) (u := 5) rfl _ _ (w.heap.size + 1) _ #[.int .i64 0, .slice none 0 0] _ _ rfl hg3 Try.underlying24 rfl (by kernel_rfl)) rfl ?_
        first | exact ⟨none, 0, 0, [], rfl, MedR.none _ _, Nat.le_refl _, hbF⟩ | exact ⟨none, 0, 0, rfl, ⟨[], MedR.none _ _⟩, Nat.le_refl _, hbF⟩ | exact ⟨none, 0, 0, ⟨[], rfl, MedR.none _ _⟩, Nat.le_refl _, hbF⟩
    · obtain ⟨p, rfl⟩ := Int.eq_ofNat_of_zero_le (show 0 ≤ p by omega)
      have hpn : p < n := by omega
      have hpc : p < cs.length := by rw [← Hn.out]; exact hpn
      have HL := Lib.hid (show M = (medOf cap cs).put p ⟨cs[p].kind, cs[p].d.l, true⟩ ∧ E = 0 by
        have := HR.out
        rw [Med.spoil_ok hok (pls_get hpc)] at this
        simp only [Prod.mk.injEq] at this
        exact ⟨this.1.symm, this.2.symm⟩)
      clear HR hok hp0
      go_wp2_with fail
      refine (med_twin cap a c n cs w3 (Hs.out.ext hb03) Hn.out (by omega) Hx.out).mono ?_
      rintro e w5 ⟨a5, c5, cs5, rfl, hl5, ho5, hp5, hb5⟩
      have g3 := (hb5.block _ (heap_lt g2)).trans g2
      have hb05 := bthen hb03 hb5 (Nat.le_refl _)
      have gN := heap_alloc_new w5 (.cells #[.int .i64 0, .slice none 0 0] 24)
      have ho6 := ((ho5.mono hb03.size).ext (ext_alloc w5 (.cells #[.int .i64 0, .slice none 0 0] 24)))
      have hm6 : Mod (fun b T => T = 24) (w5.alloc (.cells #[.int .i64 0, .slice none 0 0] 24)) ((w5.alloc (.cells #[.int .i64 0, .slice none 0 0] 24)).setRow w5.heap.size #[.int .i64 cap, .slice a5 n c5]) := Mod.one (bsetRow (Below.refl w5.heap.size _) (Nat.le_refl _) _) (fun b hb => setRow_other _ _ b _ hb) gN (setRow_heap _ _ _ _ _ _ gN) rfl
      have ho7 := ho6.mod hm6 fun b T hf => ⟨fun h => by subst hf; revert h; decide, fun h => by subst hf; revert h; decide⟩
      have gN2 := setRow_heap (w5.alloc (.cells #[.int .i64 0, .slice none 0 0] 24)) w5.heap.size _ #[.int .i64 cap, .slice a5 n c5] _ _ gN
      have g32 := (setRow_other (w5.alloc (.cells #[.int .i64 0, .slice none 0 0] 24)) w5.heap.size (w.heap.size + 1) #[.int .i64 cap, .slice a5 n c5] (by have := heap_lt g3; omega)).trans (((ext_alloc w5 (.cells #[.int .i64 0, .slice none 0 0] 24)).block _ (heap_lt g3)).trans g3)
      have hb06 := bsetRow (bthen hb05 (ext_alloc w5 (.cells #[.int .i64 0, .slice none 0 0] 24)) (Nat.le_refl _)) (show w.heap.size ≤ w5.heap.size from hb05.size) #[.int .i64 cap, .slice a5 n c5]
      have hp5c : p < cs5.length := by rw [hl5]; exact hpn
      obtain ⟨x, rfl, hBx, hlx, hat, hfz⟩ := ho7.row.elem CellV.len (by decide) hp5c
      have q2 := hat 2 _ rfl
      have hf2 := hfz (p * 3 + 2)
      have hxN : x ≠ w5.heap.size := by
        intro h
        obtain ⟨_, _, cur, hcur⟩ := ho7.row.blk (by omega)
        have e := (hcur.symm.trans (congrArg (fun i => (World.heap _)[i]?) h)).trans gN2
        revert e
        simp
      obtain ⟨_, hx32, _⟩ : True ∧ x ≠ w.heap.size + 1 ∧ True := ⟨trivial, fun h => by
        obtain ⟨_, _, cur, hcur⟩ := ho7.row.blk (by omega)
        have e := (hcur.symm.trans (congrArg (fun i => (World.heap _)[i]?) h)).trans g32
        revert e
        simp, trivial⟩
      have hbad : cs5[p].kind = cs[p].kind ∧ cs5[p].d.l = cs[p].d.l := by
        have h1 := pls_get hp5c
        rw [hp5, pls_get hpc] at h1
        have h2 := Option.some.inj h1
        exact ⟨(congrArg CellP.kind h2).symm, (congrArg CellP.data h2).symm⟩
      have ho8 := ho7.setCell hp5c (j := 2) (by decide) (y := ⟨cs5[p].kind, cs5[p].d, true⟩) (.bool true) rfl rfl
      have hb8 := (ho7.setCell_mod hp5c (p * 3 + 2) (.bool true))
      have HMR : Hid (MedR _ w.heap.size ((medOf cap cs).put p ⟨cs[p].kind, cs[p].d.l, true⟩) (some ⟨x, 0, none⟩) n c5 (cs5.set p ⟨cs5[p].kind, cs5[p].d, true⟩)) := Lib.hid ⟨ho8, by rw [List.length_set]; exact hl5, by rw [pls_set, hp5]; show (pls cs).set p ⟨cs5[p].kind, cs5[p].d.l, true⟩ = _; rw [hbad.1, hbad.2]; rfl⟩
      have gN3 := (Below.heap_setCell ((w5.alloc (.cells #[.int .i64 0, .slice none 0 0] 24)).setRow w5.heap.size #[.int .i64 cap, .slice (some ⟨x, 0, none⟩) n c5]) ⟨x, p * 3 + 2, none⟩ (.bool true) _ (Ne.symm hxN)).trans gN2
      have g33 := (Below.heap_setCell ((w5.alloc (.cells #[.int .i64 0, .slice none 0 0] 24)).setRow w5.heap.size #[.int .i64 cap, .slice (some ⟨x, 0, none⟩) n c5]) ⟨x, p * 3 + 2, none⟩ (.bool true) _ (Ne.symm hx32)).trans g32
      have HMF := Lib.hid (HMR.out.setRow (new := #[.int .i64 cap, .slice (some ⟨x, 0, none⟩) n c5]) g33)
      have HbF := Lib.hid (bsetRow (hb06.setCell (p := ⟨x, p * 3 + 2, none⟩) hBx (.bool true)) (show w.heap.size ≤ w.heap.size + 1 by omega) #[.int .i64 cap, .slice (some ⟨x, 0, none⟩) n c5])
      have hgF := setRow_heap _ (w.heap.size + 1) _ #[.int .i64 cap, .slice (some ⟨x, 0, none⟩) n c5] _ _ g33
      have hlc := Lib.hid (by have := ho7.row.len.1; rw [hl5] at this; exact this : n ≤ c5)
      have e1 := cell_of_row _ w5.heap.size 1 _ _ _ gN2
      have f0 := cell_of_row _ w5.heap.size 0 _ _ _ gN3
      have f1 := cell_of_row _ w5.heap.size 1 _ _ _ gN3
      have q2' : World.cell? _ ⟨x, p * 3 + 2, none⟩ = some (.bool cs5[p].bad) := q2
      generalize cs5[p].bad = bb at q2'
      clear HMR ho8 hb8 hb06 gN2 gN3 g32 hat hfz ho5 ho6 ho7 hm6 hb5 hb05 hbad q2 d0 d1 g1 g2 g3 hp5 hBx
      go_wp2_with (first | (refine wpList_store_row rfl rfl 24 (.tmp 6) (.tmp 24) rfl w5.heap.size rfl 24 #[.int .i64 0, .slice none 0 0] #[.int .i64 cap, .slice (some ⟨x, 0, none⟩) n c5] rfl gN rfl (by kernel_rfl) (by simp [Value.oneCell']) ?_) | (refine wpList_store_row rfl rfl 24 (.tmp 4) (.tmp 30) rfl (w.heap.size + 1) rfl 24 #[.int .i64 0, .slice none 0 0] #[.int .i64 cap, .slice (some ⟨x, 0, none⟩) n c5] rfl g33 rfl (by kernel_rfl) (by simp [Value.oneCell']) ?_))
      obtain ⟨rfl, rfl⟩ := HL.out
      exact bodyPost_ret (results_cellm (p := 4) (u := 5) rfl _ _ (w.heap.size + 1) _ #[.int .i64 cap, .slice (some ⟨x, 0, none⟩) n c5] _ _ rfl hgF Try.underlying24 rfl (by kernel_rfl)) rfl
        ⟨some ⟨x, 0, none⟩, c5, n, _, rfl, HMF.out, hlc.out, HbF.out⟩
end Go.Proofs.Ytjngfkkbfkoedaa
