/- The page's Flip, of a right tape. -/
import Derived.Test.YtilmldkaagbofaaRefMed2
import Derived.Test.YtilmldkaagbofaaMedFlip
namespace Go.Proofs.Ytilmldkaagbofaa
open Go.RowKit

set_option maxRecDepth 100000 in
set_option maxHeartbeats 4000000 in
theorem refflip_any (cap : Int) (a : Option Addr) (c n : Nat) (cs : List CellV) (p bit : Int) (M : Med) (E : Int) (w : World) (hs : CMat w a cs) (hn : n = cs.length) (hn2 : n ≤ 90000) (hx : ∀ x ∈ cs, x.d.l.length ≤ 140737488355328) (hok : (medOf cap cs).ok = true) (hr : (medOf cap cs).flip p bit = (M, E)) :
    Calls Try.prog 66 #[.agg #[.int .i64 cap, .slice a n c], .int .i64 p, .int .i64 bit] w fun e w' => ∃ a' c' k cs', e = .returned (.tuple #[.agg #[.int .i64 M.cap, .slice a' k c'], .int .i64 E]) ∧ MedR w' w.heap.size M a' k c' cs' ∧ k ≤ c' ∧ Below w.heap.size w w' := by
  have Hs := Lib.hid hs
  have Hn := Lib.hid hn
  have Hx := Lib.hid hx
  have HR := Lib.hid hr
  have hcl : (medOf cap cs).cells.length = n := (pls_length cs).trans hn.symm
  have Hcl := Lib.hid hcl
  have hz1 := heap_alloc_new w (.cells #[.int .i64 cap, .slice a n c] 32)
  have hz2 := heap_alloc_new (w.alloc (.cells #[.int .i64 cap, .slice a n c] 32)) (.cells #[.int .i64 0, .slice none 0 0] 32)
  rw [World.size_alloc] at hz2
  have hb1 := ext_alloc w (.cells #[.int .i64 cap, .slice a n c] 32)
  have hb2 := ext_alloc (w.alloc (.cells #[.int .i64 cap, .slice a n c] 32)) (.cells #[.int .i64 0, .slice none 0 0] 32)
  have hz1' := (hb2.block w.heap.size (by rw [World.size_alloc]; omega)).trans hz1
  have hb02 := bthen hb1 hb2 (Nat.le_refl _)
  clear hs hn hx hb1 hb2 hz1 hr hcl
  have d0 := cell_of_row _ w.heap.size 0 _ _ _ hz1'
  have d1 := cell_of_row _ w.heap.size 1 _ _ _ hz1'
  by_cases hp : p < 0 ∨ (n : Int) ≤ p
  · have hl : M = Med.none ∧ E = 8 := by have := HR.out; unfold Med.flip at this; rw [if_neg (by rw [hok]; decide), if_pos (by rw [Hcl.out]; exact hp)] at this; simp only [Prod.mk.injEq] at this; exact ⟨this.1.symm, this.2.symm⟩
    obtain ⟨rfl, rfl⟩ := hl
    clear HR hok
    go_enter Try.func66, Try.ntmps66
    by_cases hp1 : p < 0
    · clear hp
      have hg3 := setRow_heap _ (w.heap.size + 1) _ #[.int .i64 0, .slice none 0 0] _ _ hz2
      have hbF := bsetRow hb02 (show w.heap.size ≤ w.heap.size + 1 by omega) #[.int .i64 0, .slice none 0 0]
      go_wp2_with (refine wpList_store_row rfl rfl 32 (.tmp 6) (.tmp 26) rfl (w.heap.size + 1) rfl 32 #[.int .i64 0, .slice none 0 0] #[.int .i64 0, .slice none 0 0] rfl hz2 rfl (by kernel_rfl) (by simp [Value.oneCell']) ?_)
      refine bodyPost_ret (results_cellm (p := 6) (u := 7) rfl _ _ (w.heap.size + 1) _ #[.int .i64 0, .slice none 0 0] _ _ rfl hg3 Try.underlying32 rfl (by kernel_rfl)) rfl ?_
      first | exact ⟨none, 0, 0, [], rfl, MedR.none _ _, Nat.le_refl _, hbF⟩ | exact ⟨none, 0, 0, rfl, ⟨[], MedR.none _ _⟩, Nat.le_refl _, hbF⟩ | exact ⟨none, 0, 0, ⟨[], rfl, MedR.none _ _⟩, Nat.le_refl _, hbF⟩
    · have hp2 : (n : Int) ≤ p := by omega
      clear hp
      have hg3 := setRow_heap _ (w.heap.size + 1) _ #[.int .i64 0, .slice none 0 0] _ _ hz2
      have hbF := bsetRow hb02 (show w.heap.size ≤ w.heap.size + 1 by omega) #[.int .i64 0, .slice none 0 0]
      go_wp2_with (refine wpList_store_row rfl rfl 32 (.tmp 6) (.tmp 26) rfl (w.heap.size + 1) rfl 32 #[.int .i64 0, .slice none 0 0] #[.int .i64 0, .slice none 0 0] rfl hz2 rfl (by kernel_rfl) (by simp [Value.oneCell']) ?_)
      refine bodyPost_ret (results_cellm (p := 6) (u := 7) rfl _ _ (w.heap.size + 1) _ #[.int .i64 0, .slice none 0 0] _ _ rfl hg3 Try.underlying32 rfl (by kernel_rfl)) rfl ?_
      first | exact ⟨none, 0, 0, [], rfl, MedR.none _ _, Nat.le_refl _, hbF⟩ | exact ⟨none, 0, 0, rfl, ⟨[], MedR.none _ _⟩, Nat.le_refl _, hbF⟩ | exact ⟨none, 0, 0, ⟨[], rfl, MedR.none _ _⟩, Nat.le_refl _, hbF⟩
  obtain ⟨p, rfl⟩ := Int.eq_ofNat_of_zero_le (show 0 ≤ p by omega)
  have hpn : p < n := by omega
  have hpc : p < cs.length := by rw [← Hn.out]; exact hpn
  have hF := Med.flip_at hok (pls_get hpc) bit
  rw [show (medOf cap cs).flip (p : Int) bit = (M, E) from HR.out] at hF
  have hrt := (Med.ok_iff.1 hok).2 _ (List.mem_of_getElem? (pls_get hpc))
  obtain ⟨lb, lo, rfl, hlb, hat⟩ := Hs.out.src.elem CellV.len (by decide) hpc
  have r0 := (World.cell?_of_block (w := w) (a := ⟨lb, lo + p * 3, none⟩) (hb02.block lb hlb)).trans (hat p hpc 0 _ rfl)
  have r1 := (World.cell?_of_block (w := w) (a := ⟨lb, lo + p * 3 + 1, none⟩) (hb02.block lb hlb)).trans (hat p hpc 1 _ rfl)
  obtain ⟨z, hz⟩ : ∃ z, z = cs[p] := ⟨_, rfl⟩
  have HZ := Lib.hid hz
  rw [← hz] at r0 r1 hrt hF
  obtain ⟨kd, ⟨xa, xc, xl⟩, bd⟩ := z
  dsimp only [CellV.pl] at r0 r1 hrt hF
  obtain ⟨L, hL⟩ : ∃ L, L = xl.length := ⟨_, rfl⟩
  have HLx := Lib.hid hL
  rw [← hL] at r1
  simp only [← hL] at hF
  have HF := Lib.hid hF
  have hrt2 : rightC kd L = true := by rw [hL]; exact hrt
  clear HR hok hp hat hz hrt hL hF
  go_enter Try.func66, Try.ntmps66
  by_cases hk : kd = 1
  · subst hk
    have hL2 : 1 ≤ L ∧ L ≤ 256 := by unfold rightC at hrt2; simpa using hrt2
    have HF2 := Lib.hid (show (M, E) = if bit < 0 ∨ (8 * L : Int) ≤ bit then (Med.none, 1) else ((medOf cap cs).put p ⟨1, flipBit xl bit.toNat, bd⟩, 0) by rw [HF.out, if_neg (by simp)])
    clear HF hrt2
    by_cases hb : bit < 0 ∨ (8 * L : Int) ≤ bit
    · have hl : M = Med.none ∧ E = 1 := by have := HF2.out; rw [if_pos hb] at this; simp at this; exact this
      obtain ⟨rfl, rfl⟩ := hl
      clear HF2
      by_cases hb1 : bit < 0
      · clear hb
        have hg3 := setRow_heap _ (w.heap.size + 1) _ #[.int .i64 0, .slice none 0 0] _ _ hz2
        have hbF := bsetRow hb02 (show w.heap.size ≤ w.heap.size + 1 by omega) #[.int .i64 0, .slice none 0 0]
        go_wp2_with (refine wpList_store_row rfl rfl 32 (.tmp 6) (.tmp 41) rfl (w.heap.size + 1) rfl 32 #[.int .i64 0, .slice none 0 0] #[.int .i64 0, .slice none 0 0] rfl hz2 rfl (by kernel_rfl) (by simp [Value.oneCell']) ?_)
        refine bodyPost_ret (results_cellm (p := 6) (u := 7) rfl _ _ (w.heap.size + 1) _ #[.int .i64 0, .slice none 0 0] _ _ rfl hg3 Try.underlying32 rfl (by kernel_rfl)) rfl ?_
        first | exact ⟨none, 0, 0, [], rfl, MedR.none _ _, Nat.le_refl _, hbF⟩ | exact ⟨none, 0, 0, rfl, ⟨[], MedR.none _ _⟩, Nat.le_refl _, hbF⟩ | exact ⟨none, 0, 0, ⟨[], rfl, MedR.none _ _⟩, Nat.le_refl _, hbF⟩
      · have hb2 : 8 * (L : Int) ≤ bit := by omega
        clear hb
        have hg3 := setRow_heap _ (w.heap.size + 1) _ #[.int .i64 0, .slice none 0 0] _ _ hz2
        have hbF := bsetRow hb02 (show w.heap.size ≤ w.heap.size + 1 by omega) #[.int .i64 0, .slice none 0 0]
        go_wp2_with (refine wpList_store_row rfl rfl 32 (.tmp 6) (.tmp 41) rfl (w.heap.size + 1) rfl 32 #[.int .i64 0, .slice none 0 0] #[.int .i64 0, .slice none 0 0] rfl hz2 rfl (by kernel_rfl) (by simp [Value.oneCell']) ?_)
        refine bodyPost_ret (results_cellm (p := 6) (u := 7) rfl _ _ (w.heap.size + 1) _ #[.int .i64 0, .slice none 0 0] _ _ rfl hg3 Try.underlying32 rfl (by kernel_rfl)) rfl ?_
        first | exact ⟨none, 0, 0, [], rfl, MedR.none _ _, Nat.le_refl _, hbF⟩ | exact ⟨none, 0, 0, rfl, ⟨[], MedR.none _ _⟩, Nat.le_refl _, hbF⟩ | exact ⟨none, 0, 0, ⟨[], rfl, MedR.none _ _⟩, Nat.le_refl _, hbF⟩
    obtain ⟨bt, rfl⟩ := Int.eq_ofNat_of_zero_le (show 0 ≤ bit by omega)
    have hbt : bt < 8 * L := by omega
    have HL : Hid (M = (medOf cap cs).put p ⟨1, flipBit xl bt, bd⟩ ∧ E = 0) := Lib.hid (by have := HF2.out; rw [if_neg hb] at this; simpa using this)
    have hb2 : ¬ (8 * (L : Int) ≤ (bt : Int)) := by omega
    clear HF2 hb
    go_wp2_with fail
    generalize hw2 : World.alloc _ (Obj.cells #[.int .i64 0, .slice none 0 0] 32) = w2 at *
    clear hw2 d0 d1 r0 r1
    refine (twinmed_any cap (some ⟨lb, lo, none⟩) c n cs w2 (Hs.out.ext hb02) Hn.out (by omega) Hx.out).mono ?_
    rintro e w3 ⟨a3, c3, cs3, rfl, hl3, ho3, hp3, hb3⟩
    have g1 := (hb3.block _ (heap_lt hz1')).trans hz1'
    have g2 := (hb3.block _ (heap_lt hz2)).trans hz2
    have g1a := setRow_heap w3 w.heap.size _ #[.int .i64 cap, .slice a3 n c3] _ _ g1
    have g2a := (setRow_other w3 w.heap.size (w.heap.size + 1) #[.int .i64 cap, .slice a3 n c3] (by omega)).trans g2
    have ho4 := (ho3.mono hb02.size).setM g1 #[.int .i64 cap, .slice a3 n c3]
    have hb04 := bsetRow (bthen hb02 hb3 (Nat.le_refl _)) (Nat.le_refl _) #[.int .i64 cap, .slice a3 n c3]
    have hp3c : p < cs3.length := by rw [hl3]; exact hpn
    obtain ⟨x, rfl, hBx, hlx, hat, hfz⟩ := ho4.row.elem CellV.len (by decide) hp3c
    have q1' := hat 1 _ rfl
    have hy : cs3[p].kind = 1 ∧ cs3[p].d.l = xl ∧ cs3[p].bad = bd := by
      have h1 := pls_get hp3c
      rw [hp3, pls_get hpc, ← HZ.out] at h1
      have h2 := Option.some.inj h1
      exact ⟨(congrArg CellP.kind h2).symm, (congrArg CellP.data h2).symm, (congrArg CellP.bad h2).symm⟩
    have hLy : cs3[p].d.l.length = L := by rw [hy.2.1]; exact HLx.out.symm
    have hdy := ho4.dat _ (List.getElem_mem hp3c)
    rw [hLy] at hdy
    obtain ⟨g, hga, hBg, hlg, hatb, hfb⟩ := hdy.at (show 0 < L by omega)
    obtain ⟨q, hq⟩ : ∃ q, q = bt / 8 := ⟨_, rfl⟩
    obtain ⟨r, hr⟩ : ∃ r, r = bt % 8 := ⟨_, rfl⟩
    have hr8 : r < 8 := by omega
    have hqL : q < L := by omega
    have hj8 : q < xl.length := by rw [← HLx.out]; omega
    have qb' := hatb q (by rw [bvs_length, hy.2.1]; exact hj8)
    rw [bvs_get _ _ (by rw [bvs_length, hy.2.1]; exact hj8)] at qb'
    have hyb : cs3[p].d.l[q]'(by rw [hy.2.1]; exact hj8) = xl[q] := by simp only [hy.2.1]
    rw [hyb] at qb'
    have q1 : (w3.setRow w.heap.size #[.int .i64 cap, .slice (some ⟨x, 0, none⟩) n c3]).cell? ⟨x, p * 3 + 1, none⟩ = some (.slice (some ⟨g, 0, none⟩) L cs3[p].d.c) := by rw [q1', ← hga, ← hLy]
    generalize hyc : cs3[p].d.c = yc at q1
    generalize hybb : xl[q] = yb at qb'
    obtain ⟨vb, hvb⟩ : ∃ vb : Byte, vb = yb ^^^ (1#8 <<< r) := ⟨_, rfl⟩
    have hgT : ∀ (b : Nat) (cs : Array Value), (w3.setRow w.heap.size #[.int .i64 cap, .slice (some ⟨x, 0, none⟩) n c3]).heap[b]? = some (.cells cs 32 (0, 0)) → b ≠ g := by
      intro b cs hb hbg
      rw [hga] at hdy
      obtain ⟨_, _, cur, hcur⟩ := hdy.blk (by omega)
      have e := (hcur.symm.trans (congrArg (fun i => (World.heap _)[i]?) hbg.symm)).trans hb
      revert e; simp
    have hNg := hgT _ _ g1a
    have h2g := hgT _ _ g2a
    have HFlip : Hid (flipBit xl bt = xl.set q vb) := Lib.hid (by
      unfold flipBit
      rw [hvb, ← hybb, ← hq, ← hr, List.getD_eq_getElem?_getD, List.getElem?_eq_getElem hj8]
      rfl)
    have ho5 := (ho4.setByte hp3c hga (j := q) (by rw [hy.2.1]; exact hj8) vb).1
    have g1b := (Below.heap_setCell (w3.setRow w.heap.size #[.int .i64 cap, .slice (some ⟨x, 0, none⟩) n c3]) ⟨g, q, none⟩ (.int .u8 (vb.toNat : Int)) w.heap.size hNg).trans g1a
    have g2b := (Below.heap_setCell (w3.setRow w.heap.size #[.int .i64 cap, .slice (some ⟨x, 0, none⟩) n c3]) ⟨g, q, none⟩ (.int .u8 (vb.toNat : Int)) (w.heap.size + 1) h2g).trans g2a
    have hMR : MedR _ w.heap.size ((medOf cap cs).put p ⟨1, flipBit xl bt, bd⟩) (some ⟨x, 0, none⟩) n c3 _ := ⟨ho5, by rw [List.length_set]; exact hl3, by
      rw [pls_set, hp3, HFlip.out]
      show (pls cs).set p ⟨cs3[p].kind, cs3[p].d.l.set q _, cs3[p].bad⟩ = _
      rw [hy.1, hy.2.1, hy.2.2]; rfl⟩
    have HMR := Lib.hid (hMR.setRow (new := #[.int .i64 cap, .slice (some ⟨x, 0, none⟩) n c3]) g2b)
    have hgF := setRow_heap _ (w.heap.size + 1) _ #[.int .i64 cap, .slice (some ⟨x, 0, none⟩) n c3] _ _ g2b
    have hbF := Lib.hid (bsetRow (hb04.setCell (p := ⟨g, q, none⟩) hBg (.int .u8 (vb.toNat : Int))) (show w.heap.size ≤ w.heap.size + 1 by omega) #[.int .i64 cap, .slice (some ⟨x, 0, none⟩) n c3])
    have hnc3 := Lib.hid (show n ≤ c3 by have := ho3.row.len.1; rw [hl3] at this; exact this)
    have e1 := cell_of_row _ w.heap.size 1 _ _ _ g1a
    have f0 := cell_of_row _ w.heap.size 0 _ _ _ g1b
    have f1 := cell_of_row _ w.heap.size 1 _ _ _ g1b
    have hfg := hfb q
    have hxv : bits .xor .u8 (yb.toNat : Int) ((2 : Int) ^ r % 256) = (vb.toNat : Int) := by rw [flip_val' yb r hr8, ← hvb]
    have hw8 : IntKind.i64.wrap ((bt : Int) / 8) = (q : Int) := by rw [IntKind.wrap_i64]; omega
    have hm8 : (bt : Int).tmod 8 = (r : Int) := by rw [Int.tmod_eq_emod_of_nonneg (by omega)]; omega
    have hwr : IntKind.u8.wrap ((2 : Int) ^ r) = (2 : Int) ^ r % 256 := IntKind.wrap_u8 _
    clear hMR ho5 ho4 hb04 g1b g2a g1a ho3 hb3 hp3 hz1' hz2 g2 hat hfz hatb hfb hvb hq hr hyb hyc hybb hy hLy hdy hga hgT q1' hBx hBg hbt
    go_wp2_with (first | (refine wpList_store_row rfl rfl 32 (.tmp 3) (.tmp 43) rfl w.heap.size rfl 32 #[.int .i64 cap, .slice (some ⟨lb, lo, none⟩) n c] #[.int .i64 cap, .slice (some ⟨x, 0, none⟩) n c3] rfl g1 rfl (by kernel_rfl) (by simp [Value.oneCell']) ?_) | (refine wpList_store_row rfl rfl 32 (.tmp 6) (.tmp 60) rfl (w.heap.size + 1) rfl 32 #[.int .i64 0, .slice none 0 0] #[.int .i64 cap, .slice (some ⟨x, 0, none⟩) n c3] rfl g2b rfl (by kernel_rfl) (by simp [Value.oneCell']) ?_))
    obtain ⟨rfl, rfl⟩ := HL.out
    exact bodyPost_ret (results_cellm (p := 6) (u := 7) rfl _ _ (w.heap.size + 1) _ #[.int .i64 cap, .slice (some ⟨x, 0, none⟩) n c3] _ _ rfl hgF Try.underlying32 rfl (by kernel_rfl)) rfl
      ⟨some ⟨x, 0, none⟩, c3, n, _, rfl, HMR.out, hnc3.out, hbF.out⟩
  · have hl : M = Med.none ∧ E = 8 := by have := HF.out; rw [if_pos hk] at this; simp at this; exact this
    obtain ⟨rfl, rfl⟩ := hl
    have ek : (kd == 1) = false := by simpa using hk
    have ek2 : (kd != 1) = true := by simpa using hk
    clear HF hrt2 hk
    have hg3 := setRow_heap _ (w.heap.size + 1) _ #[.int .i64 0, .slice none 0 0] _ _ hz2
    have hbF := bsetRow hb02 (show w.heap.size ≤ w.heap.size + 1 by omega) #[.int .i64 0, .slice none 0 0]
    go_wp2_with (refine wpList_store_row rfl rfl 32 (.tmp 6) (.tmp 26) rfl (w.heap.size + 1) rfl 32 #[.int .i64 0, .slice none 0 0] #[.int .i64 0, .slice none 0 0] rfl hz2 rfl (by kernel_rfl) (by simp [Value.oneCell']) ?_)
    refine bodyPost_ret (results_cellm (p := 6) (u := 7) rfl _ _ (w.heap.size + 1) _ #[.int .i64 0, .slice none 0 0] _ _ rfl hg3 Try.underlying32 rfl (by kernel_rfl)) rfl ?_
    first | exact ⟨none, 0, 0, [], rfl, MedR.none _ _, Nat.le_refl _, hbF⟩ | exact ⟨none, 0, 0, rfl, ⟨[], MedR.none _ _⟩, Nat.le_refl _, hbF⟩ | exact ⟨none, 0, 0, ⟨[], rfl, MedR.none _ _⟩, Nat.le_refl _, hbF⟩
end Go.Proofs.Ytilmldkaagbofaa
