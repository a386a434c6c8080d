/- medium.Flip. -/
import Derived.Test.YtilmldkaagbofaaMedSpoil
namespace Go.Proofs.Ytilmldkaagbofaa
open Go.RowKit

theorem Med.flip_at {m : Med} (h : m.ok = true) {p : Nat} {c : CellP} (hc : m.cells[p]? = some c) (bit : Int) : m.flip (p : Int) bit = if c.kind ≠ 1 then (Med.none, 8) else if bit < 0 ∨ (8 * c.data.length : Int) ≤ bit then (Med.none, 1) else (m.put p ⟨c.kind, flipBit c.data bit.toNat, c.bad⟩, 0) := by
  have hl := (List.getElem?_eq_some_iff.1 hc).1
  unfold Med.flip
  rw [if_neg (by rw [h]; decide), if_neg (by omega), Int.toNat_natCast, hc]
set_option maxRecDepth 100000 in
set_option maxHeartbeats 4000000 in
theorem flipm_any (cap : Int) (a : Option Addr) (c n : Nat) (cs : List CellV) (p bit : Int) (M : Med) (E : Int) (w : World) (hs : CMat w a cs) (hn : n = cs.length) (hn2 : n ≤ 90000) (hx : ∀ x ∈ cs, x.d.l.length ≤ 140737488355328) (hr : (medOf cap cs).flip p bit = (M, E)) :
    Calls Try.prog 55 #[.agg #[.int .i64 cap, .slice a n c], .int .i64 p, .int .i64 bit] w fun e w' => ∃ a' c' k cs', e = .returned (.tuple #[.agg #[.int .i64 M.cap, .slice a' k c'], .int .i64 E]) ∧ MedR w' w.heap.size M a' k c' cs' ∧ k ≤ c' ∧ Below w.heap.size w w' := by
  have Hs := Lib.hid hs
  have Hn := Lib.hid hn
  have Hx := Lib.hid hx
  have HR := Lib.hid hr
  have hcl : (medOf cap cs).cells.length = n := (pls_length cs).trans hn.symm
  have Hcl := Lib.hid hcl
  have hz1 := heap_alloc_new w (.cells #[.int .i64 cap, .slice a n c] 32)
  have hz2 := heap_alloc_new (w.alloc (.cells #[.int .i64 cap, .slice a n c] 32)) (.cells #[.int .i64 0, .slice none 0 0] 32)
  rw [World.size_alloc] at hz2
  have hb1 := ext_alloc w (.cells #[.int .i64 cap, .slice a n c] 32)
  have hb2 := ext_alloc (w.alloc (.cells #[.int .i64 cap, .slice a n c] 32)) (.cells #[.int .i64 0, .slice none 0 0] 32)
  have hz1' := (hb2.block w.heap.size (by rw [World.size_alloc]; omega)).trans hz1
  have hb02 := bthen hb1 hb2 (Nat.le_refl _)
  clear hs hn hx hb1 hb2 hz1 hr hcl
  cases hok : (medOf cap cs).ok with
  | false =>
    have hl : M = Med.none ∧ E = 1 := by have := HR.out; unfold Med.flip at this; rw [if_pos hok] at this; simp at this; exact ⟨this.1.symm, this.2.symm⟩
    obtain ⟨rfl, rfl⟩ := hl
    clear HR
    go_enter Try.func55, Try.ntmps55
    go_wp2_with fail
    generalize hw2 : World.alloc _ (Obj.cells #[.int .i64 0, .slice none 0 0] 32) = w2 at *
    clear hw2
    refine (check_any cap a c n cs false w2 (Hs.out.ext hb02) Hn.out (by omega) hok).mono ?_
    rintro e w3 ⟨rfl, hb3⟩
    have g1 := (hb3.block _ (heap_lt hz1')).trans hz1'
    have g2 := (hb3.block _ (heap_lt hz2)).trans hz2
    have hb03 := bthen hb02 hb3 (Nat.le_refl _)
    have d0 := cell_of_row w3 w.heap.size 0 _ _ _ g1
    have d1 := cell_of_row w3 w.heap.size 1 _ _ _ g1
    clear hb3 hz1' hz2
    have hg3 := setRow_heap w3 (w.heap.size + 1) _ #[.int .i64 0, .slice none 0 0] _ _ g2
    have hbF := bsetRow hb03 (show w.heap.size ≤ w.heap.size + 1 by omega) #[.int .i64 0, .slice none 0 0]
    go_wp2_with (refine wpList_store_row rfl rfl 32 (.tmp 6) (.tmp 13) rfl (w.heap.size + 1) rfl 32 #[.int .i64 0, .slice none 0 0] #[.int .i64 0, .slice none 0 0] rfl g2 rfl (by kernel_rfl) (by simp [Value.oneCell']) ?_)
    refine bodyPost_ret (results_cellm (p := 6) (u := 7) rfl _ _ (w.heap.size + 1) _ #[.int .i64 0, .slice none 0 0] _ _ rfl hg3 Try.underlying32 rfl (by kernel_rfl)) rfl ?_
    first | exact ⟨none, 0, 0, [], rfl, MedR.none _ _, Nat.le_refl _, hbF⟩ | exact ⟨none, 0, 0, rfl, ⟨[], MedR.none _ _⟩, Nat.le_refl _, hbF⟩ | exact ⟨none, 0, 0, ⟨[], rfl, MedR.none _ _⟩, Nat.le_refl _, hbF⟩
  | true =>
    go_enter Try.func55, Try.ntmps55
    go_wp2_with fail
    generalize hw2 : World.alloc _ (Obj.cells #[.int .i64 0, .slice none 0 0] 32) = w2 at *
    clear hw2
    refine (check_any cap a c n cs true w2 (Hs.out.ext hb02) Hn.out (by omega) hok).mono ?_
    rintro e w3 ⟨rfl, hb3⟩
    have g1 := (hb3.block _ (heap_lt hz1')).trans hz1'
    have g2 := (hb3.block _ (heap_lt hz2)).trans hz2
    have hb03 := bthen hb02 hb3 (Nat.le_refl _)
    have d0 := cell_of_row w3 w.heap.size 0 _ _ _ g1
    have d1 := cell_of_row w3 w.heap.size 1 _ _ _ g1
    clear hb3 hz1' hz2
    by_cases hp0 : p < 0 ∨ (n : Int) ≤ p
    · have hl : M = Med.none ∧ E = 8 := by have := HR.out; unfold Med.flip at this; rw [if_neg (by rw [hok]; decide), if_pos (by rw [Hcl.out]; exact hp0)] at this; simp at this; exact ⟨this.1.symm, this.2.symm⟩
      obtain ⟨rfl, rfl⟩ := hl
      clear HR hok
      by_cases hp1 : p < 0
      · clear hp0
        have hg3 := setRow_heap w3 (w.heap.size + 1) _ #[.int .i64 0, .slice none 0 0] _ _ g2
        have hbF := bsetRow hb03 (show w.heap.size ≤ w.heap.size + 1 by omega) #[.int .i64 0, .slice none 0 0]
        go_wp2_with (refine wpList_store_row rfl rfl 32 (.tmp 6) (.tmp 33) rfl (w.heap.size + 1) rfl 32 #[.int .i64 0, .slice none 0 0] #[.int .i64 0, .slice none 0 0] rfl g2 rfl (by kernel_rfl) (by simp [Value.oneCell']) ?_)
        refine bodyPost_ret (results_cellm (p := 6) (u := 7) rfl _ _ (w.heap.size + 1) _ #[.int .i64 0, .slice none 0 0] _ _ rfl hg3 Try.underlying32 rfl (by kernel_rfl)) rfl ?_
        first | exact ⟨none, 0, 0, [], rfl, MedR.none _ _, Nat.le_refl _, hbF⟩ | exact ⟨none, 0, 0, rfl, ⟨[], MedR.none _ _⟩, Nat.le_refl _, hbF⟩ | exact ⟨none, 0, 0, ⟨[], rfl, MedR.none _ _⟩, Nat.le_refl _, hbF⟩
      · have hp2 : (n : Int) ≤ p := by omega
        clear hp0
        have hg3 := setRow_heap w3 (w.heap.size + 1) _ #[.int .i64 0, .slice none 0 0] _ _ g2
        have hbF := bsetRow hb03 (show w.heap.size ≤ w.heap.size + 1 by omega) #[.int .i64 0, .slice none 0 0]
        go_wp2_with (refine wpList_store_row rfl rfl 32 (.tmp 6) (.tmp 33) rfl (w.heap.size + 1) rfl 32 #[.int .i64 0, .slice none 0 0] #[.int .i64 0, .slice none 0 0] rfl g2 rfl (by kernel_rfl) (by simp [Value.oneCell']) ?_)
        refine bodyPost_ret (results_cellm (p := 6) (u := 7) rfl _ _ (w.heap.size + 1) _ #[.int .i64 0, .slice none 0 0] _ _ rfl hg3 Try.underlying32 rfl (by kernel_rfl)) rfl ?_
        first | exact ⟨none, 0, 0, [], rfl, MedR.none _ _, Nat.le_refl _, hbF⟩ | exact ⟨none, 0, 0, rfl, ⟨[], MedR.none _ _⟩, Nat.le_refl _, hbF⟩ | exact ⟨none, 0, 0, ⟨[], rfl, MedR.none _ _⟩, Nat.le_refl _, hbF⟩
    obtain ⟨p, rfl⟩ := Int.eq_ofNat_of_zero_le (show 0 ≤ p by omega)
    have hpn : p < n := by omega
    have hpc : p < cs.length := by rw [← Hn.out]; exact hpn
    have hF := Med.flip_at hok (pls_get hpc) bit
    rw [show (medOf cap cs).flip (p : Int) bit = (M, E) from HR.out] at hF
    have hrt := (Med.ok_iff.1 hok).2 _ (List.mem_of_getElem? (pls_get hpc))
    obtain ⟨lb, lo, rfl, hlb, hat⟩ := Hs.out.src.elem CellV.len (by decide) hpc
    have r0 := (World.cell?_of_block (w := w) (a := ⟨lb, lo + p * 3, none⟩) (hb03.block lb hlb)).trans (hat p hpc 0 _ rfl)
    have r1 := (World.cell?_of_block (w := w) (a := ⟨lb, lo + p * 3 + 1, none⟩) (hb03.block lb hlb)).trans (hat p hpc 1 _ rfl)
    have hlb3 : lb < w3.heap.size := Nat.lt_of_lt_of_le hlb hb03.size
    obtain ⟨z, hz⟩ : ∃ z, z = cs[p] := ⟨_, rfl⟩
    have HZ := Lib.hid hz
    rw [← hz] at r0 r1 hrt hF
    obtain ⟨kd, ⟨xa, xc, xl⟩, bd⟩ := z
    dsimp only [CellV.pl] at r0 r1 hrt hF
    obtain ⟨L, hL⟩ : ∃ L, L = xl.length := ⟨_, rfl⟩
    have HLx := Lib.hid hL
    rw [← hL] at r1
    simp only [← hL] at hF
    have HF := Lib.hid hF
    have hrt2 : rightC kd L = true := by rw [hL]; exact hrt
    clear HR hok hp0 hat hz hrt hL hF
    by_cases hk : kd = 1
    · subst hk
      have hL2 : 1 ≤ L ∧ L ≤ 256 := by unfold rightC at hrt2; simpa using hrt2
      have HF2 := Lib.hid (show (M, E) = if bit < 0 ∨ (8 * L : Int) ≤ bit then (Med.none, 1) else ((medOf cap cs).put p ⟨1, flipBit xl bit.toNat, bd⟩, 0) by rw [HF.out, if_neg (by simp)])
      clear HF hrt2
      by_cases hb : bit < 0 ∨ (8 * L : Int) ≤ bit
      · have hl : M = Med.none ∧ E = 1 := by have := HF2.out; rw [if_pos hb] at this; simp at this; exact this
        obtain ⟨rfl, rfl⟩ := hl
        clear HF2
        by_cases hb1 : bit < 0
        · clear hb
          have hg3 := setRow_heap w3 (w.heap.size + 1) _ #[.int .i64 0, .slice none 0 0] _ _ g2
          have hbF := bsetRow hb03 (show w.heap.size ≤ w.heap.size + 1 by omega) #[.int .i64 0, .slice none 0 0]
          go_wp2_with (refine wpList_store_row rfl rfl 32 (.tmp 6) (.tmp 49) rfl (w.heap.size + 1) rfl 32 #[.int .i64 0, .slice none 0 0] #[.int .i64 0, .slice none 0 0] rfl g2 rfl (by kernel_rfl) (by simp [Value.oneCell']) ?_)
          refine bodyPost_ret (results_cellm (p := 6) (u := 7) rfl _ _ (w.heap.size + 1) _ #[.int .i64 0, .slice none 0 0] _ _ rfl hg3 Try.underlying32 rfl (by kernel_rfl)) rfl ?_
          first | exact ⟨none, 0, 0, [], rfl, MedR.none _ _, Nat.le_refl _, hbF⟩ | exact ⟨none, 0, 0, rfl, ⟨[], MedR.none _ _⟩, Nat.le_refl _, hbF⟩ | exact ⟨none, 0, 0, ⟨[], rfl, MedR.none _ _⟩, Nat.le_refl _, hbF⟩
        · have hb2 : 8 * (L : Int) ≤ bit := by omega
          clear hb
          have hg3 := setRow_heap w3 (w.heap.size + 1) _ #[.int .i64 0, .slice none 0 0] _ _ g2
          have hbF := bsetRow hb03 (show w.heap.size ≤ w.heap.size + 1 by omega) #[.int .i64 0, .slice none 0 0]
          go_wp2_with (refine wpList_store_row rfl rfl 32 (.tmp 6) (.tmp 49) rfl (w.heap.size + 1) rfl 32 #[.int .i64 0, .slice none 0 0] #[.int .i64 0, .slice none 0 0] rfl g2 rfl (by kernel_rfl) (by simp [Value.oneCell']) ?_)
          refine bodyPost_ret (results_cellm (p := 6) (u := 7) rfl _ _ (w.heap.size + 1) _ #[.int .i64 0, .slice none 0 0] _ _ rfl hg3 Try.underlying32 rfl (by kernel_rfl)) rfl ?_
          first | exact ⟨none, 0, 0, [], rfl, MedR.none _ _, Nat.le_refl _, hbF⟩ | exact ⟨none, 0, 0, rfl, ⟨[], MedR.none _ _⟩, Nat.le_refl _, hbF⟩ | exact ⟨none, 0, 0, ⟨[], rfl, MedR.none _ _⟩, Nat.le_refl _, hbF⟩
      obtain ⟨bt, rfl⟩ := Int.eq_ofNat_of_zero_le (show 0 ≤ bit by omega)
      have hbt : bt < 8 * L := by omega
      have HL : Hid (M = (medOf cap cs).put p ⟨1, flipBit xl bt, bd⟩ ∧ E = 0) := Lib.hid (by have := HF2.out; rw [if_neg hb] at this; simpa using this)
      have hb2 : ¬ (8 * (L : Int) ≤ (bt : Int)) := by omega
      clear HF2 hb
      go_wp2_with fail
      refine (med_twin cap (some ⟨lb, lo, none⟩) c n cs w3 (Hs.out.ext hb03) Hn.out (by omega) Hx.out).mono ?_
      rintro e w5 ⟨a5, c5, cs5, rfl, hl5, ho5, hp5, hb5⟩
      have g3 := (hb5.block _ (heap_lt g2)).trans g2
      have hb05 := bthen hb03 hb5 (Nat.le_refl _)
      have gN := heap_alloc_new w5 (.cells #[.int .i64 0, .slice none 0 0] 32)
      have ho6 := ((ho5.mono hb03.size).ext (ext_alloc w5 (.cells #[.int .i64 0, .slice none 0 0] 32)))
      have hm6 : Mod (fun b T => T = 32) (w5.alloc (.cells #[.int .i64 0, .slice none 0 0] 32)) ((w5.alloc (.cells #[.int .i64 0, .slice none 0 0] 32)).setRow w5.heap.size #[.int .i64 cap, .slice a5 n c5]) := Mod.one (bsetRow (Below.refl w5.heap.size _) (Nat.le_refl _) _) (fun b hb => setRow_other _ _ b _ hb) gN (setRow_heap _ _ _ _ _ _ gN) rfl
      have ho7 := ho6.mod hm6 fun b T hf => ⟨fun h => by subst hf; revert h; decide, fun h => by subst hf; revert h; decide⟩
      have gN2 := setRow_heap (w5.alloc (.cells #[.int .i64 0, .slice none 0 0] 32)) w5.heap.size _ #[.int .i64 cap, .slice a5 n c5] _ _ gN
      have g32 := (setRow_other (w5.alloc (.cells #[.int .i64 0, .slice none 0 0] 32)) w5.heap.size (w.heap.size + 1) #[.int .i64 cap, .slice a5 n c5] (by have := heap_lt g3; omega)).trans (((ext_alloc w5 (.cells #[.int .i64 0, .slice none 0 0] 32)).block _ (heap_lt g3)).trans g3)
      have hb06 := bsetRow (bthen hb05 (ext_alloc w5 (.cells #[.int .i64 0, .slice none 0 0] 32)) (Nat.le_refl _)) (show w.heap.size ≤ w5.heap.size from hb05.size) #[.int .i64 cap, .slice a5 n c5]
      clear hm6 ho6 ho5 hb5 hb05 g1 g2 g3 d0 d1 r0 r1
      go_wp2_with (refine wpList_store_row rfl rfl 32 (.tmp 8) (.tmp 51) rfl w5.heap.size rfl 32 #[.int .i64 0, .slice none 0 0] #[.int .i64 cap, .slice a5 n c5] rfl gN rfl (by kernel_rfl) (by simp [Value.oneCell']) ?_)
      clear gN
      generalize hW : World.setRow _ _ _ = W6 at *
      generalize w5.heap.size = N at *
      clear hW
      have hp5c : p < cs5.length := by rw [hl5]; exact hpn
      obtain ⟨x, rfl, hBx, hlx, hat, hfz⟩ := ho7.row.elem CellV.len (by decide) hp5c
      have q1' := hat 1 _ rfl
      have hy : cs5[p].kind = 1 ∧ cs5[p].d.l = xl ∧ cs5[p].bad = bd := by
        have h1 := pls_get hp5c
        rw [hp5, pls_get hpc, ← HZ.out] at h1
        have h2 := Option.some.inj h1
        exact ⟨(congrArg CellP.kind h2).symm, (congrArg CellP.data h2).symm, (congrArg CellP.bad h2).symm⟩
      have hLy : cs5[p].d.l.length = L := by rw [hy.2.1]; exact HLx.out.symm
      have hdy := ho7.dat _ (List.getElem_mem hp5c)
      rw [hLy] at hdy
      obtain ⟨g, hga, hBg, hlg, hatb, hfb⟩ := hdy.at (show 0 < L by omega)
      obtain ⟨q, hq⟩ : ∃ q, q = bt / 8 := ⟨_, rfl⟩
      obtain ⟨r, hr⟩ : ∃ r, r = bt % 8 := ⟨_, rfl⟩
      have hr8 : r < 8 := by omega
      have hqL : q < L := by omega
      have hj8 : q < xl.length := by rw [← HLx.out]; omega
      have qb' := hatb q (by rw [bvs_length, hy.2.1]; exact hj8)
      rw [bvs_get _ _ (by rw [bvs_length, hy.2.1]; exact hj8)] at qb'
      have hyb : cs5[p].d.l[q]'(by rw [hy.2.1]; exact hj8) = xl[q] := by simp only [hy.2.1]
      rw [hyb] at qb'
      have hq1 : W6.cell? ⟨x, p * 3 + 1, none⟩ = some (.slice (some ⟨g, 0, none⟩) L cs5[p].d.c) := by rw [q1', ← hga, ← hLy]
      generalize hyc : cs5[p].d.c = yc at hq1
      generalize hybb : xl[q] = yb at qb'
      obtain ⟨vb, hvb⟩ : ∃ vb : Byte, vb = yb ^^^ (1#8 <<< r) := ⟨_, rfl⟩
      have hxN : x ≠ N := by
        intro h
        obtain ⟨_, _, cur, hcur⟩ := ho7.row.blk (by omega)
        rw [h, gN2] at hcur
        revert hcur; simp
      have hgT : ∀ {b : Nat} {cs : Array Value}, W6.heap[b]? = some (.cells cs 32 (0, 0)) → b ≠ g := by
        intro b cs hb hbg
        rw [hga] at hdy
        obtain ⟨_, _, cur, hcur⟩ := hdy.blk (by omega)
        rw [← hbg, hb] at hcur
        revert hcur; simp
      have hNg := hgT gN2
      have h2g := hgT g32
      have HFlip : Hid (flipBit xl bt = xl.set q vb) := Lib.hid (by
        unfold flipBit
        rw [hvb, ← hybb, ← hq, ← hr, List.getD_eq_getElem?_getD, List.getElem?_eq_getElem hj8]
        rfl)
      have HSet : Hid (∀ w7, Below W6.heap.size W6 w7 → MedR (w7.setCell ⟨g, q, none⟩ (.int .u8 (vb.toNat : Int))) w.heap.size ((medOf cap cs).put p ⟨1, flipBit xl bt, bd⟩) (some ⟨x, 0, none⟩) n c5 (cs5.set p ⟨cs5[p].kind, ⟨cs5[p].d.a, cs5[p].d.c, cs5[p].d.l.set q vb⟩, cs5[p].bad⟩)) := Lib.hid fun w7 hb => by
        have h := ((ho7.ext hb).setByte hp5c hga (j := q) (by rw [hy.2.1]; exact hj8) vb).1
        refine ⟨h, by rw [List.length_set]; exact hl5, ?_⟩
        rw [pls_set, hp5, HFlip.out]
        show (pls cs).set p ⟨cs5[p].kind, cs5[p].d.l.set q _, cs5[p].bad⟩ = _
        rw [hy.1, hy.2.1, hy.2.2]; rfl
      have e1 := cell_of_row W6 N 1 _ _ _ gN2
      have hlN := heap_lt gN2
      have hfg := hfb q
      have q1 := hq1
      have qb := qb'
      have hlc := Lib.hid (by have := ho7.row.len.1; rw [hl5] at this; exact this : n ≤ c5)
      have GN := Lib.hid gN2
      have G32 := Lib.hid g32
      have HBg := Lib.hid hBg
      have HDy := Lib.hid (show ∃ cur, W6.heap[g]? = some (.cells cur 5 (0, 0)) by
        rw [hga] at hdy
        obtain ⟨_, _, cur, hcur⟩ := hdy.blk (by omega)
        exact ⟨cur, hcur⟩)
      have HB6 := Lib.hid hb06
      have hxv : bits .xor .u8 (yb.toNat : Int) ((2 : Int) ^ r % 256) = (vb.toNat : Int) := by rw [flip_val' yb r hr8, ← hvb]
      have HXV := Lib.hid hxv
      have Hq := Lib.hid hq
      have Hr := Lib.hid hr
      clear hxv hvb hq hr hdy hga hyb hyc hybb hy hLy hq1 qb' q1' hat hatb hfb hfz ho7 hp5 gN2 g32 hb06 hBx
      refine wp_region_last2 _ _ (by simp only [lastSplit, Option.map_some]; rfl) (by kernel_rfl) [Sp.eq (.pointer (some ⟨N, 1, none⟩)), Sp.eq (.slice (some ⟨x, 0, none⟩) n c5), Sp.eq (.int .i64 (p : Int)), Sp.eq (.pointer (some ⟨x, p * 3, none⟩)), Sp.eq (.pointer (some ⟨x, p * 3 + 1, none⟩)), Sp.eq (.slice (some ⟨g, 0, none⟩) L yc), Sp.eq (.int .i64 (bt : Int)), Sp.eq (.int .i64 (q : Int)), Sp.eq (.pointer (some ⟨g, q, none⟩)), Sp.eq (.int .u8 (yb.toNat : Int)), Sp.eq (.int .i64 (bt : Int)), Sp.eq (.int .i64 (r : Int)), Sp.eq (.int .u8 ((2 : Int) ^ r % 256)), Sp.eq (.int .u8 (vb.toNat : Int)), Sp.eq (.pointer (some ⟨g, q, none⟩))] (by kernel_rfl) (by kernel_rfl) ?_ ?_
      · refine stepsOk_cons ?_ (stepsOk_cons ?_ (stepsOk_cons ?_ (stepsOk_cons ?_ (stepsOk_cons ?_ (stepsOk_cons ?_ (stepsOk_cons ?_ (stepsOk_cons ?_ (stepsOk_cons ?_ (stepsOk_cons ?_ (stepsOk_cons ?_ (stepsOk_cons ?_ (stepsOk_cons ?_ (stepsOk_cons ?_ (stepsOk_cons ?_ (stepsOk_nil)))))))))))))))
        · intro ρ w' E
          have e8 : ρ (.tmp 8) = .pointer (some ⟨N, 0, none⟩) := E.out 8 rfl
          refine step_plain rfl ?_
          refine op_val (v := .pointer (some ⟨N, 1, none⟩)) (w' := w') ?_ ⟨Below.refl _ _, rfl⟩
          have hcon := E.con
          clear E
          go_simp
        · intro ρ w' E
          have e52 : ρ (.tmp 52) = .pointer (some ⟨N, 1, none⟩) := E.pre 0 rfl
          refine step_plain rfl ?_
          refine op_val (v := .slice (some ⟨x, 0, none⟩) n c5) (w' := w') ?_ ⟨Below.refl _ _, rfl⟩
          have hk := (World.cell?_of_block (w := W6) (E.below.block _ hlN)).trans e1
          have hcon := E.con
          clear E e1 q1 qb
          go_simp
        · intro ρ w' E
          have e1 : ρ (.tmp 1) = .int .i64 (p : Int) := E.out 1 rfl
          refine step_plain rfl ?_
          exact op_move (.inl rfl) e1 ⟨Below.refl _ _, rfl⟩
        · intro ρ w' E
          have e53 : ρ (.tmp 53) = .slice (some ⟨x, 0, none⟩) n c5 := E.pre 1 rfl
          have e54 : ρ (.tmp 54) = .int .i64 (p : Int) := E.pre 2 rfl
          refine step_plain rfl ?_
          refine op_val (v := .pointer (some ⟨x, p * 3, none⟩)) (w' := w') ?_ ⟨Below.refl _ _, rfl⟩
          have hcon := E.con
          clear E e1 q1 qb
          go_simp
        · intro ρ w' E
          have e55 : ρ (.tmp 55) = .pointer (some ⟨x, p * 3, none⟩) := E.pre 3 rfl
          refine step_plain rfl ?_
          refine op_val (v := .pointer (some ⟨x, p * 3 + 1, none⟩)) (w' := w') ?_ ⟨Below.refl _ _, rfl⟩
          have hcon := E.con
          clear E
          go_simp
        · intro ρ w' E
          have e56 : ρ (.tmp 56) = .pointer (some ⟨x, p * 3 + 1, none⟩) := E.pre 4 rfl
          refine step_plain rfl ?_
          refine op_val (v := .slice (some ⟨g, 0, none⟩) L yc) (w' := w') ?_ ⟨Below.refl _ _, rfl⟩
          have hk := (World.cell?_of_block (w := W6) (E.below.block _ hlx)).trans q1
          have hcon := E.con
          clear E e1 q1 qb
          go_simp
        · intro ρ w' E
          have e2 : ρ (.tmp 2) = .int .i64 (bt : Int) := E.out 2 rfl
          refine step_plain rfl ?_
          exact op_move (.inl rfl) e2 ⟨Below.refl _ _, rfl⟩
        · intro ρ w' E
          have e58 : ρ (.tmp 58) = .int .i64 (bt : Int) := E.pre 6 rfl
          refine step_plain rfl ?_
          refine op_val (v := .int .i64 (q : Int)) (w' := w') ?_ ⟨Below.refl _ _, rfl⟩
          have hcon := E.con
          have hq := Hq.out
          clear E e1 q1 qb
          go_simp
          rw [IntKind.wrap_i64]
          omega
        · intro ρ w' E
          have e57 : ρ (.tmp 57) = .slice (some ⟨g, 0, none⟩) L yc := E.pre 5 rfl
          have e59 : ρ (.tmp 59) = .int .i64 (q : Int) := E.pre 7 rfl
          refine step_plain rfl ?_
          refine op_val (v := .pointer (some ⟨g, q, none⟩)) (w' := w') ?_ ⟨Below.refl _ _, rfl⟩
          have hcon := E.con
          clear E e1 q1 qb
          go_simp
        · intro ρ w' E
          have e60 : ρ (.tmp 60) = .pointer (some ⟨g, q, none⟩) := E.pre 8 rfl
          refine step_plain rfl ?_
          refine op_val (v := .int .u8 (yb.toNat : Int)) (w' := w') ?_ ⟨Below.refl _ _, rfl⟩
          have hk := (World.cell?_of_block (w := W6) (E.below.block _ hlg)).trans qb
          have hcon := E.con
          clear E e1 q1 qb
          go_simp
        · intro ρ w' E
          have e2 : ρ (.tmp 2) = .int .i64 (bt : Int) := E.out 2 rfl
          refine step_plain rfl ?_
          exact op_move (.inl rfl) e2 ⟨Below.refl _ _, rfl⟩
        · intro ρ w' E
          have e62 : ρ (.tmp 62) = .int .i64 (bt : Int) := E.pre 10 rfl
          refine step_plain rfl ?_
          refine op_val (v := .int .i64 (r : Int)) (w' := w') ?_ ⟨Below.refl _ _, rfl⟩
          have hcon := E.con
          have hr := Hr.out
          clear E e1 q1 qb
          go_simp
          rw [Int.tmod_eq_emod_of_nonneg (by omega)]
          first | done | omega
        · intro ρ w' E
          have e63 : ρ (.tmp 63) = .int .i64 (r : Int) := E.pre 11 rfl
          refine step_plain rfl ?_
          refine op_val (v := .int .u8 ((2 : Int) ^ r % 256)) (w' := w') ?_ ⟨Below.refl _ _, rfl⟩
          have hcon := E.con
          clear E e1 q1 qb
          go_simp
          first | rfl | exact IntKind.wrap_u8 _ | simp [IntKind.wrap]
        · intro ρ w' E
          have e61 : ρ (.tmp 61) = .int .u8 (yb.toNat : Int) := E.pre 9 rfl
          have e64 : ρ (.tmp 64) = .int .u8 ((2 : Int) ^ r % 256) := E.pre 12 rfl
          refine step_plain rfl ?_
          refine op_val (v := .int .u8 (vb.toNat : Int)) (w' := w') ?_ ⟨Below.refl _ _, rfl⟩
          have hcon := E.con
          clear E e1 q1 qb
          go_simp
          first | done | exact HXV.out
        · intro ρ w' E
          have e57 : ρ (.tmp 57) = .slice (some ⟨g, 0, none⟩) L yc := E.pre 5 rfl
          have e59 : ρ (.tmp 59) = .int .i64 (q : Int) := E.pre 7 rfl
          refine step_plain rfl ?_
          refine op_val (v := .pointer (some ⟨g, q, none⟩)) (w' := w') ?_ ⟨Below.refl _ _, rfl⟩
          have hcon := E.con
          clear E e1 q1 qb
          go_simp
      · intro σ w7 hb7 hall
        obtain ⟨_, _, _, _, _, _, _, _, _, _, _, _, _, h65, h66, _⟩ := hall
        have h65 : σ 65 = .int .u8 (vb.toNat : Int) := h65
        have h66 : σ 66 = .pointer (some ⟨g, q, none⟩) := h66
        simp only [upd, updL, dstsOf', elemB, List.filterMap_cons, List.filterMap_nil, Nat.reduceAdd, Nat.reduceBEq, Bool.or_false, Bool.false_or, Bool.or_true, Bool.true_or, cond_true, cond_false, Nat.zero_add, h65, h66]
        have hMR := HSet.out w7 hb7
        obtain ⟨cur, hcur⟩ := HDy.out
        have hcur7 := (hb7.block g (heap_lt hcur)).trans hcur
        have qb7 := (World.cell?_of_block (w := W6) (a := ⟨g, q, none⟩) (hb7.block g hlg)).trans qb
        have hfr := frozen_of_row w7 g q _ _ hcur7
        have gN3 := (Below.heap_setCell w7 ⟨g, q, none⟩ (.int .u8 (vb.toNat : Int)) _ hNg).trans ((hb7.block N hlN).trans GN.out)
        have g33 := (Below.heap_setCell w7 ⟨g, q, none⟩ (.int .u8 (vb.toNat : Int)) _ h2g).trans ((hb7.block _ (heap_lt G32.out)).trans G32.out)
        have HMF := Lib.hid (hMR.setRow (new := #[.int .i64 cap, .slice (some ⟨x, 0, none⟩) n c5]) g33)
        have HbF := Lib.hid (bsetRow ((bthen HB6.out hb7 (Nat.le_refl _)).setCell (p := ⟨g, q, none⟩) HBg.out (.int .u8 (vb.toNat : Int))) (show w.heap.size ≤ w.heap.size + 1 by omega) #[.int .i64 cap, .slice (some ⟨x, 0, none⟩) n c5])
        have hgF := setRow_heap _ (w.heap.size + 1) _ #[.int .i64 cap, .slice (some ⟨x, 0, none⟩) n c5] _ _ g33
        have f0 := cell_of_row _ N 0 _ _ _ gN3
        have f1 := cell_of_row _ N 1 _ _ _ gN3
        clear hMR hcur hcur7 gN3 h65 h66 e1 q1 qb hfg hb7
        go_wp2_with (refine wpList_store_row rfl rfl 32 (.tmp 6) (.tmp 67) rfl (w.heap.size + 1) rfl 32 #[.int .i64 0, .slice none 0 0] #[.int .i64 cap, .slice (some ⟨x, 0, none⟩) n c5] rfl g33 rfl (by kernel_rfl) (by simp [Value.oneCell']) ?_)
        obtain ⟨rfl, rfl⟩ := HL.out
        exact bodyPost_ret (results_cellm (p := 6) (u := 7) rfl _ _ (w.heap.size + 1) _ #[.int .i64 cap, .slice (some ⟨x, 0, none⟩) n c5] _ _ rfl hgF Try.underlying32 rfl (by kernel_rfl)) rfl
          ⟨some ⟨x, 0, none⟩, c5, n, _, rfl, HMF.out, hlc.out, HbF.out⟩
    · have hl : M = Med.none ∧ E = 8 := by have := HF.out; rw [if_pos hk] at this; simp at this; exact this
      obtain ⟨rfl, rfl⟩ := hl
      have ek : (kd == 1) = false := by simpa using hk
      have ek2 : (kd != 1) = true := by simpa using hk
      clear HF hrt2 hk
      have hg3 := setRow_heap w3 (w.heap.size + 1) _ #[.int .i64 0, .slice none 0 0] _ _ g2
      have hbF := bsetRow hb03 (show w.heap.size ≤ w.heap.size + 1 by omega) #[.int .i64 0, .slice none 0 0]
      go_wp2_with (refine wpList_store_row rfl rfl 32 (.tmp 6) (.tmp 33) rfl (w.heap.size + 1) rfl 32 #[.int .i64 0, .slice none 0 0] #[.int .i64 0, .slice none 0 0] rfl g2 rfl (by kernel_rfl) (by simp [Value.oneCell']) ?_)
      refine bodyPost_ret (results_cellm (p := 6) (u := 7) rfl _ _ (w.heap.size + 1) _ #[.int .i64 0, .slice none 0 0] _ _ rfl hg3 Try.underlying32 rfl (by kernel_rfl)) rfl ?_
      first | exact ⟨none, 0, 0, [], rfl, MedR.none _ _, Nat.le_refl _, hbF⟩ | exact ⟨none, 0, 0, rfl, ⟨[], MedR.none _ _⟩, Nat.le_refl _, hbF⟩ | exact ⟨none, 0, 0, ⟨[], rfl, MedR.none _ _⟩, Nat.le_refl _, hbF⟩
end Go.Proofs.Ytilmldkaagbofaa
