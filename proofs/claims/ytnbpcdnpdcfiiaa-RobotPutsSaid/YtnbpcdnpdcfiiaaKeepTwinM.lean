/- cellarerkeep.TwinMedium. -/
import Derived.Test.YtnbpcdnpdcfiiaaMedTwin
namespace Go.Proofs.Ytnbpcdnpdcfiiaa
open Go.RowKit

set_option maxRecDepth 100000 in
set_option maxHeartbeats 4000000 in
theorem twinmed_any (cap : Int) (a : Option Addr) (c n : Nat) (cs : List CellV) (w : World) (hs : CMat w a cs) (hn : n = cs.length) (hn2 : n ≤ 100000) (hx : ∀ x ∈ cs, x.d.l.length ≤ 140737488355328) :
    Calls Try.prog 13 #[.agg #[.int .i64 cap, .slice a n c]] w fun e w' => ∃ a' c' cs', e = .returned (.agg #[.int .i64 cap, .slice a' n c']) ∧ cs'.length = n ∧ OwnM w' w.heap.size a' c' cs' ∧ pls cs' = pls cs ∧ Below w.heap.size w w' := by
  obtain ⟨i0, hi, hz0, hz1, hz2⟩ := info_parts infoCell
  have Hs := Lib.hid hs
  have Hn := Lib.hid hn
  have Hx := Lib.hid hx
  have hz1' := heap_alloc_new w (.cells #[.int .i64 cap, .slice a n c] 24)
  have hz2' := heap_alloc_new (w.alloc (.cells #[.int .i64 cap, .slice a n c] 24)) (.cells #[.int .i64 0, .slice none 0 0] 24)
  rw [World.size_alloc] at hz2'
  have hb1 := ext_alloc w (.cells #[.int .i64 cap, .slice a n c] 24)
  have hb2 := ext_alloc (w.alloc (.cells #[.int .i64 cap, .slice a n c] 24)) (.cells #[.int .i64 0, .slice none 0 0] 24)
  have hz1'' := (hb2.block w.heap.size (by rw [World.size_alloc]; omega)).trans hz1'
  have hb02 := bthen hb1 hb2 (Nat.le_refl _)
  clear hs hn hx hb1 hb2 hz1'
  go_enter Try.func13, Try.ntmps13
  go_wp2_with fail
  generalize hw2 : World.alloc _ (Obj.cells #[.int .i64 0, .slice none 0 0] 24) = w2 at *
  clear hw2
  go_loopw [3, 4] (fun v i wr => ∃ (k : Nat) (a' : Option Addr) (c' : Nat) (vs : List CellV), k ≤ n ∧ i = .int .i64 k ∧ vs.length = k ∧ v = .slice a' k c' ∧ OwnM wr w.heap.size a' c' vs ∧ Below w.heap.size w wr ∧ pls vs = (pls cs).take k ∧ wr.heap[w.heap.size]? = some (.cells #[.int .i64 cap, .slice a n c] 24 (0, 0)) ∧ wr.heap[w.heap.size + 1]? = some (.cells #[.int .i64 0, .slice none 0 0] 24 (0, 0))) (fun _ i _ => n - (intOf i).toNat)
  case atStart => exact ⟨0, none, 0, [], by omega, rfl, rfl, rfl, OwnM.nil _ _ _, hb02, by simp [pls], hz1'', hz2'⟩
  case round =>
    rename_i wr
    obtain ⟨k, a', c', vs, hk, rfl, hvk, rfl, hown, hbr, hrv, r1, r2⟩ := hrel
    have Hvk := Lib.hid hvk
    have Hrv := Lib.hid hrv
    have R1 := Lib.hid r1
    have R2 := Lib.hid r2
    have d1 := cell_of_row wr w.heap.size 1 _ _ _ r1
    have hlg := heap_lt r1
    clear hvk hrv hb02 hz1'' hz2'
    by_cases hlt : k < n
    · have hkr : k < cs.length := by have := Hn.out; omega
      obtain ⟨b1, o1, rfl, hltb1, hat1⟩ := Hs.out.src.elem CellV.len (by decide) hkr
      have c0' := (World.cell?_of_block (w := w) (a := ⟨b1, o1 + k * 3, none⟩) (hbr.block b1 hltb1)).trans (hat1 k hkr 0 _ rfl)
      have c1' := (World.cell?_of_block (w := w) (a := ⟨b1, o1 + k * 3 + 1, none⟩) (hbr.block b1 hltb1)).trans (hat1 k hkr 1 _ rfl)
      have c2' := (World.cell?_of_block (w := w) (a := ⟨b1, o1 + k * 3 + 2, none⟩) (hbr.block b1 hltb1)).trans (hat1 k hkr 2 _ rfl)
      have hr0 := (Hs.out.row cs[k] (List.getElem_mem hkr)).ext hbr
      have hrl := Hx.out cs[k] (List.getElem_mem hkr)
      have Htk := Lib.hid (show (pls cs).take (k + 1) = (pls cs).take k ++ [cs[k].pl] by rw [take_succ_list (pls cs) k (by rw [pls_length]; exact hkr)]; congr 1; simp [pls])
      generalize cs[k] = r at *
      have c0 : wr.cell? ⟨b1, o1 + k * 3, none⟩ = some (.int .i64 r.kind) := c0'
      have c1 : wr.cell? ⟨b1, o1 + k * 3 + 1, none⟩ = some (.slice r.d.a r.d.l.length r.d.c) := c1'
      have c2 : wr.cell? ⟨b1, o1 + k * 3 + 2, none⟩ = some (.bool r.bad) := c2'
      clear hat1 c0' c1' c2' r1 r2
      have hput := CellAt.put wr #[.int .i64 0, .slice none 0 0, .bool false] wr.heap.size rfl r
      have hbp := below_putc wr #[.int .i64 0, .slice none 0 0, .bool false] wr.heap.size rfl r
      obtain ⟨k0, k1, k2⟩ := hput.cells
      go_wp2_with (refine wpList_store_row rfl rfl 73 (.tmp 5) (.tmp 17) rfl wr.heap.size rfl 73 #[.int .i64 0, .slice none 0 0, .bool false] #[.int .i64 r.kind, .slice r.d.a r.d.l.length r.d.c, .bool r.bad] rfl (heap_alloc_new wr _) rfl (by kernel_rfl) (by simp [Value.oneCell']) ?_)
      generalize hws : World.setRow _ _ _ = w1 at *
      clear hws c0 c1 c2 d1
      have hbw1 := bthen hbr hbp (Nat.le_refl _)
      refine (twin_any r.d.a r.d.c r.d.l w1 (hr0.ext hbp).1 (by omega)).mono ?_
      rintro e w3 ⟨ad, cd, rfl, hod, hb2⟩
      have hbA := bthen hbp hb2 (Nat.le_refl _)
      have hbw2 := bthen hbw1 hb2 (Nat.le_refl _)
      have hs1 := hb2.size
      have hs0 := hbw1.size
      have hs2 := hbp.size
      have hg1 : w1.heap[wr.heap.size]? = some (.cells #[.int .i64 r.kind, .slice r.d.a r.d.l.length r.d.c, .bool r.bad] 73 (0, 0)) := hput
      have hg2 := (hb2.block _ (heap_lt hg1)).trans hg1
      clear k0 k1 k2 hput hb2 hg1
      have k1 := cell_of_row w3 wr.heap.size 1 _ _ _ hg2
      have hfz := frozen_of_row w3 wr.heap.size 1 _ _ hg2
      have hwo : ∀ b', b' ≠ wr.heap.size → (w3.setCell ⟨wr.heap.size, 1, none⟩ (.slice ad r.d.l.length cd)).heap[b']? = w3.heap[b']? := fun b' hb' => Below.heap_setCell w3 ⟨wr.heap.size, 1, none⟩ _ b' hb'
      obtain ⟨rv, hrv⟩ : ∃ rv : CellV, rv = ⟨r.kind, ⟨ad, cd, r.d.l⟩, r.bad⟩ := ⟨_, rfl⟩
      have hr3 : (w3.setCell ⟨wr.heap.size, 1, none⟩ (.slice ad r.d.l.length cd)).heap[wr.heap.size]? = some (.cells #[.int .i64 rv.kind, .slice rv.d.a rv.d.l.length rv.d.c, .bool rv.bad] 73 (0, 0)) := by
        rw [hrv]; exact heap_setCell_same w3 wr.heap.size 1 _ _ _ hg2
      have hm3 := (Mod.refl (fun b T => b = wr.heap.size ∧ T = 73) w3).setCell hg2 ⟨rfl, rfl⟩ 1 (.slice ad r.d.l.length cd)
      have hown3 : OwnM (w3.setCell ⟨wr.heap.size, 1, none⟩ (.slice ad r.d.l.length cd)) w.heap.size a' c' vs :=
        ⟨hown.row.keep fun b' o' _ hl => (hwo b' (by omega)).trans (hbA.block b' hl), fun v hv => (hown.dat v hv).keep fun b' o' _ hl => (hwo b' (by omega)).trans (hbA.block b' hl), hown.apart⟩
      have hod3 : Own (w3.setCell ⟨wr.heap.size, 1, none⟩ (.slice ad r.d.l.length cd)) w.heap.size 5 1 rv.d.a rv.d.l.length rv.d.c (bvs rv.d.l) := by
        rw [hrv]; exact (hod.mod hm3 fun _ _ _ hf => absurd hf.2 (by decide)).mono (by omega)
      have hap3 : Apart (vs ++ [rv]) := hown.apart.snoc (w := wr) (w' := w3) (B := w1.heap.size) hown.dat (by rw [hrv]; exact hod) hs2
      have hbw3 := hbw2.setCell (p := ⟨wr.heap.size, 1, none⟩) hbr.size (.slice ad r.d.l.length cd)
      have hsz3 : (w3.setCell ⟨wr.heap.size, 1, none⟩ (.slice ad r.d.l.length cd)).heap.size = w3.heap.size := World.size_setCell _ _ _
      have hpl : rv.pl = r.pl := by rw [hrv]; rfl
      have m0 := cell_of_row _ wr.heap.size 0 _ _ _ hr3
      have m1 := cell_of_row _ wr.heap.size 1 _ _ _ hr3
      have m2 := cell_of_row _ wr.heap.size 2 _ _ _ hr3
      have hb34 := ext_alloc (w3.setCell ⟨wr.heap.size, 1, none⟩ (.slice ad r.d.l.length cd)) (.cells rv.cells.toArray 73)
      have hnew := src_new (w3.setCell ⟨wr.heap.size, 1, none⟩ (.slice ad r.d.l.length cd)) rv.cells 73
      rw [hsz3] at hnew
      have hown4 := hown3.ext hb34
      have hod4 := hod3.ext hb34
      have hbw4 := bthen hbw3 hb34 (Nat.le_refl _)
      have R1' := Lib.hid ((hb34.block _ (by rw [hsz3]; omega)).trans ((hwo w.heap.size (by omega)).trans ((hbA.block _ hlg).trans R1.out)))
      have R2' := Lib.hid ((hb34.block _ (by rw [hsz3]; have := heap_lt R2.out; omega)).trans ((hwo (w.heap.size + 1) (by have := heap_lt R2.out; omega)).trans ((hbA.block _ (heap_lt R2.out)).trans R2.out)))
      have Hap := Lib.hid hap3
      clear hrv hown hown3 hod3 hod hbA hbw3 hb34 hr3 hbp hwo hsz3 hbw1 hbw2 hm3 hg2 hap3 R1 R2
      go_wp2_with (refine wpList_appx rfl (.tmp 22) (.tmp 24) 22 rfl w.heap.size 73 i0 (.agg #[.int .i64 0, .slice none 0 0, .bool false]) 3 40 Try.underlying22 hi hz0 hz1 hz2 rfl (by decide) a' k c' (flt CellV.cells vs) rfl (by have := hown4.row; rw [Hvk.out] at this; exact this) (some ⟨w3.heap.size, 0, none⟩) 1 1 rv.cells rfl rfl hnew (CellV.one rv) (by unfold maxLen; omega) (by omega) hbw4.size ?_; intro a3 c3 w4 hown5 hb3 hfr)
      have hbw5 := hbw4.trans hb3
      have hrow4 := hown4.row
      rw [Hvk.out] at hrow4
      have hodN : ∀ v ∈ vs ++ [rv], Own w4 w.heap.size 5 1 v.d.a v.d.l.length v.d.c (bvs v.d.l) := by
        intro v hv
        rcases List.mem_append.1 hv with h | h
        · exact (hown4.dat v h).other hrow4 (by decide) hfr
        · simp only [List.mem_singleton] at h
          subst h
          exact hod4.other hrow4 (by decide) hfr
      have hne : ∀ (x : Nat) (cx : Array Value) (Tx : TypeId), Tx ≠ 73 → (World.heap _)[x]? = some (.cells cx Tx (0, 0)) → w4.heap[x]? = some (.cells cx Tx (0, 0)) := fun x cx Tx hT hx => (hfr x (heap_lt hx) (by
        obtain ⟨_, h0 | ⟨g, cur, ha, _, hh, _⟩⟩ := hrow4
        · exact .inl h0
        · refine .inr fun o e => ?_
          rw [ha] at e
          simp only [Option.some.injEq, Addr.mk.injEq] at e
          rw [e.1] at hh
          have h2 := hh.symm.trans hx
          simp only [Option.some.injEq, Obj.cells.injEq] at h2
          exact hT h2.2.1.symm)).trans hx
      have R1 := Lib.hid (hne _ _ _ (by decide) R1'.out)
      have R2 := Lib.hid (hne _ _ _ (by decide) R2'.out)
      clear hown4 hod4 hbw4 hnew k1 m0 m1 m2 hfr hb3 hrow4 hne R1' R2'
      go_roundw
      case rel =>
        have hv1 : (vs ++ [rv]).length = k + 1 := by simp [Hvk.out]
        refine ⟨k + 1, a3, c3, vs ++ [rv], by omega, by go_num, hv1, rfl, ⟨?_, hodN, Hap.out⟩, hbw5, ?_, R1.out, R2.out⟩
        · rw [flt_snoc, hv1]
          exact hown5
        · rw [show pls (vs ++ [rv]) = pls vs ++ [r.pl] by simp [pls, hpl], Hrv.out, Htk.out]
      case measure => simp [intOf]; omega
    · have h1 := Hn.out
      have Hkn : Hid (n = k) := Lib.hid (by omega)
      have hfin := Hrv.out
      rw [show (pls cs).take k = pls cs from List.take_of_length_le (by rw [pls_length]; have := Hkn.out; omega)] at hfin
      have Hfin := Lib.hid hfin
      have hf1 := frozen_of_row wr w.heap.size 1 _ _ r1
      have s1 := heap_setCell_same wr w.heap.size 1 _ _ (.slice a' k c') r1
      have s2 := (Below.heap_setCell wr ⟨w.heap.size, 1, none⟩ (.slice a' k c') (w.heap.size + 1) (by simp)).trans r2
      have hb8 := hbr.setCell (p := ⟨w.heap.size, 1, none⟩) (Nat.le_refl _) (.slice a' k c')
      have ho8 := hown.mod ((Mod.refl (fun b T => T = 24) wr).setCell r1 rfl 1 (.slice a' k c')) fun b T hf => ⟨fun h => by subst hf; revert h; decide, fun h => by subst hf; revert h; decide⟩
      have t0 := cell_of_row _ w.heap.size 0 _ _ _ s1
      have t1 := cell_of_row _ w.heap.size 1 _ _ _ s1
      have hm9 : Mod (fun b T => T = 24) (wr.setCell ⟨w.heap.size, 1, none⟩ (.slice a' k c')) ((wr.setCell ⟨w.heap.size, 1, none⟩ (.slice a' k c')).setRow (w.heap.size + 1) #[.int .i64 cap, .slice a' k c']) := Mod.one (bsetRow (Below.refl (w.heap.size + 1) _) (Nat.le_refl _) _) (fun b hb => setRow_other _ _ b _ hb) s2 (setRow_heap _ _ _ _ _ _ s2) rfl
      have HF := Lib.hid (ho8.mod hm9 fun b T hf => ⟨fun h => by subst hf; revert h; decide, fun h => by subst hf; revert h; decide⟩)
      have hbF := bsetRow hb8 (show w.heap.size ≤ w.heap.size + 1 by omega) #[.int .i64 cap, .slice a' k c']
      have hgF := setRow_heap _ (w.heap.size + 1) _ #[.int .i64 cap, .slice a' k c'] _ _ s2
      clear hfin h1 ho8 hm9 s1 hb8 hown r1 r2
      go_wp2_with (refine wpList_store_row rfl rfl 24 (.tmp 2) (.tmp 28) rfl (w.heap.size + 1) rfl 24 #[.int .i64 0, .slice none 0 0] #[.int .i64 cap, .slice a' k c'] rfl s2 rfl (by kernel_rfl) (by simp [Value.oneCell']) ?_)
      exact bodyPost_ret (v := .agg _) (results_cell_row (p := 2) rfl _ _ (w.heap.size + 1) _ #[.int .i64 cap, .slice a' k c'] _ _ rfl hgF Try.underlying24 rfl (by kernel_rfl)) rfl
        ⟨a', c', vs, by rw [Hkn.out], by rw [Hkn.out]; exact Hvk.out, HF.out, Hfin.out, hbF⟩
end Go.Proofs.Ytnbpcdnpdcfiiaa
