/- Several texts of this claim, one behind the other: KeepTwinM, SpoilM, KeepSpoilM. -/
import Derived.Test.YtmaagkdehdmhlaaMedTwin
import Derived.Test.YtmaagkdehdmhlaaRobotExactPartB
import Derived.Test.YtmaagkdehdmhlaaRobotExactPartA
import Derived.Test.YtmaagkdehdmhlaaRobotExactPartL
/- cellarerkeep.TwinMedium. -/
namespace Go.Proofs.Ytmaagkdehdmhlaa
open Go.RowKit

set_option maxRecDepth 100000 in
set_option maxHeartbeats 4000000 in
theorem twinmed_any (cap : Int) (a : Option Addr) (c n : Nat) (cs : List CellV) (w : World) (hs : CMat w a cs) (hn : n = cs.length) (hn2 : n ≤ 100000) (hx : ∀ x ∈ cs, x.d.l.length ≤ 140737488355328) :
    Calls Try.prog 13 #[.agg #[.int .i64 cap, .slice a n c]] w fun e w' => ∃ a' c' cs', e = .returned (.agg #[.int .i64 cap, .slice a' n c']) ∧ cs'.length = n ∧ OwnM w' w.heap.size a' c' cs' ∧ pls cs' = pls cs ∧ Below w.heap.size w w' := by
  obtain ⟨i0, hi, hz0, hz1, hz2⟩ := info_parts infoCell
  have Hs := Lib.hid hs
  have Hn := Lib.hid hn
  have Hx := Lib.hid hx
  have hz1' := heap_alloc_new w (.cells #[.int .i64 cap, .slice a n c] 45)
  have hz2' := heap_alloc_new (w.alloc (.cells #[.int .i64 cap, .slice a n c] 45)) (.cells #[.int .i64 0, .slice none 0 0] 45)
  rw [World.size_alloc] at hz2'
  have hb1 := ext_alloc w (.cells #[.int .i64 cap, .slice a n c] 45)
  have hb2 := ext_alloc (w.alloc (.cells #[.int .i64 cap, .slice a n c] 45)) (.cells #[.int .i64 0, .slice none 0 0] 45)
  have hz1'' := (hb2.block w.heap.size (by rw [World.size_alloc]; omega)).trans hz1'
  have hb02 := bthen hb1 hb2 (Nat.le_refl _)
  clear hs hn hx hb1 hb2 hz1'
  go_enter Try.func13, Try.ntmps13
  go_wp2_with fail
  generalize hw2 : World.alloc _ (Obj.cells #[.int .i64 0, .slice none 0 0] 45) = w2 at *
  clear hw2
  go_loopw [3, 4] (fun v i wr => ∃ (k : Nat) (a' : Option Addr) (c' : Nat) (vs : List CellV), k ≤ n ∧ i = .int .i64 k ∧ vs.length = k ∧ v = .slice a' k c' ∧ OwnM wr w.heap.size a' c' vs ∧ Below w.heap.size w wr ∧ pls vs = (pls cs).take k ∧ wr.heap[w.heap.size]? = some (.cells #[.int .i64 cap, .slice a n c] 45 (0, 0)) ∧ wr.heap[w.heap.size + 1]? = some (.cells #[.int .i64 0, .slice none 0 0] 45 (0, 0))) (fun _ i _ => n - (intOf i).toNat)
  case atStart => exact ⟨0, none, 0, [], by omega, rfl, rfl, rfl, OwnM.nil _ _ _, hb02, by simp [pls], hz1'', hz2'⟩
  case round =>
    rename_i wr
    obtain ⟨k, a', c', vs, hk, rfl, hvk, rfl, hown, hbr, hrv, r1, r2⟩ := hrel
    have Hvk := Lib.hid hvk
    have Hrv := Lib.hid hrv
    have R1 := Lib.hid r1
    have R2 := Lib.hid r2
    have d1 := cell_of_row wr w.heap.size 1 _ _ _ r1
    have hlg := heap_lt r1
    clear hvk hrv hb02 hz1'' hz2'
    by_cases hlt : k < n
    · have hkr : k < cs.length := by have := Hn.out; omega
      obtain ⟨b1, o1, rfl, hltb1, hat1⟩ := Hs.out.src.elem CellV.len (by decide) hkr
      have c0' := (World.cell?_of_block (w := w) (a := ⟨b1, o1 + k * 3, none⟩) (hbr.block b1 hltb1)).trans (hat1 k hkr 0 _ rfl)
      have c1' := (World.cell?_of_block (w := w) (a := ⟨b1, o1 + k * 3 + 1, none⟩) (hbr.block b1 hltb1)).trans (hat1 k hkr 1 _ rfl)
      have c2' := (World.cell?_of_block (w := w) (a := ⟨b1, o1 + k * 3 + 2, none⟩) (hbr.block b1 hltb1)).trans (hat1 k hkr 2 _ rfl)
      have hr0 := (Hs.out.row cs[k] (List.getElem_mem hkr)).ext hbr
      have hrl := Hx.out cs[k] (List.getElem_mem hkr)
      have Htk := Lib.hid (show (pls cs).take (k + 1) = (pls cs).take k ++ [cs[k].pl] by rw [take_succ_list (pls cs) k (by rw [pls_length]; exact hkr)]; congr 1; simp [pls])
      generalize cs[k] = r at *
      have c0 : wr.cell? ⟨b1, o1 + k * 3, none⟩ = some (.int .i64 r.kind) := c0'
      have c1 : wr.cell? ⟨b1, o1 + k * 3 + 1, none⟩ = some (.slice r.d.a r.d.l.length r.d.c) := c1'
      have c2 : wr.cell? ⟨b1, o1 + k * 3 + 2, none⟩ = some (.bool r.bad) := c2'
      clear hat1 c0' c1' c2' r1 r2
      have hput := CellAt.put wr #[.int .i64 0, .slice none 0 0, .bool false] wr.heap.size rfl r
      have hbp := below_putc wr #[.int .i64 0, .slice none 0 0, .bool false] wr.heap.size rfl r
      obtain ⟨k0, k1, k2⟩ := hput.cells
      go_wp2_with (refine wpList_store_row rfl rfl 42 (.tmp 5) (.tmp 17) rfl wr.heap.size rfl 42 #[.int .i64 0, .slice none 0 0, .bool false] #[.int .i64 r.kind, .slice r.d.a r.d.l.length r.d.c, .bool r.bad] rfl (heap_alloc_new wr _) rfl (by kernel_rfl) (by simp [Value.oneCell']) ?_)
      generalize hws : World.setRow _ _ _ = w1 at *
      clear hws c0 c1 c2 d1
      have hbw1 := bthen hbr hbp (Nat.le_refl _)
      refine (twin_any r.d.a r.d.c r.d.l w1 (hr0.ext hbp).1 (by omega)).mono ?_
      rintro e w3 ⟨ad, cd, rfl, hod, hb2⟩
      have hbA := bthen hbp hb2 (Nat.le_refl _)
      have hbw2 := bthen hbw1 hb2 (Nat.le_refl _)
      have hs1 := hb2.size
      have hs0 := hbw1.size
      have hs2 := hbp.size
      have hg1 : w1.heap[wr.heap.size]? = some (.cells #[.int .i64 r.kind, .slice r.d.a r.d.l.length r.d.c, .bool r.bad] 42 (0, 0)) := hput
      have hg2 := (hb2.block _ (heap_lt hg1)).trans hg1
      clear k0 k1 k2 hput hb2 hg1
      have k1 := cell_of_row w3 wr.heap.size 1 _ _ _ hg2
      have hfz := frozen_of_row w3 wr.heap.size 1 _ _ hg2
      have hwo : ∀ b', b' ≠ wr.heap.size → (w3.setCell ⟨wr.heap.size, 1, none⟩ (.slice ad r.d.l.length cd)).heap[b']? = w3.heap[b']? := fun b' hb' => Below.heap_setCell w3 ⟨wr.heap.size, 1, none⟩ _ b' hb'
      obtain ⟨rv, hrv⟩ : ∃ rv : CellV, rv = ⟨r.kind, ⟨ad, cd, r.d.l⟩, r.bad⟩ := ⟨_, rfl⟩
      have hr3 : (w3.setCell ⟨wr.heap.size, 1, none⟩ (.slice ad r.d.l.length cd)).heap[wr.heap.size]? = some (.cells #[.int .i64 rv.kind, .slice rv.d.a rv.d.l.length rv.d.c, .bool rv.bad] 42 (0, 0)) := by
        rw [hrv]; exact heap_setCell_same w3 wr.heap.size 1 _ _ _ hg2
      have hm3 := (Mod.refl (fun b T => b = wr.heap.size ∧ T = 42) w3).setCell hg2 ⟨rfl, rfl⟩ 1 (.slice ad r.d.l.length cd)
      have hown3 : OwnM (w3.setCell ⟨wr.heap.size, 1, none⟩ (.slice ad r.d.l.length cd)) w.heap.size a' c' vs :=
        ⟨hown.row.keep fun b' o' _ hl => (hwo b' (by omega)).trans (hbA.block b' hl), fun v hv => (hown.dat v hv).keep fun b' o' _ hl => (hwo b' (by omega)).trans (hbA.block b' hl), hown.apart⟩
      have hod3 : Own (w3.setCell ⟨wr.heap.size, 1, none⟩ (.slice ad r.d.l.length cd)) w.heap.size 5 1 rv.d.a rv.d.l.length rv.d.c (bvs rv.d.l) := by
        rw [hrv]; exact (hod.mod hm3 fun _ _ _ hf => absurd hf.2 (by decide)).mono (by omega)
      have hap3 : Apart (vs ++ [rv]) := hown.apart.snoc (w := wr) (w' := w3) (B := w1.heap.size) hown.dat (by rw [hrv]; exact hod) hs2
      have hbw3 := hbw2.setCell (p := ⟨wr.heap.size, 1, none⟩) hbr.size (.slice ad r.d.l.length cd)
      have hsz3 : (w3.setCell ⟨wr.heap.size, 1, none⟩ (.slice ad r.d.l.length cd)).heap.size = w3.heap.size := World.size_setCell _ _ _
      have hpl : rv.pl = r.pl := by rw [hrv]; rfl
      have m0 := cell_of_row _ wr.heap.size 0 _ _ _ hr3
      have m1 := cell_of_row _ wr.heap.size 1 _ _ _ hr3
      have m2 := cell_of_row _ wr.heap.size 2 _ _ _ hr3
      have hb34 := ext_alloc (w3.setCell ⟨wr.heap.size, 1, none⟩ (.slice ad r.d.l.length cd)) (.cells rv.cells.toArray 42)
      have hnew := src_new (w3.setCell ⟨wr.heap.size, 1, none⟩ (.slice ad r.d.l.length cd)) rv.cells 42
      rw [hsz3] at hnew
      have hown4 := hown3.ext hb34
      have hod4 := hod3.ext hb34
      have hbw4 := bthen hbw3 hb34 (Nat.le_refl _)
      have R1' := Lib.hid ((hb34.block _ (by rw [hsz3]; omega)).trans ((hwo w.heap.size (by omega)).trans ((hbA.block _ hlg).trans R1.out)))
      have R2' := Lib.hid ((hb34.block _ (by rw [hsz3]; have := heap_lt R2.out; omega)).trans ((hwo (w.heap.size + 1) (by have := heap_lt R2.out; omega)).trans ((hbA.block _ (heap_lt R2.out)).trans R2.out)))
      have Hap := Lib.hid hap3
      clear hrv hown hown3 hod3 hod hbA hbw3 hb34 hr3 hbp hwo hsz3 hbw1 hbw2 hm3 hg2 hap3 R1 R2
      go_wp2_with (refine wpList_appx rfl (.tmp 22) (.tmp 24) 43 rfl w.heap.size 42 i0 (.agg #[.int .i64 0, .slice none 0 0, .bool false]) 3 40 Try.underlying43 hi hz0 hz1 hz2 rfl (by decide) a' k c' (flt CellV.cells vs) rfl (by have := hown4.row; rw [Hvk.out] at this; exact this) (some ⟨w3.heap.size, 0, none⟩) 1 1 rv.cells rfl rfl hnew (CellV.one rv) (by unfold maxLen; omega) (by omega) hbw4.size ?_; intro a3 c3 w4 hown5 hb3 hfr)
      have hbw5 := hbw4.trans hb3
      have hrow4 := hown4.row
      rw [Hvk.out] at hrow4
      have hodN : ∀ v ∈ vs ++ [rv], Own w4 w.heap.size 5 1 v.d.a v.d.l.length v.d.c (bvs v.d.l) := by
        intro v hv
        rcases List.mem_append.1 hv with h | h
        · exact (hown4.dat v h).other hrow4 (by decide) hfr
        · simp only [List.mem_singleton] at h
          subst h
          exact hod4.other hrow4 (by decide) hfr
      have hne : ∀ (x : Nat) (cx : Array Value) (Tx : TypeId), Tx ≠ 42 → (World.heap _)[x]? = some (.cells cx Tx (0, 0)) → w4.heap[x]? = some (.cells cx Tx (0, 0)) := fun x cx Tx hT hx => (hfr x (heap_lt hx) (by
        obtain ⟨_, h0 | ⟨g, cur, ha, _, hh, _⟩⟩ := hrow4
        · exact .inl h0
        · refine .inr fun o e => ?_
          rw [ha] at e
          simp only [Option.some.injEq, Addr.mk.injEq] at e
          rw [e.1] at hh
          have h2 := hh.symm.trans hx
          simp only [Option.some.injEq, Obj.cells.injEq] at h2
          exact hT h2.2.1.symm)).trans hx
      have R1 := Lib.hid (hne _ _ _ (by decide) R1'.out)
      have R2 := Lib.hid (hne _ _ _ (by decide) R2'.out)
      clear hown4 hod4 hbw4 hnew k1 m0 m1 m2 hfr hb3 hrow4 hne R1' R2'
      go_roundw
      case rel =>
        have hv1 : (vs ++ [rv]).length = k + 1 := by simp [Hvk.out]
        refine ⟨k + 1, a3, c3, vs ++ [rv], by omega, by go_num, hv1, rfl, ⟨?_, hodN, Hap.out⟩, hbw5, ?_, R1.out, R2.out⟩
        · rw [flt_snoc, hv1]
          exact hown5
        · rw [show pls (vs ++ [rv]) = pls vs ++ [r.pl] by simp [pls, hpl], Hrv.out, Htk.out]
      case measure => simp [intOf]; omega
    · have h1 := Hn.out
      have Hkn : Hid (n = k) := Lib.hid (by omega)
      have hfin := Hrv.out
      rw [show (pls cs).take k = pls cs from List.take_of_length_le (by rw [pls_length]; have := Hkn.out; omega)] at hfin
      have Hfin := Lib.hid hfin
      have hf1 := frozen_of_row wr w.heap.size 1 _ _ r1
      have s1 := heap_setCell_same wr w.heap.size 1 _ _ (.slice a' k c') r1
      have s2 := (Below.heap_setCell wr ⟨w.heap.size, 1, none⟩ (.slice a' k c') (w.heap.size + 1) (by simp)).trans r2
      have hb8 := hbr.setCell (p := ⟨w.heap.size, 1, none⟩) (Nat.le_refl _) (.slice a' k c')
      have ho8 := hown.mod ((Mod.refl (fun b T => T = 45) wr).setCell r1 rfl 1 (.slice a' k c')) fun b T hf => ⟨fun h => by subst hf; revert h; decide, fun h => by subst hf; revert h; decide⟩
      have t0 := cell_of_row _ w.heap.size 0 _ _ _ s1
      have t1 := cell_of_row _ w.heap.size 1 _ _ _ s1
      have hm9 : Mod (fun b T => T = 45) (wr.setCell ⟨w.heap.size, 1, none⟩ (.slice a' k c')) ((wr.setCell ⟨w.heap.size, 1, none⟩ (.slice a' k c')).setRow (w.heap.size + 1) #[.int .i64 cap, .slice a' k c']) := Mod.one (bsetRow (Below.refl (w.heap.size + 1) _) (Nat.le_refl _) _) (fun b hb => setRow_other _ _ b _ hb) s2 (setRow_heap _ _ _ _ _ _ s2) rfl
      have HF := Lib.hid (ho8.mod hm9 fun b T hf => ⟨fun h => by subst hf; revert h; decide, fun h => by subst hf; revert h; decide⟩)
      have hbF := bsetRow hb8 (show w.heap.size ≤ w.heap.size + 1 by omega) #[.int .i64 cap, .slice a' k c']
      have hgF := setRow_heap _ (w.heap.size + 1) _ #[.int .i64 cap, .slice a' k c'] _ _ s2
      clear hfin h1 ho8 hm9 s1 hb8 hown r1 r2
      go_wp2_with (refine wpList_store_row rfl rfl 45 (.tmp 2) (.tmp 28) rfl (w.heap.size + 1) rfl 45 #[.int .i64 0, .slice none 0 0] #[.int .i64 cap, .slice a' k c'] rfl s2 rfl (by kernel_rfl) (by simp [Value.oneCell']) ?_)
      exact bodyPost_ret (v := .agg _) (results_cell_row (p := 2) rfl _ _ (w.heap.size + 1) _ #[.int .i64 cap, .slice a' k c'] _ _ rfl hgF Try.underlying45 rfl (by kernel_rfl)) rfl
        ⟨a', c', vs, by rw [Hkn.out], by rw [Hkn.out]; exact Hvk.out, HF.out, Hfin.out, hbF⟩
end Go.Proofs.Ytmaagkdehdmhlaa

/- cellarerkeep.SpoilBytes, with a frame by blocks: one block of bytes alone is written. -/
namespace Go.Proofs.Ytmaagkdehdmhlaa
open Go.RowKit

/-- The one block of a slice of bytes. -/
abbrev UF (a : Option Addr) : Nat → TypeId → Prop := fun b T => a = some ⟨b, 0, none⟩ ∧ T = 5
set_option maxHeartbeats 1000000 in
theorem spoil_mod (B : Nat) (a : Option Addr) (c n : Nat) (l : List Byte) (w : World) (ho : Own w B 5 1 a n c (bvs l)) (hn : n = l.length) (hl : n ≤ 140737488355328) :
    Calls Try.prog 45 #[.slice a n c] w fun e w' => e = .returned (.tuple #[]) ∧ Mod (UF a) w w' ∧ Below B w w' := by
  have Hn := Lib.hid hn
  clear hn
  go_enter Try.func45, Try.ntmps45
  go_wp2_with fail
  go_loopw [2] (fun i wr => ∃ (j : Nat) (m : List Byte), j ≤ n ∧ i = .int .i64 (j : Int) ∧ m.length = n ∧ Own wr B 5 1 a n c (bvs m) ∧ Mod (UF a) w wr ∧ Below B w wr) (fun i _ => n - (intOf i).toNat)
  case atStart => exact ⟨0, l, by omega, rfl, Hn.out.symm, ho, Mod.refl _ _, Below.refl _ _⟩
  case round =>
    rename_i wr
    obtain ⟨j, m, hj, rfl, hm, hown, hb, hbl⟩ := hrel
    by_cases hlt : j < n
    · obtain ⟨g, rfl, hbg, hlg, hat, hfz⟩ := hown.at hlt
      have hc1 := hat j (by rw [bvs_length]; omega)
      have hf1 := hfz j
      obtain ⟨_, _, cur, hcur⟩ := hown.blk (by omega)
      rw [bvs_get m j (by rw [bvs_length]; omega)] at hc1
      generalize m[j]'(by omega) = x at hc1
      have Hm := Lib.hid hm
      have Hc := Lib.hid hcur
      clear hat hfz hm hcur
      have hx := x.isLt
      go_wp2_with fail
      go_roundw
      case rel =>
        have ev : Value.int IntKind.u8 ((((x.toNat : Nat) : Int) + 101) % 256) = .int .u8 (((BitVec.ofNat 8 (x.toNat + 101)).toNat : Nat) : Int) := by
          rw [BitVec.toNat_ofNat]; congr 1
        refine ⟨j + 1, m.set j (BitVec.ofNat 8 (x.toNat + 101)), by omega, by go_num, by rw [List.length_set]; exact Hm.out, ?_, hb.setCell Hc.out ⟨rfl, rfl⟩ _ _, hbl.setCell hbg _⟩
        rw [← bvs_set, ev]
        exact hown.set j _ hlt
      case measure => simp [intOf] <;> omega
    · obtain rfl : j = n := by omega
      go_wp2
      go_end0
      exact ⟨rfl, hb, hbl⟩
theorem UF_no (a : Option Addr) {T' : TypeId} (hT : T' ≠ 5) : ∀ b T, UF a b T → T ≠ T' := by
  rintro b T ⟨_, rfl⟩ h; exact hT h.symm
end Go.Proofs.Ytmaagkdehdmhlaa

/- cellarerkeep.SpoilMedium. -/
namespace Go.Proofs.Ytmaagkdehdmhlaa
open Go.RowKit

set_option maxHeartbeats 1000000 in
theorem spoil_nil (a : Option Addr) (c : Nat) (w : World) :
    Calls Try.prog 45 #[.slice a 0 c] w fun e w' => e = .returned (.tuple #[]) ∧ Below w.heap.size w w' := by
  go_enter Try.func45, Try.ntmps45
  go_wp2_with fail
  go_loopw [2] (fun i wr => i = .int .i64 0 ∧ Below w.heap.size w wr) (fun i _ => 0)
  case atStart => exact ⟨rfl, Below.refl _ _⟩
  case round =>
    rename_i wr
    obtain ⟨rfl, hb⟩ := hrel
    go_wp2
    go_end0
    exact ⟨rfl, hb⟩

/-- What SpoilMedium writes. -/
abbrev SPF (B N : Nat) : Nat → TypeId → Prop := fun b T => B ≤ b ∧ b < N ∧ (T = 5 ∨ T = 42)
set_option maxRecDepth 100000 in
set_option maxHeartbeats 4000000 in
theorem spoilmed_ty (B N : Nat) (cap : Int) (a : Option Addr) (c n : Nat) (cs : List CellV) (w : World) (ho : OwnM w B a c cs) (hn : n = cs.length) (hn2 : n ≤ 100000) (hx : ∀ x ∈ cs, x.d.l.length ≤ 140737488355328) (hB : B ≤ w.heap.size) (hN1 : ∀ x, a = some ⟨x, 0, none⟩ → n ≠ 0 → x < N) (hN2 : ∀ y ∈ cs, y.d.l ≠ [] → ∀ x, y.d.a = some ⟨x, 0, none⟩ → x < N) :
    Calls Try.prog 17 #[.agg #[.int .i64 cap, .slice a n c]] w fun e w' => e = .returned (.tuple #[]) ∧ Below B w w' ∧ Mod (SPF B N) w w' := by
  have Hn := Lib.hid hn
  have Hx := Lib.hid hx
  have HN1 := Lib.hid hN1
  have HN2 := Lib.hid hN2
  clear hN1 hN2
  have Hap := Lib.hid ho.apart
  have hz := heap_alloc_new w (.cells #[.int .i64 cap, .slice a n c] 45)
  have hb1 := ext_alloc w (.cells #[.int .i64 cap, .slice a n c] 45)
  have ho1 := ho.ext hb1
  have hrow0 := ho1.row
  rw [← hn] at hrow0
  clear hn hx
  go_enter Try.func17, Try.ntmps17
  go_wp2_with fail
  go_loopw [2] (fun i wr => ∃ (k : Nat) (vs : List CellV), k ≤ n ∧ i = .int .i64 (k : Int) ∧ vs.map CellV.d = cs.map CellV.d ∧ Own wr B 42 3 a n c (flt CellV.cells vs) ∧ (∀ (j : Nat) (h : j < cs.length), k ≤ j → cs[j].d.l ≠ [] → Own wr B 5 1 cs[j].d.a cs[j].d.l.length cs[j].d.c (bvs cs[j].d.l)) ∧ wr.heap[w.heap.size]? = some (.cells #[.int .i64 cap, .slice a n c] 45 (0, 0)) ∧ Below B w wr ∧ Mod (SPF B N) w wr) (fun i _ => n - (intOf i).toNat)
  case atStart => exact ⟨0, cs, by omega, rfl, rfl, hrow0, fun j hj _ _ => ho1.dat _ (List.getElem_mem hj), hz, hb1.mono hB, bmod hb1 _⟩
  case round =>
    rename_i wr
    obtain ⟨k, vs, hk, rfl, hvs, hrow, hdat, r1, hbr, hmr⟩ := hrel
    have HMr := Lib.hid hmr
    have Hvs := Lib.hid hvs
    have Hdat := Lib.hid hdat
    have R1 := Lib.hid r1
    have d1 := cell_of_row wr w.heap.size 1 _ _ _ r1
    have hlg := heap_lt r1
    clear hvs hdat ho1 hz hb1 hrow0 hmr
    by_cases hlt : k < n
    · have hkc : k < cs.length := by have := Hn.out; omega
      have hvl : vs.length = cs.length := by have := congrArg List.length Hvs.out; simpa using this
      have hkv : k < vs.length := by omega
      have hvd : vs[k].d = cs[k].d := by
        have h := congrArg (fun l : List Bsl => l[k]?) Hvs.out
        rw [List.getElem?_map, List.getElem?_map, List.getElem?_eq_getElem hkv, List.getElem?_eq_getElem hkc] at h
        exact Option.some.inj h
      obtain ⟨x, rfl, hBx, hlx, hat, hfz⟩ := hrow.elem CellV.len (by decide) hkv
      have q0' := hat 0 _ rfl
      have q1' := hat 1 _ rfl
      have hxl := Hx.out _ (List.getElem_mem hkc)
      rw [hvd] at q1'
      have q1 : wr.cell? ⟨x, k * 3 + 1, none⟩ = some (.slice cs[k].d.a cs[k].d.l.length cs[k].d.c) := q1'
      have HD := Lib.hid (Hdat.out k hkc (Nat.le_refl k))
      have HA : Hid (∀ (j : Nat) (h : j < cs.length), k + 1 ≤ j → cs[j].d.l ≠ [] → cs[k].d.l ≠ [] → cs[k].d.a ≠ cs[j].d.a) := Lib.hid fun j hj hkj h1 h2 => Hap.out.ne hkc hj (by omega) h2 h1
      have HQN : Hid (cs[k].d.l ≠ [] → ∀ x, cs[k].d.a = some ⟨x, 0, none⟩ → x < N) := Lib.hid (HN2.out _ (List.getElem_mem hkc))
      generalize hq : cs[k].d = q at q1 HD HA hxl hvd HQN
      obtain ⟨qa, qc, ql⟩ := q
      dsimp only at q1 HD HA hxl HQN
      obtain ⟨L, hL⟩ : ∃ L, L = ql.length := ⟨_, rfl⟩
      rw [← hL] at q1 HD hxl
      have HL := Lib.hid hL
      have Hrow := Lib.hid hrow
      have hxg : x ≠ w.heap.size := by
        intro e
        obtain ⟨_, _, cur, hcur⟩ := hrow.blk (by omega)
        rw [e, r1] at hcur
        revert hcur; simp
      clear q1' q0' hL hq r1 hat hfz hrow
      -- what the call leaves
      have key : Calls Try.prog 45 #[.slice qa L qc] wr fun e w' => e = .returned (.tuple #[]) ∧ Below B wr w' ∧ Mod (fun b T => T = 5) wr w' ∧ Mod (SPF B N) wr w' ∧ (∀ (j : Nat) (h : j < cs.length), k + 1 ≤ j → cs[j].d.l ≠ [] → Own w' B 5 1 cs[j].d.a cs[j].d.l.length cs[j].d.c (bvs cs[j].d.l)) := by
        by_cases h0 : L = 0
        · subst h0
          refine (spoil_nil qa qc wr).mono ?_
          rintro e w2 ⟨rfl, hb⟩
          exact ⟨rfl, hb.mono (by omega), bmod hb _, bmod hb _, fun j hj hkj h1 => (Hdat.out j hj (by omega) h1).ext hb⟩
        · have hne : ql ≠ [] := fun e => h0 (by rw [HL.out, e]; rfl)
          refine (spoil_mod B qa qc L ql wr (HD.out hne) HL.out hxl).mono ?_
          rintro e w2 ⟨rfl, hm, hb⟩
          refine ⟨rfl, hb, hm.mono fun _ _ _ h => h.2, hm.mono fun b T _ h => ⟨by have ho := HD.out hne; rw [h.1] at ho; exact (ho.blk (by omega)).1, HQN.out hne b h.1, .inl h.2⟩, fun j hj hkj h1 => (Hdat.out j hj (by omega) h1).mod hm fun g hg _ hf => HA.out j hj hkj h1 hne (by rw [hg]; exact hf.1)⟩
      have Key := Lib.hid key
      clear key
      go_wp2_with fail
      refine Key.out.mono ?_
      rintro e w2 ⟨rfl, hb2, hm2, hmF, hd2⟩
      have hbr2 := hbr.trans hb2
      have g2 := hm2.keep R1.out (by decide)
      have hrow2 := Hrow.out.mod hm2 fun _ _ _ hf => absurd (show 42 = 5 from hf) (by decide)
      obtain ⟨x2, hx2, _, _, hat2, hfz2⟩ := hrow2.elem CellV.len (by decide) hkv
      obtain rfl : x = x2 := by simpa using hx2
      have q0 := hat2 0 _ rfl
      have hf0 := hfz2 (k * 3)
      have q0 : w2.cell? ⟨x, k * 3, none⟩ = some (.int .i64 vs[k].kind) := q0
      have d1' := cell_of_row w2 w.heap.size 1 _ _ _ g2
      have hset := hrow2.setAt (k * 3 + 0) (.int .i64 9) (by omega)
      rw [flt_set1 CellV.len vs k 0 hkv (by decide) ⟨9, vs[k].d, vs[k].bad⟩ _ rfl] at hset
      obtain ⟨_, _, cur2, hcur2⟩ := hrow2.blk (by omega)
      have hm3 := (Mod.refl (fun b T => T = 42) w2).setCell hcur2 rfl (k * 3) (.int .i64 9)
      have HS : Hid (Own (w2.setCell ⟨x, k * 3, none⟩ (.int .i64 9)) B 42 3 (some ⟨x, 0, none⟩) n c (flt CellV.cells (vs.set k ⟨9, vs[k].d, vs[k].bad⟩))) := Lib.hid hset
      have HV : Hid ((vs.set k ⟨9, vs[k].d, vs[k].bad⟩).map CellV.d = cs.map CellV.d) := Lib.hid (by
        rw [List.map_set, ← Hvs.out]
        have e2 : (vs.map CellV.d)[k]'(by simpa using hkv) = vs[k].d := by simp
        show (vs.map CellV.d).set k vs[k].d = _
        rw [← e2, List.set_getElem_self])
      have HD3 : Hid (∀ (j : Nat) (h : j < cs.length), k + 1 ≤ j → cs[j].d.l ≠ [] → Own (w2.setCell ⟨x, k * 3, none⟩ (.int .i64 9)) B 5 1 cs[j].d.a cs[j].d.l.length cs[j].d.c (bvs cs[j].d.l)) := Lib.hid fun j hj hkj h1 => (hd2 j hj hkj h1).mod hm3 fun _ _ _ hf => absurd (show 5 = 42 from hf) (by decide)
      have G3 := Lib.hid (hm3.keep g2 (by decide))
      have HM3 := Lib.hid ((HMr.out.trans hmF).setCell hcur2 (F := SPF B N) ⟨hBx, HN1.out x rfl (by omega), .inr rfl⟩ (k * 3) (.int .i64 9))
      have HB3 := Lib.hid (hbr2.setCell (p := ⟨x, k * 3, none⟩) hBx (.int .i64 9))
      generalize vs[k].kind = kk at q0
      clear hmF hset hrow2 hat2 hfz2 hm2 hm3 hd2 d1 hcur2 g2 hb2 hbr2 hx2 q1
      go_wp2_with fail
      go_roundw
      case rel => exact ⟨k + 1, _, by omega, by go_num, HV.out, HS.out, HD3.out, G3.out, HB3.out, HM3.out⟩
      case measure => simp [intOf]; omega
    · go_wp2
      go_end0
      exact ⟨rfl, hbr, HMr.out⟩
theorem spoilmed_any (B N : Nat) (cap : Int) (a : Option Addr) (c n : Nat) (cs : List CellV) (w : World) (ho : OwnM w B a c cs) (hn : n = cs.length) (hn2 : n ≤ 100000) (hx : ∀ x ∈ cs, x.d.l.length ≤ 140737488355328) (hB : B ≤ w.heap.size) (hN1 : ∀ x, a = some ⟨x, 0, none⟩ → n ≠ 0 → x < N) (hN2 : ∀ y ∈ cs, y.d.l ≠ [] → ∀ x, y.d.a = some ⟨x, 0, none⟩ → x < N) :
    Calls Try.prog 17 #[.agg #[.int .i64 cap, .slice a n c]] w fun e w' => e = .returned (.tuple #[]) ∧ Below B w w' ∧ Mod (fun b _ => B ≤ b ∧ b < N) w w' := (spoilmed_ty B N cap a c n cs w ho hn hn2 hx hB hN1 hN2).mono fun _ _ h => ⟨h.1, h.2.1, h.2.2.mono fun _ _ _ h => ⟨h.1, h.2.1⟩⟩
end Go.Proofs.Ytmaagkdehdmhlaa
