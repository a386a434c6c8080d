/- cellarerkeep.TwinRecords. -/
import Derived.Test.YtogcejmnhiphgaaOwnRecs
import Derived.Test.YtogcejmnhiphgaaKeep
namespace Go.Proofs.Ytogcejmnhiphgaa
open Go.RowKit

set_option maxRecDepth 100000

set_option maxHeartbeats 4000000 in
theorem twinrecs_at (a : Option Addr) (c n : Nat) (rs : List RecV) (w : World) (ha : RMat w a rs) (hn : n = rs.length) (hl : n ≤ 100000) (hd : ∀ r ∈ rs, r.d.l.length ≤ 100000) :
    Calls Try.prog 20 #[.slice a n c] w fun e w' => ∃ a' c' vs, e = .returned (.slice a' n c') ∧ vs.length = n ∧ OwnRecs w' w.heap.size a' c' vs ∧ recs vs = recs rs ∧ Below w.heap.size w w' := by
  obtain ⟨i0, hi, hz0, hz1, hz2⟩ := info_parts infoRec
  have HN := Lib.hid hn
  clear hn
  go_enter Try.func20, Try.ntmps20
  go_wp2_with fail
  go_loopw [3, 4] (fun v i wr => ∃ (k : Nat) (a' : Option Addr) (c' : Nat) (vs : List RecV), k ≤ n ∧ i = .int .i64 k ∧ vs.length = k ∧ v = .slice a' k c' ∧ OwnRecs wr w.heap.size a' c' vs ∧ Below w.heap.size w wr ∧ recs vs = (recs rs).take k) (fun _ i _ => n - (intOf i).toNat)
  case atStart => exact ⟨0, none, 0, [], by omega, rfl, rfl, rfl, ⟨Own.nil _ _ _ _ _, by simp⟩, Below.refl _ _, by simp [recs]⟩
  case round =>
    rename_i wr
    obtain ⟨k, a', c', vs, hk, rfl, hvk, rfl, hown, hbr, hrv⟩ := hrel
    have Hvk := Lib.hid hvk
    have Hrv := Lib.hid hrv
    clear hvk hrv
    by_cases hlt : k < n
    · have har := ha.ext hbr
      have hkr : k < rs.length := by have := HN.out; omega
      obtain ⟨b1, o1, rfl, hltb1, hat1⟩ := har.at (i := k) hkr
      obtain ⟨c0, c1, c2⟩ := hat1 k hkr
      have hr0 := ha.row rs[k] (List.getElem_mem hkr)
      have hrl := hd rs[k] (List.getElem_mem hkr)
      have Htk := Lib.hid (recs_take_succ rs k hkr)
      generalize rs[k] = r at *
      clear hat1
      have hput := RecAt.put wr #[.int .i64 0, .int .i64 0, .slice none 0 0] rfl r
      have hbp := below_putr wr #[.int .i64 0, .int .i64 0, .slice none 0 0] r
      obtain ⟨k0, k1, k2⟩ := hput.cells
      go_wp2_with (refine wpList_store_row rfl rfl 39 (.tmp 5) (.tmp 15) rfl wr.heap.size rfl 39 #[.int .i64 0, .int .i64 0, .slice none 0 0] #[.int .i64 r.kind, .int .i64 r.seq, .slice r.d.a r.d.l.length r.d.c] rfl (heap_alloc_new wr _) rfl (by kernel_rfl) (by simp [Value.oneCell']) ?_)
      generalize hws : World.setRow _ _ _ = w1 at *
      clear hws c0 c1 c2
      have hbw1 := bthen hbr hbp (Nat.le_refl _)
      refine (twin_any r.d.a r.d.c r.d.l w1 (hr0.1.ext hbw1) (by omega)).mono ?_
      rintro e w2 ⟨ad, cd, rfl, hod, hb2⟩
      have hbA := bthen hbp hb2 (Nat.le_refl _)
      have hbw2 := bthen hbw1 hb2 (Nat.le_refl _)
      have hr2 := hput.ext hb2
      have hs1 := hb2.size
      have hs0 := hbw1.size
      clear k0 k1 k2 hput hb2
      obtain ⟨k0, k1, k2⟩ := hr2.cells
      have hg2 : w2.heap[wr.heap.size]? = some (.cells #[.int .i64 r.kind, .int .i64 r.seq, .slice r.d.a r.d.l.length r.d.c] 39 (0, 0)) := hr2
      have hfz := frozen_of_row w2 wr.heap.size 2 _ _ hg2
      have hwo : ∀ b', b' ≠ wr.heap.size → (w2.setCell ⟨wr.heap.size, 2, none⟩ (.slice ad r.d.l.length cd)).heap[b']? = w2.heap[b']? := fun b' hb' => Below.heap_setCell w2 ⟨wr.heap.size, 2, none⟩ _ b' hb'
      obtain ⟨rv, hrv⟩ : ∃ rv : RecV, rv = ⟨r.kind, r.seq, ⟨ad, cd, r.d.l⟩⟩ := ⟨_, rfl⟩
      have hr3 : RecAt (w2.setCell ⟨wr.heap.size, 2, none⟩ (.slice ad r.d.l.length cd)) wr.heap.size rv := by
        rw [hrv]; exact heap_setCell_same w2 wr.heap.size 2 _ _ _ hg2
      have hown3 : OwnRecs (w2.setCell ⟨wr.heap.size, 2, none⟩ (.slice ad r.d.l.length cd)) w.heap.size a' c' vs :=
        ⟨hown.row.keep fun b' o' _ hl => (hwo b' (by omega)).trans (hbA.block b' hl), fun v hv => (hown.dat v hv).keep fun b' o' _ hl => (hwo b' (by omega)).trans (hbA.block b' hl)⟩
      have hod3 : Own (w2.setCell ⟨wr.heap.size, 2, none⟩ (.slice ad r.d.l.length cd)) w.heap.size 5 1 rv.d.a rv.d.l.length rv.d.c (bvs rv.d.l) := by
        rw [hrv]; exact (own_store hod hg2 (by decide) hwo).mono (by omega)
      have hbw3 := hbw2.setCell (p := ⟨wr.heap.size, 2, none⟩) hbr.size (.slice ad r.d.l.length cd)
      have hsz3 : (w2.setCell ⟨wr.heap.size, 2, none⟩ (.slice ad r.d.l.length cd)).heap.size = w2.heap.size := World.size_setCell _ _ _
      have hpl : rv.pl = r.pl := by rw [hrv]; rfl
      have m0 : (w2.setCell ⟨wr.heap.size, 2, none⟩ (.slice ad r.d.l.length cd)).cell? ⟨wr.heap.size, 0, none⟩ = some (.int .i64 rv.kind) := hr3.cells.1
      have m1 : (w2.setCell ⟨wr.heap.size, 2, none⟩ (.slice ad r.d.l.length cd)).cell? ⟨wr.heap.size, 1, none⟩ = some (.int .i64 rv.seq) := hr3.cells.2.1
      have m2 : (w2.setCell ⟨wr.heap.size, 2, none⟩ (.slice ad r.d.l.length cd)).cell? ⟨wr.heap.size, 2, none⟩ = some (.slice rv.d.a rv.d.l.length rv.d.c) := hr3.cells.2.2
      have hb34 := ext_alloc (w2.setCell ⟨wr.heap.size, 2, none⟩ (.slice ad r.d.l.length cd)) (.cells rv.cells.toArray 39)
      have hnew := src_new (w2.setCell ⟨wr.heap.size, 2, none⟩ (.slice ad r.d.l.length cd)) rv.cells 39
      rw [hsz3] at hnew
      have hown4 := hown3.ext hb34
      have hod4 := hod3.ext hb34
      have hbw4 := bthen hbw3 hb34 (Nat.le_refl _)
      clear hrv hown hown3 hod3 hod hbA hbw3 hb34 hr3 hr2 hbp hwo hsz3 hbw1 hbw2
      go_wp2_with (refine wpList_appx rfl (.tmp 20) (.tmp 22) 22 rfl w.heap.size 39 i0 (.agg #[.int .i64 0, .int .i64 0, .slice none 0 0]) 3 40 Try.underlying22 hi hz0 hz1 hz2 rfl (by decide) a' k c' (rvs vs) rfl (by have := hown4.row; rw [Hvk.out] at this; exact this) (some ⟨w2.heap.size, 0, none⟩) 1 1 rv.cells rfl rfl hnew (by simpa [rvs] using rvs_one [rv]) (by unfold maxLen; omega) (by omega) hbw4.size ?_; intro a3 c3 w3 hown5 hb3 hfr)
      have hbw5 := hbw4.trans hb3
      have hrow4 := hown4.row
      rw [Hvk.out] at hrow4
      have hodN : ∀ v ∈ vs ++ [rv], Own w3 w.heap.size 5 1 v.d.a v.d.l.length v.d.c (bvs v.d.l) := by
        intro v hv
        rcases List.mem_append.1 hv with h | h
        · exact (hown4.dat v h).other hrow4 (by decide) hfr
        · simp only [List.mem_singleton] at h
          subst h
          exact hod4.other hrow4 (by decide) hfr
      clear hown4 hod4 hbw4 hnew k0 k1 k2 m0 m1 m2 hfr hb3 hrow4
      go_roundw
      case rel =>
        have hv1 : (vs ++ [rv]).length = k + 1 := by simp [Hvk.out]
        refine ⟨k + 1, a3, c3, vs ++ [rv], by omega, by go_num, hv1, rfl, ⟨?_, hodN⟩, hbw5, ?_⟩
        · rw [rvs_append, show rvs [rv] = rv.cells by simp [rvs], hv1]
          exact hown5
        · rw [show recs (vs ++ [rv]) = recs vs ++ [r.pl] by simp [recs, hpl], Hrv.out, Htk.out]
      case measure => simp [intOf]; omega
    · have h1 := HN.out
      obtain rfl : k = n := by omega
      have htk : (recs rs).take k = recs rs := List.take_of_length_le (by simp; omega)
      have hfin := Hrv.out
      rw [htk] at hfin
      have Hfin := Lib.hid hfin
      clear hfin htk h1
      go_wp2
      go_ret
      exact ⟨a', c', vs, rfl, Hvk.out, hown, Hfin.out, hbr⟩
end Go.Proofs.Ytogcejmnhiphgaa
