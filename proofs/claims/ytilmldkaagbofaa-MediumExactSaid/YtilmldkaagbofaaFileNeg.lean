/- medium.File and the page's File, of whatever number. -/
import Derived.Test.YtilmldkaagbofaaRefMed3
namespace Go.Proofs.Ytilmldkaagbofaa
open Go.RowKit

theorem behind_neg (cs : List CellP) (i : Nat) (n : Int) (h : n < 0) : behind cs i n = (0, 8) := by
  induction cs generalizing i n with
  | nil => rfl
  | cons c cs ih =>
    unfold behind
    split
    · rw [if_neg (by omega)]; exact ih _ _ (by omega)
    · exact ih _ _ h
set_option maxRecDepth 100000 in
set_option maxHeartbeats 4000000 in
theorem behindn_any (cap : Int) (a : Option Addr) (c n : Nat) (cs : List CellV) (N : Int) (w : World) (hs : CMat w a cs) (hn : n = cs.length) (hn2 : n ≤ 90000) (hN0 : N < 0) (hN1 : -9223372036854775808 ≤ N) :
    Calls Try.prog 108 #[.agg #[.int .i64 cap, .slice a n c], .int .i64 N] w fun e w' => e = .returned (.tuple #[.int .i64 0, .int .i64 8]) ∧ Below w.heap.size w w' := by
  have hb := ext_alloc w (.cells #[.int .i64 cap, .slice a n c] 32)
  have Hs := Lib.hid hs
  have Hn := Lib.hid hn
  have e0 : (N == 0) = false := by simp; omega
  clear hs hn
  go_enter Try.func108, Try.ntmps108
  go_wp2_with fail
  go_loopw [1, 13] (fun v i wr => ∃ (k : Nat) (M : Int), k ≤ n ∧ i = .int .i64 (k : Int) ∧ v = .int .i64 M ∧ ((-9223372036854775808 ≤ M ∧ M < 0) ∨ (9223372036854775807 - (k : Int) ≤ M ∧ M ≤ 9223372036854775807)) ∧ Below w.heap.size w wr) (fun _ i _ => n - (intOf i).toNat)
  case atStart => exact ⟨0, N, by omega, rfl, rfl, .inl ⟨hN1, hN0⟩, hb⟩
  case round =>
    rename_i wr
    obtain ⟨k, M, hk, rfl, rfl, hM, hbr⟩ := hrel
    have HM := Lib.hid hM
    clear hb e0 hN0 hN1 hM
    by_cases hlt : k < n
    · have hkl : k < cs.length := by have := Hn.out; omega
      obtain ⟨b, o, rfl, hlb, hat⟩ := Hs.out.src.elem CellV.len (by decide) hkl
      have q0 := hat k hkl 0 _ rfl
      have q1 := hat k hkl 1 _ rfl
      have q2 := hat k hkl 2 _ rfl
      generalize cs[k] = x at *
      obtain ⟨kd, ⟨xa, xc, xl⟩, bd⟩ := x
      dsimp only at *
      have c0 := (World.cell?_of_block (w := w) (a := ⟨b, o + k * 3, none⟩) (hbr.block b hlb)).trans q0
      have c1 := (World.cell?_of_block (w := w) (a := ⟨b, o + k * 3 + 1, none⟩) (hbr.block b hlb)).trans q1
      have c2 := (World.cell?_of_block (w := w) (a := ⟨b, o + k * 3 + 2, none⟩) (hbr.block b hlb)).trans q2
      have hput := CellAt.put wr #[.int .i64 0, .slice none 0 0, .bool false] _ rfl ⟨kd, ⟨xa, xc, xl⟩, bd⟩
      have hbp := below_putc wr #[.int .i64 0, .slice none 0 0, .bool false] _ rfl ⟨kd, ⟨xa, xc, xl⟩, bd⟩
      obtain ⟨m0, m1, m2⟩ := hput.cells
      dsimp only at hput hbp m0 m1 m2
      have hb02 := bthen hbr hbp (Nat.le_refl _)
      clear hat q0 q1 q2
      by_cases h2 : kd = 2
      · subst h2
        by_cases hmin : M = -9223372036854775808
        · subst hmin
          clear HM
          have e : wrap64 (-9223372036854775809) = 9223372036854775807 := by first | rfl | (simp [wrap64]; done) | (unfold wrap64; omega) | (rw [← IntKind.wrap_i64]; rfl)
          go_wp2_with (refine wpList_store_row rfl rfl 46 (.tmp 7) (.tmp 17) rfl wr.heap.size rfl 46 #[.int .i64 0, .slice none 0 0, .bool false] #[.int .i64 2, .slice xa xl.length xc, .bool bd] rfl (heap_alloc_new wr _) rfl (by kernel_rfl) (CellV.one ⟨2, ⟨xa, xc, xl⟩, bd⟩) ?_)
          go_roundw
          case rel => exact ⟨k + 1, 9223372036854775807, by omega, by go_num, by first | rfl | rw [e] | simp [e], .inr ⟨by omega, by omega⟩, hb02⟩
          case measure => simp [intOf]; omega
        · have hM1 : -9223372036854775807 ≤ M := by have := HM.out; omega
          have hM2 : M ≤ 9223372036854775807 := by have := HM.out; omega
          have eM : (M - 1 == 0) = false := by have := HM.out; simp; omega
          clear hmin
          go_wp2_with (refine wpList_store_row rfl rfl 46 (.tmp 7) (.tmp 17) rfl wr.heap.size rfl 46 #[.int .i64 0, .slice none 0 0, .bool false] #[.int .i64 2, .slice xa xl.length xc, .bool bd] rfl (heap_alloc_new wr _) rfl (by kernel_rfl) (CellV.one ⟨2, ⟨xa, xc, xl⟩, bd⟩) ?_)
          go_roundw
          case rel => exact ⟨k + 1, M - 1, by omega, by go_num, rfl, by have := HM.out; omega, hb02⟩
          case measure => simp [intOf]; omega
      · have e2 : (kd == 2) = false := by simpa using h2
        clear h2
        go_wp2_with (refine wpList_store_row rfl rfl 46 (.tmp 7) (.tmp 17) rfl wr.heap.size rfl 46 #[.int .i64 0, .slice none 0 0, .bool false] #[.int .i64 kd, .slice xa xl.length xc, .bool bd] rfl (heap_alloc_new wr _) rfl (by kernel_rfl) (CellV.one ⟨kd, ⟨xa, xc, xl⟩, bd⟩) ?_)
        go_roundw
        case rel => exact ⟨k + 1, M, by omega, by go_num, rfl, by have := HM.out; omega, hb02⟩
        case measure => simp [intOf]; omega
    · go_wp2
      go_ret2
      exact ⟨rfl, hbr⟩
set_option maxHeartbeats 1000000 in
/-- medium.File, of whatever number. -/
theorem filez_any (cap : Int) (a : Option Addr) (c n : Nat) (cs : List CellV) (N R E : Int) (w : World) (hs : CMat w a cs) (hn : n = cs.length) (hn2 : n ≤ 90000) (hN0 : -9223372036854775808 ≤ N) (hN1 : N ≤ 9223372036854775807) (hr : (medOf cap cs).file N = (R, E)) :
    Calls Try.prog 34 #[.agg #[.int .i64 cap, .slice a n c], .int .i64 N] w fun e w' => e = .returned (.tuple #[.int .i64 R, .int .i64 E]) ∧ Below w.heap.size w w' := by
  by_cases hzN : 0 ≤ N
  · exact file_any cap a c n cs N R E w hs hn (by omega) hzN hN1 hr
  have hneg : N < 0 := by omega
  have hb := ext_alloc w (.cells #[.int .i64 cap, .slice a n c] 32)
  have hz := heap_alloc_new w (.cells #[.int .i64 cap, .slice a n c] 32)
  have hzl := heap_lt hz
  have Hs := Lib.hid hs
  have Hn := Lib.hid hn
  have hr2 : R = (if (medOf cap cs).ok = true then 0 else 0) ∧ E = if (medOf cap cs).ok = true then 8 else 1 := by
    unfold Med.file Med.behind at hr
    rw [if_neg (show ¬ N = 0 by omega), behind_neg _ _ _ hneg] at hr
    cases h : (medOf cap cs).ok with
    | true => rw [h] at hr; simp at hr; simp; exact ⟨hr.1.symm, hr.2.symm⟩
    | false => rw [h] at hr; simp at hr; simp; exact ⟨hr.1.symm, hr.2.symm⟩
  clear hr hs hn
  cases hok : (medOf cap cs).ok with
  | false =>
    rw [hok] at hr2
    obtain ⟨rfl, rfl⟩ : R = 0 ∧ E = 1 := by simpa using hr2
    clear hr2
    go_enter Try.func34, Try.ntmps34
    go_wp2_with fail
    refine (check_any cap a c n cs false _ (Hs.out.ext hb) Hn.out (by omega) hok).mono ?_
    rintro e w1 ⟨rfl, hb1⟩
    go_wp2
    go_ret2
    exact ⟨rfl, bthen hb hb1 (Nat.le_refl _)⟩
  | true =>
    rw [hok] at hr2
    obtain ⟨rfl, rfl⟩ : R = 0 ∧ E = 8 := by simpa using hr2
    clear hr2
    go_enter Try.func34, Try.ntmps34
    go_wp2_with fail
    refine (check_any cap a c n cs true _ (Hs.out.ext hb) Hn.out (by omega) hok).mono ?_
    rintro e w1 ⟨rfl, hb1⟩
    have hz1 := (hb1.block _ hzl).trans hz
    have d0 := cell_of_row w1 w.heap.size 0 _ _ _ hz1
    have d1 := cell_of_row w1 w.heap.size 1 _ _ _ hz1
    have hb01 := bthen hb hb1 (Nat.le_refl _)
    clear hb1 hz hzl hok
    go_wp2_with fail
    refine (behindn_any cap a c n cs N w1 (Hs.out.ext hb01) Hn.out hn2 hneg hN0).mono ?_
    rintro e w2 ⟨rfl, hb2⟩
    have hb02 := bthen hb01 hb2 (Nat.le_refl _)
    clear hb2 d0 d1 hz1
    go_wp2
    go_ret2
    exact ⟨rfl, hb02⟩
set_option maxRecDepth 100000 in
set_option maxHeartbeats 1000000 in
/-- The page's File, of whatever number, of a right tape. -/
theorem reffilez_any (cap : Int) (a : Option Addr) (c n : Nat) (cs : List CellV) (N R E : Int) (w : World) (hs : CMat w a cs) (hn : n = cs.length) (hn2 : n ≤ 90000) (hN1 : N ≤ 9223372036854775807) (hr : (medOf cap cs).behind N = (R, E)) :
    Calls Try.prog 64 #[.agg #[.int .i64 cap, .slice a n c], .int .i64 N] w fun e w' => e = .returned (.tuple #[.int .i64 R, .int .i64 E]) ∧ Below w.heap.size w w' := by
  by_cases hz : 0 ≤ N
  · exact reffile_any cap a c n cs N R E w hs hn (by omega) hz hN1 hr
  have hneg : N < 0 := by omega
  have hb := ext_alloc w (.cells #[.int .i64 cap, .slice a n c] 32)
  have hz1 := heap_alloc_new w (.cells #[.int .i64 cap, .slice a n c] 32)
  have d1 := cell_of_row _ w.heap.size 1 _ _ _ hz1
  obtain ⟨rfl, rfl⟩ : R = 0 ∧ E = 8 := by
    unfold Med.behind at hr
    rw [if_neg (show ¬ N = 0 by omega), behind_neg _ _ _ hneg] at hr
    simp at hr; exact ⟨hr.1.symm, hr.2.symm⟩
  have e0 : (N == 0) = false := by simp; omega
  clear hr hs hn hz hz1
  go_enter Try.func64, Try.ntmps64
  go_wp2_with fail
  go_loopw [1, 6] (fun v i wr => v = .int .i64 N ∧ i = .int .i64 0 ∧ wr = w.alloc (.cells #[.int .i64 cap, .slice a n c] 32)) (fun _ _ _ => 0)
  case atStart => exact ⟨rfl, rfl, rfl⟩
  case round =>
    obtain ⟨rfl, rfl, rfl⟩ := hrel
    have hN2 : ¬ 0 < N := by omega
    by_cases hn0 : 0 < n
    · have hn0' : (0 : Int) < (n : Int) := by omega
      go_wp2
      go_ret2
      exact ⟨rfl, hb⟩
    · have hn0' : ¬ (0 : Int) < (n : Int) := by omega
      go_wp2
      go_ret2
      exact ⟨rfl, hb⟩
end Go.Proofs.Ytilmldkaagbofaa
