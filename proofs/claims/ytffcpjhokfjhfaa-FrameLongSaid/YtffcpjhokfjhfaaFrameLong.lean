/- The law FrameLong, walked. -/
import Derived.Test.YtffcpjhokfjhfaaFrameWakes
namespace Go.Proofs.Ytffcpjhokfjhfaa
open Go.RowKit

set_option maxRecDepth 100000 in
set_option maxHeartbeats 1000000 in
theorem frameLong_in (w : World) (over : Int) (n : Nat) (h0 : 0 ≤ over) (h1 : over ≤ 1) (hn : (n : Int) = 8000 + over) :
    Calls Try.prog 4 #[.int .i64 over] w fun e w' => e = .returned (.bool true) ∧ Below w.heap.size w w' := by
  obtain ⟨i0, hi, hz0, hz1, hz2⟩ := info_parts info8
  have HN := Lib.hid hn
  have hn1 : 8000 ≤ n := by omega
  have hn2 : n ≤ 8001 := by omega
  go_enter Try.func4, Try.ntmps4
  go_wp2_with (refine wpList_make_full w rfl (.tmp 16) (.tmp 16) 27 rfl w.heap.size 5 i0 (.int .u8 0) 1 Try.underlying27 hi hz0 hz1 .i64 .i64 _ _ n rfl rfl (by omega) (by omega) (by rw [hz2]; omega) (by unfold maxLen; omega) (Nat.le_refl _) ?_; intro w2 hown hg)
  have hown1 := own_of_row hown
  rw [show (Value.int IntKind.u8 0).cells = #[.int .u8 0] from rfl, made_bytes] at hown1
  have hb2 := (Below.refl w.heap.size w).grown hg (Nat.le_refl _) (by simp)
  have hz : (List.replicate n 0#8 : List Byte).length = n := by simp
  have Hz := Lib.hid hz
  have hsz := hown1.src
  clear hown hg hown1 hz
  generalize (List.replicate n 0#8 : List Byte) = Z at *
  have hb23 := ext_alloc w2 (.cells #[.int .i64 2, .int .i64 0, .slice (some ⟨w.heap.size, 0, none⟩) n n] 29)
  have hg3 := heap_alloc_new w2 (.cells #[.int .i64 2, .int .i64 0, .slice (some ⟨w.heap.size, 0, none⟩) n n] 29)
  have hs3 := hsz.ext hb23
  have hb03 := bthen hb2 hb23 (Nat.le_refl _)
  clear hsz hb2 hb23
  generalize w2.alloc (.cells #[.int .i64 2, .int .i64 0, .slice (some ⟨w.heap.size, 0, none⟩) n n] 29) = w3 at *
  generalize w2.heap.size = g3 at *
  have hl3 := heap_lt hg3
  by_cases hov : over = 0
  · have hn8 : n = 8000 := by omega
    have he0 : (⟨2, 0, Z⟩ : Rec).e = 0 := recE_ok.2 ⟨show (1 : Int) ≤ 2 by decide, show (2 : Int) ≤ 5 by decide, show (0 : Int) ≤ 0 by decide, show (0 : Int) < 1073741824 by decide, by show Z.length ≤ 8000; rw [Hz.out]; omega⟩
    have HB := frbytes_at ⟨2, 0, ⟨(some ⟨w.heap.size, 0, none⟩), n, Z⟩⟩ 0 (frameOf ⟨2, 0, Z⟩) (13 + n) w3 ⟨hs3, by show Z.length ≤ _; rw [Hz.out]; omega⟩ he0 (if_pos he0) (by rw [frameOf_length]; show 13 + Z.length = _; rw [Hz.out])
    unfold RecV.val at HB
    simp only at HB
    rw [Hz.out] at HB
    have HB := Lib.hid HB
    have HR : Hid (readF (frameOf ⟨2, 0, Z⟩) 0 = (⟨2, 0, Z⟩, ((13 + n : Nat) : Int), 0)) := Lib.hid (by rw [readF_frame0 _ he0]; show (_, ((13 + Z.length : Nat) : Int), _) = _; rw [Hz.out])
    have HL : Hid ((frameOf ⟨2, 0, Z⟩).length = 13 + n) := Lib.hid (by rw [frameOf_length]; show 13 + Z.length = _; rw [Hz.out])
    have ht8 : (((n : Nat) : Int) == 8000) = true := by rw [hn8]; rfl
    have Hov := Lib.hid hov
    have hov2 : over ≤ 0 := by omega
    clear hn hn8 he0 hov HN
    generalize frameOf ⟨2, 0, Z⟩ = l at *
    refine HB.out.mono ?_
    rintro e w4 ⟨a4, c4, rfl, ho4, hb4⟩
    have hs4 := ho4.src
    have hlc := ho4.len.1
    have hb04 := bthen hb03 hb4 (Nat.le_refl _)
    clear ho4 HB hg3
    go_wp2_with fail
    refine (frread_at a4 (13 + n) c4 l 0 _ _ _ w4 hs4 HL.out.symm hlc (by omega) HR.out).mono ?_
    rintro e w5 ⟨a5, c5, rfl, ho5, hb5⟩
    have hzl : ({ kind := 2, seq := 0, d := Z } : Rec).d.length = n := Hz.out
    rw [hzl]
    have hbp := below_putr w5 #[.int .i64 0, .int .i64 0, .slice none 0 0] ⟨2, 0, ⟨a5, c5, Z⟩⟩
    have hput := RecAt.put w5 #[.int .i64 0, .int .i64 0, .slice none 0 0] rfl ⟨2, 0, ⟨a5, c5, Z⟩⟩
    simp only [Hz.out] at hbp
    obtain ⟨k0, k1, k2⟩ := hput.cells
    simp only [Hz.out] at k0 k1 k2
    have hb06 := bthen hb04 (bthen hb5 hbp (Nat.le_refl _)) (Nat.le_refl _)
    clear ho5 hput hbp hb5 hzl
    go_wp2_with (refine wpList_store_row rfl rfl 29 (.tmp 6) (.tmp 44) rfl w5.heap.size rfl 29 #[.int .i64 0, .int .i64 0, .slice none 0 0] #[.int .i64 2, .int .i64 0, .slice a5 n c5] rfl (heap_alloc_new w5 _) rfl (by kernel_rfl) (by simp [Value.oneCell']) ?_)
    refine (wakes06_any _).mono ?_
    rintro e w6 ⟨rfl, hb6⟩
    go_wp2
    go_ret
    exact ⟨rfl, bthen hb06 hb6 (Nat.le_refl _)⟩
  · have hn8 : n = 8001 := by omega
    have he2 : (⟨2, 0, Z⟩ : Rec).e = 2 := by
      show recE 2 0 Z.length = 2
      unfold recE
      rw [if_neg (by decide), if_pos (by rw [Hz.out]; omega)]
    have HB := frbytes_at ⟨2, 0, ⟨(some ⟨w.heap.size, 0, none⟩), n, Z⟩⟩ 2 [] 0 w3 ⟨hs3, by show Z.length ≤ _; rw [Hz.out]; omega⟩ he2 (if_neg (by rw [show RecV.pl _ = (⟨2, 0, Z⟩ : Rec) from rfl, he2]; decide)) rfl
    have HC := fun wx => check06_at ⟨2, 0, ⟨(some ⟨w.heap.size, 0, none⟩), n, Z⟩⟩ 2 wx he2
    unfold RecV.val at HB HC
    simp only at HB HC
    rw [Hz.out] at HB HC
    have HB := Lib.hid HB
    have HC := Lib.hid HC
    have hov2 : 0 < over := by omega
    clear hn hn8 he2 hov HN hn1 hn2
    refine HB.out.mono ?_
    rintro e w4 ⟨a4, c4, rfl, ho4, hb4⟩
    have hg4 := heap_own3 hb4 hg3 hl3
    have hb04 := bthen hb03 hb4 (Nat.le_refl _)
    have k0 : w4.cell? ⟨g3, 0, none⟩ = some (.int .i64 2) := cell_of_row w4 g3 0 _ _ _ hg4
    have k1 : w4.cell? ⟨g3, 1, none⟩ = some (.int .i64 0) := cell_of_row w4 g3 1 _ _ _ hg4
    have k2 : w4.cell? ⟨g3, 2, none⟩ = some (.slice (some ⟨w.heap.size, 0, none⟩) n n) := cell_of_row w4 g3 2 _ _ _ hg4
    clear ho4 HB hg3 hg4
    go_wp2_with fail
    refine (HC.out w4).mono ?_
    rintro e w5 ⟨rfl, hb5⟩
    have hb05 := bthen hb04 hb5 (Nat.le_refl _)
    clear k0 k1 k2
    go_wp2_with fail
    refine (wakes06_any _).mono ?_
    rintro e w6 ⟨rfl, hb6⟩
    go_wp2
    go_ret
    exact ⟨rfl, bthen hb05 hb6 (Nat.le_refl _)⟩

set_option maxRecDepth 100000 in
theorem frameLong_walk (w : World) (over : Int) (wo : (Lit.int .i64 over).wf = true) :
    Calls Try.prog 4 #[.int .i64 over] w fun e w' => e = .returned (.bool true) ∧ Below w.heap.size w w' := by
  clear wo
  by_cases h : 0 ≤ over ∧ over ≤ 1
  · exact frameLong_in w over (8000 + over.toNat) h.1 h.2 (by omega)
  · rcases (show over < 0 ∨ (0 ≤ over ∧ 1 < over) by omega) with h1 | ⟨h1, h2⟩
    all_goals
      clear h
      go_enter Try.func4, Try.ntmps4
      go_wp2
      go_ret
      exact ⟨rfl, Below.refl _ _⟩
end Go.Proofs.Ytffcpjhokfjhfaa
