/- medium.Read, Files, Behind, File, New. -/
import Derived.Test.YtilmldkaagbofaaMedRead
namespace Go.Proofs.Ytilmldkaagbofaa
open Go.RowKit

set_option maxHeartbeats 1000000 in
theorem read_any (cap : Int) (a : Option Addr) (c n : Nat) (cs : List CellV) (p : Int) (l : List Byte) (E : Int) (w : World) (hs : CMat w a cs) (hn : n = cs.length) (hn2 : n ≤ 9223372036854775807) (hx : ∀ x ∈ cs, x.d.l.length ≤ 140737488355328) (hr : (medOf cap cs).read p = (l, E)) :
    Calls Try.prog 32 #[.agg #[.int .i64 cap, .slice a n c], .int .i64 p] w fun e w' => ∃ a' c' k, e = .returned (.tuple #[.slice a' k c', .int .i64 E]) ∧ k = l.length ∧ Own w' w.heap.size 5 1 a' k c' (bvs l) ∧ Below w.heap.size w w' := by
  have hb := ext_alloc w (.cells #[.int .i64 cap, .slice a n c] 32)
  have hz := heap_alloc_new w (.cells #[.int .i64 cap, .slice a n c] 32)
  have hzl := heap_lt hz
  have HR := Lib.hid hr
  have Hs := Lib.hid hs
  have Hn := Lib.hid hn
  have Hx := Lib.hid hx
  clear hr hs hn hx
  cases hok : (medOf cap cs).ok with
  | false =>
    have hl : l = [] ∧ E = 1 := by have := HR.out; unfold Med.read at this; rw [if_pos hok] at this; simp at this; exact ⟨by first | exact this.1 | exact this.1.symm, this.2.symm⟩
    obtain ⟨rfl, rfl⟩ := hl
    go_enter Try.func32, Try.ntmps32
    go_wp2_with fail
    refine (check_any cap a c n cs false _ (Hs.out.ext hb) Hn.out hn2 hok).mono ?_
    rintro e w1 ⟨rfl, hb1⟩
    go_wp2
    go_ret2
    exact ⟨none, 0, 0, rfl, rfl, Own.nil _ _ _ _ _, bthen hb hb1 (Nat.le_refl _)⟩
  | true =>
    have hl : (medOf cap cs).look p = (l, E) := by have := HR.out; unfold Med.read at this; rw [if_neg (by rw [hok]; decide)] at this; exact this
    have HL := Lib.hid hl
    clear hl
    go_enter Try.func32, Try.ntmps32
    go_wp2_with fail
    refine (check_any cap a c n cs true _ (Hs.out.ext hb) Hn.out hn2 hok).mono ?_
    rintro e w1 ⟨rfl, hb1⟩
    have hz1 := (hb1.block _ hzl).trans hz
    have d0 := cell_of_row w1 w.heap.size 0 _ _ _ hz1
    have d1 := cell_of_row w1 w.heap.size 1 _ _ _ hz1
    have hb01 := bthen hb hb1 (Nat.le_refl _)
    clear hb1 hz hzl hok
    go_wp2_with fail
    refine (look_any cap a c n cs p l E w1 (Hs.out.ext hb01) Hn.out hn2 Hx.out HL.out).mono ?_
    rintro e w2 ⟨a2, c2, k2, rfl, hk2, ho2, hb2⟩
    have ho2' := ho2.mono (base' := w.heap.size) hb01.size
    have hb02 := bthen hb01 hb2 (Nat.le_refl _)
    have Hk := Lib.hid hk2
    clear hk2 ho2 hb2 d0 d1 hz1
    go_wp2
    go_ret2
    exact ⟨_, _, _, rfl, Hk.out, ho2', hb02⟩

theorem marks_take (cs : List CellV) (k : Nat) (h : k < cs.length) : marks (pls (cs.take (k + 1))) = marks (pls (cs.take k)) + (if cs[k].kind = 2 then 1 else 0) := by
  rw [take_succ_list cs k h]
  unfold marks pls
  rw [List.map_append, List.countP_append]
  simp [CellV.pl, List.countP_cons]
theorem marks_le (cs : List CellP) : marks cs ≤ cs.length := List.countP_le_length

set_option maxRecDepth 100000 in
set_option maxHeartbeats 2000000 in
theorem files_any (cap : Int) (a : Option Addr) (c n : Nat) (cs : List CellV) (R : Int) (w : World) (hs : CMat w a cs) (hn : n = cs.length) (hn2 : n ≤ 9223372036854775807) (hr : (medOf cap cs).files = R) :
    Calls Try.prog 29 #[.agg #[.int .i64 cap, .slice a n c]] w fun e w' => e = .returned (.int .i64 R) ∧ Below w.heap.size w w' := by
  have hb := ext_alloc w (.cells #[.int .i64 cap, .slice a n c] 32)
  have hz := heap_alloc_new w (.cells #[.int .i64 cap, .slice a n c] 32)
  have hzl := heap_lt hz
  have HR := Lib.hid hr
  have Hs := Lib.hid hs
  have Hn := Lib.hid hn
  clear hr hs hn
  cases hok : (medOf cap cs).ok with
  | false =>
    have hl : R = 0 := by have := HR.out; unfold Med.files at this; rw [if_pos hok] at this; exact this.symm
    subst hl
    go_enter Try.func29, Try.ntmps29
    go_wp2_with fail
    refine (check_any cap a c n cs false _ (Hs.out.ext hb) Hn.out hn2 hok).mono ?_
    rintro e w1 ⟨rfl, hb1⟩
    go_wp2
    go_ret
    exact ⟨rfl, bthen hb hb1 (Nat.le_refl _)⟩
  | true =>
    have hl : ((marks (pls cs) : Nat) : Int) = R := by have := HR.out; unfold Med.files at this; rw [if_neg (by rw [hok]; decide)] at this; exact this
    have HL := Lib.hid hl
    clear hl
    go_enter Try.func29, Try.ntmps29
    go_wp2_with fail
    refine (check_any cap a c n cs true _ (Hs.out.ext hb) Hn.out hn2 hok).mono ?_
    rintro e w1 ⟨rfl, hb1⟩
    have hz1 := (hb1.block _ hzl).trans hz
    have d1 := cell_of_row w1 w.heap.size 1 _ _ _ hz1
    have hb01 := bthen hb hb1 (Nat.le_refl _)
    clear hb1 hz hzl hok
    go_wp2_with fail
    clear d1 hz1
    go_loopw [3, 12] (fun cnt i wr => ∃ (k : Nat), k ≤ n ∧ i = .int .i64 (k : Int) ∧ cnt = .int .i64 ((marks (pls (cs.take k)) : Nat) : Int) ∧ Below w.heap.size w wr) (fun _ i _ => n - (intOf i).toNat)
    case atStart => exact ⟨0, by omega, rfl, rfl, hb01⟩
    case round =>
      rename_i wr
      obtain ⟨k, hk, rfl, rfl, hbr⟩ := hrel
      clear hb01
      by_cases hlt : k < n
      · have hkl : k < cs.length := by have := Hn.out; omega
        obtain ⟨b, o, rfl, hlb, hat⟩ := Hs.out.src.elem CellV.len (by decide) hkl
        have q0 := hat k hkl 0 _ rfl
        have q1 := hat k hkl 1 _ rfl
        have q2 := hat k hkl 2 _ rfl
        have Htk := Lib.hid (marks_take cs k hkl)
        have hml : marks (pls (cs.take k)) ≤ k := Nat.le_trans (marks_le _) (by rw [pls_length, List.length_take]; omega)
        generalize marks (pls (cs.take k)) = mk at *
        generalize cs[k] = x at *
        obtain ⟨kd, ⟨xa, xc, xl⟩, bd⟩ := x
        dsimp only at *
        have c0 := (World.cell?_of_block (w := w) (a := ⟨b, o + k * 3, none⟩) (hbr.block b hlb)).trans q0
        have c1 := (World.cell?_of_block (w := w) (a := ⟨b, o + k * 3 + 1, none⟩) (hbr.block b hlb)).trans q1
        have c2 := (World.cell?_of_block (w := w) (a := ⟨b, o + k * 3 + 2, none⟩) (hbr.block b hlb)).trans q2
        have hput := CellAt.put wr #[.int .i64 0, .slice none 0 0, .bool false] _ rfl ⟨kd, ⟨xa, xc, xl⟩, bd⟩
        have hbp := below_putc wr #[.int .i64 0, .slice none 0 0, .bool false] _ rfl ⟨kd, ⟨xa, xc, xl⟩, bd⟩
        obtain ⟨m0, m1, m2⟩ := hput.cells
        dsimp only at hput hbp m0 m1 m2
        have hb02 := bthen hbr hbp (Nat.le_refl _)
        clear hat q0 q1 q2
        by_cases h2 : kd = 2
        · subst h2
          go_wp2_with (refine wpList_store_row rfl rfl 46 (.tmp 5) (.tmp 15) rfl wr.heap.size rfl 46 #[.int .i64 0, .slice none 0 0, .bool false] #[.int .i64 2, .slice xa xl.length xc, .bool bd] rfl (heap_alloc_new wr _) rfl (by kernel_rfl) (CellV.one ⟨2, ⟨xa, xc, xl⟩, bd⟩) ?_)
          go_roundw
          case rel => exact ⟨k + 1, by omega, by go_num, by rw [Htk.out]; simp, hb02⟩
          case measure => simp [intOf]; omega
        · have e2 : (kd == 2) = false := by simpa using h2
          have Hne := Lib.hid h2
          clear h2
          go_wp2_with (refine wpList_store_row rfl rfl 46 (.tmp 5) (.tmp 15) rfl wr.heap.size rfl 46 #[.int .i64 0, .slice none 0 0, .bool false] #[.int .i64 kd, .slice xa xl.length xc, .bool bd] rfl (heap_alloc_new wr _) rfl (by kernel_rfl) (CellV.one ⟨kd, ⟨xa, xc, xl⟩, bd⟩) ?_)
          go_roundw
          case rel => exact ⟨k + 1, by omega, by go_num, by rw [Htk.out, if_neg Hne.out]; rfl, hb02⟩
          case measure => simp [intOf]; omega
      · have hfin : ((marks (pls (cs.take k)) : Nat) : Int) = R := by rw [List.take_of_length_le (by have := Hn.out; omega)]; exact HL.out
        have Hf := Lib.hid hfin
        clear hfin
        go_wp2
        go_ret
        exact ⟨by rw [← Hf.out]; rfl, hbr⟩

theorem behind_drop (cs : List CellV) (k : Nat) (n : Int) (h : k < cs.length) : behind (pls (cs.drop k)) k n = if cs[k].kind = 2 then (if n - 1 = 0 then ((k : Int) + 1, 0) else behind (pls (cs.drop (k + 1))) (k + 1) (n - 1)) else behind (pls (cs.drop (k + 1))) (k + 1) n := by
  rw [List.drop_eq_getElem_cons h]
  unfold pls
  rw [List.map_cons, behind]
  rfl
set_option maxRecDepth 100000 in
set_option maxHeartbeats 2000000 in
theorem behind_any (cap : Int) (a : Option Addr) (c n : Nat) (cs : List CellV) (N R E : Int) (w : World) (hs : CMat w a cs) (hn : n = cs.length) (hn2 : n ≤ 9223372036854775806) (hN0 : 0 ≤ N) (hN1 : N ≤ 9223372036854775807) (hr : (medOf cap cs).behind N = (R, E)) :
    Calls Try.prog 108 #[.agg #[.int .i64 cap, .slice a n c], .int .i64 N] w fun e w' => e = .returned (.tuple #[.int .i64 R, .int .i64 E]) ∧ Below w.heap.size w w' := by
  have hb := ext_alloc w (.cells #[.int .i64 cap, .slice a n c] 32)
  have HR := Lib.hid hr
  have Hs := Lib.hid hs
  have Hn := Lib.hid hn
  clear hr hs hn
  by_cases h0 : N = 0
  · subst h0
    have hl : R = 0 ∧ E = 0 := by have := HR.out; unfold Med.behind at this; simp at this; exact ⟨this.1.symm, this.2.symm⟩
    obtain ⟨rfl, rfl⟩ := hl
    go_enter Try.func108, Try.ntmps108
    go_wp2
    go_ret2
    exact ⟨rfl, hb⟩
  · have e0 : (N == 0) = false := by simpa using h0
    have hl : behind (pls cs) 0 N = (R, E) := by have := HR.out; unfold Med.behind at this; rw [if_neg h0] at this; exact this
    have HL := Lib.hid hl
    clear hl HR
    go_enter Try.func108, Try.ntmps108
    go_wp2_with fail
    go_loopw [1, 13] (fun v i wr => ∃ (k : Nat) (M : Int), k ≤ n ∧ i = .int .i64 (k : Int) ∧ v = .int .i64 M ∧ 1 ≤ M ∧ M ≤ N ∧ Below w.heap.size w wr ∧ behind (pls (cs.drop k)) k M = (R, E)) (fun _ i _ => n - (intOf i).toNat)
    case atStart => exact ⟨0, N, by omega, rfl, rfl, by omega, by omega, hb, HL.out⟩
    case round =>
      rename_i wr
      obtain ⟨k, M, hk, rfl, rfl, hM1, hMN, hbr, hbh⟩ := hrel
      have Hbh := Lib.hid hbh
      clear hbh hb e0 h0 HL
      by_cases hlt : k < n
      · have hkl : k < cs.length := by have := Hn.out; omega
        obtain ⟨b, o, rfl, hlb, hat⟩ := Hs.out.src.elem CellV.len (by decide) hkl
        have q0 := hat k hkl 0 _ rfl
        have q1 := hat k hkl 1 _ rfl
        have q2 := hat k hkl 2 _ rfl
        have Hdr := Lib.hid ((behind_drop cs k M hkl).symm.trans Hbh.out)
        generalize cs[k] = x at *
        obtain ⟨kd, ⟨xa, xc, xl⟩, bd⟩ := x
        dsimp only at *
        have c0 := (World.cell?_of_block (w := w) (a := ⟨b, o + k * 3, none⟩) (hbr.block b hlb)).trans q0
        have c1 := (World.cell?_of_block (w := w) (a := ⟨b, o + k * 3 + 1, none⟩) (hbr.block b hlb)).trans q1
        have c2 := (World.cell?_of_block (w := w) (a := ⟨b, o + k * 3 + 2, none⟩) (hbr.block b hlb)).trans q2
        have hput := CellAt.put wr #[.int .i64 0, .slice none 0 0, .bool false] _ rfl ⟨kd, ⟨xa, xc, xl⟩, bd⟩
        have hbp := below_putc wr #[.int .i64 0, .slice none 0 0, .bool false] _ rfl ⟨kd, ⟨xa, xc, xl⟩, bd⟩
        obtain ⟨m0, m1, m2⟩ := hput.cells
        dsimp only at hput hbp m0 m1 m2
        have hb02 := bthen hbr hbp (Nat.le_refl _)
        clear hat q0 q1 q2
        by_cases h2 : kd = 2
        · subst h2
          by_cases hM : M = 1
          · subst hM
            have hl : R = (k : Int) + 1 ∧ E = 0 := by have := Hdr.out; simp at this; exact ⟨this.1.symm, this.2.symm⟩
            obtain ⟨rfl, rfl⟩ := hl
            clear hMN hM1
            go_wp2_with (refine wpList_store_row rfl rfl 46 (.tmp 7) (.tmp 17) rfl wr.heap.size rfl 46 #[.int .i64 0, .slice none 0 0, .bool false] #[.int .i64 2, .slice xa xl.length xc, .bool bd] rfl (heap_alloc_new wr _) rfl (by kernel_rfl) (CellV.one ⟨2, ⟨xa, xc, xl⟩, bd⟩) ?_)
            go_ret2
            exact ⟨rfl, bthen hbr (ext_alloc _ _) (Nat.le_refl _)⟩
          · have eM : (M - 1 == 0) = false := by simp; omega
            have Hnx : Hid (behind (pls (cs.drop (k + 1))) (k + 1) (M - 1) = (R, E)) := Lib.hid (by have := Hdr.out; simp at this; rw [if_neg (by omega)] at this; exact this)
            go_wp2_with (refine wpList_store_row rfl rfl 46 (.tmp 7) (.tmp 17) rfl wr.heap.size rfl 46 #[.int .i64 0, .slice none 0 0, .bool false] #[.int .i64 2, .slice xa xl.length xc, .bool bd] rfl (heap_alloc_new wr _) rfl (by kernel_rfl) (CellV.one ⟨2, ⟨xa, xc, xl⟩, bd⟩) ?_)
            go_roundw
            case rel => exact ⟨k + 1, M - 1, by omega, by go_num, rfl, by omega, by omega, hb02, Hnx.out⟩
            case measure => simp [intOf]; omega
        · have e2 : (kd == 2) = false := by simpa using h2
          have Hnx : Hid (behind (pls (cs.drop (k + 1))) (k + 1) M = (R, E)) := Lib.hid (by have := Hdr.out; simp [h2] at this; exact this)
          clear h2 Hdr
          go_wp2_with (refine wpList_store_row rfl rfl 46 (.tmp 7) (.tmp 17) rfl wr.heap.size rfl 46 #[.int .i64 0, .slice none 0 0, .bool false] #[.int .i64 kd, .slice xa xl.length xc, .bool bd] rfl (heap_alloc_new wr _) rfl (by kernel_rfl) (CellV.one ⟨kd, ⟨xa, xc, xl⟩, bd⟩) ?_)
          go_roundw
          case rel => exact ⟨k + 1, M, by omega, by go_num, rfl, by omega, by omega, hb02, Hnx.out⟩
          case measure => simp [intOf]; omega
      · have hl : R = 0 ∧ E = 8 := by
          have := Hbh.out
          rw [List.drop_eq_nil_of_le (by have := Hn.out; omega)] at this
          simp [pls, behind] at this
          exact ⟨this.1.symm, this.2.symm⟩
        obtain ⟨rfl, rfl⟩ := hl
        go_wp2
        go_ret2
        exact ⟨rfl, hbr⟩
set_option maxHeartbeats 1000000 in
theorem file_any (cap : Int) (a : Option Addr) (c n : Nat) (cs : List CellV) (N R E : Int) (w : World) (hs : CMat w a cs) (hn : n = cs.length) (hn2 : n ≤ 9223372036854775806) (hN0 : 0 ≤ N) (hN1 : N ≤ 9223372036854775807) (hr : (medOf cap cs).file N = (R, E)) :
    Calls Try.prog 34 #[.agg #[.int .i64 cap, .slice a n c], .int .i64 N] w fun e w' => e = .returned (.tuple #[.int .i64 R, .int .i64 E]) ∧ Below w.heap.size w w' := by
  have hb := ext_alloc w (.cells #[.int .i64 cap, .slice a n c] 32)
  have hz := heap_alloc_new w (.cells #[.int .i64 cap, .slice a n c] 32)
  have hzl := heap_lt hz
  have HR := Lib.hid hr
  have Hs := Lib.hid hs
  have Hn := Lib.hid hn
  clear hr hs hn
  cases hok : (medOf cap cs).ok with
  | false =>
    have hl : R = 0 ∧ E = 1 := by have := HR.out; unfold Med.file at this; rw [if_pos hok] at this; simp at this; exact ⟨this.1.symm, this.2.symm⟩
    obtain ⟨rfl, rfl⟩ := hl
    go_enter Try.func34, Try.ntmps34
    go_wp2_with fail
    refine (check_any cap a c n cs false _ (Hs.out.ext hb) Hn.out (by omega) hok).mono ?_
    rintro e w1 ⟨rfl, hb1⟩
    go_wp2
    go_ret2
    exact ⟨rfl, bthen hb hb1 (Nat.le_refl _)⟩
  | true =>
    have hl : (medOf cap cs).behind N = (R, E) := by have := HR.out; unfold Med.file at this; rw [if_neg (by rw [hok]; decide)] at this; exact this
    have HL := Lib.hid hl
    clear hl
    go_enter Try.func34, Try.ntmps34
    go_wp2_with fail
    refine (check_any cap a c n cs true _ (Hs.out.ext hb) Hn.out (by omega) hok).mono ?_
    rintro e w1 ⟨rfl, hb1⟩
    have hz1 := (hb1.block _ hzl).trans hz
    have d0 := cell_of_row w1 w.heap.size 0 _ _ _ hz1
    have d1 := cell_of_row w1 w.heap.size 1 _ _ _ hz1
    have hb01 := bthen hb hb1 (Nat.le_refl _)
    clear hb1 hz hzl hok
    go_wp2_with fail
    refine (behind_any cap a c n cs N R E w1 (Hs.out.ext hb01) Hn.out hn2 hN0 hN1 HL.out).mono ?_
    rintro e w2 ⟨rfl, hb2⟩
    have hb02 := bthen hb01 hb2 (Nat.le_refl _)
    clear hb2 d0 d1 hz1
    go_wp2
    go_ret2
    exact ⟨rfl, hb02⟩
end Go.Proofs.Ytilmldkaagbofaa
