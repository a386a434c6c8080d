/- Several texts of this claim, one behind the other: RefMed2, RefMed3. -/
import Derived.Test.YtmaagkdehdmhlaaRefMed1
import Derived.Test.YtmaagkdehdmhlaaRobotExactPartF
/- The page's End, Spoil, of a right tape. -/
namespace Go.Proofs.Ytmaagkdehdmhlaa
open Go.RowKit


theorem OwnM.setM {w : World} {B g c : Nat} {a : Option Addr} {cs : List CellV} {old : Array Value} (h : OwnM w B a c cs) (hg : w.heap[g]? = some (.cells old 45 (0, 0))) (new : Array Value) : OwnM (w.setRow g new) B a c cs := by
  have hm : Mod (fun b T => T = 45) w (w.setRow g new) := Mod.one (bsetRow (Below.refl g _) (Nat.le_refl _) _) (fun b hb => setRow_other w _ b _ hb) hg (setRow_heap w _ _ _ _ _ hg) rfl
  exact h.mod hm fun b T hf => ⟨fun h => by subst hf; revert h; decide, fun h => by subst hf; revert h; decide⟩
theorem OwnM.setF {w : World} {B g c : Nat} {a : Option Addr} {cs : List CellV} {old : Array Value} (h : OwnM w B a c cs) (hg : w.heap[g]? = some (.cells old 45 (0, 0))) (i : Nat) (v : Value) : OwnM (w.setCell ⟨g, i, none⟩ v) B a c cs :=
  h.mod ((Mod.refl (fun b T => T = 45) w).setCell hg rfl i v) fun b T hf => ⟨fun h => by subst hf; revert h; decide, fun h => by subst hf; revert h; decide⟩
theorem OwnM.take {w : World} {B c n p : Nat} {a : Option Addr} {cs : List CellV} (h : OwnM w B a c cs) (hn : cs.length = n) (hp : p ≤ n) : OwnM w B a c (cs.take p) := by
  refine ⟨?_, fun y hy => h.dat y (List.mem_of_mem_take hy), h.apart.sublist (List.take_sublist _ _)⟩
  rw [List.length_take, hn, Nat.min_eq_left hp, flt_take CellV.len]
  have := h.row
  rw [hn] at this
  exact this.take p hp

end Go.Proofs.Ytmaagkdehdmhlaa

/- The page's Read, Files, File, of a right tape. -/
namespace Go.Proofs.Ytmaagkdehdmhlaa
open Go.RowKit

theorem Med.read_look {m : Med} (h : m.ok = true) (p : Int) : m.read p = m.look p := by unfold Med.read; rw [if_neg (by rw [h]; decide)]
set_option maxRecDepth 100000 in
set_option maxHeartbeats 2000000 in
theorem refread_any (cap : Int) (a : Option Addr) (c n : Nat) (cs : List CellV) (p : Int) (l : List Byte) (E : Int) (w : World) (hs : CMat w a cs) (hn : n = cs.length) (hn2 : n ≤ 9223372036854775807) (hx : ∀ x ∈ cs, x.d.l.length ≤ 140737488355328) (hr : (medOf cap cs).look p = (l, E)) :
    Calls Try.prog 62 #[.agg #[.int .i64 cap, .slice a n c], .int .i64 p] w fun e w' => ∃ a' c' k, e = .returned (.tuple #[.slice a' k c', .int .i64 E]) ∧ k = l.length ∧ Own w' w.heap.size 5 1 a' k c' (bvs l) ∧ Below w.heap.size w w' := by
  have Hs := Lib.hid hs
  have Hn := Lib.hid hn
  have HR := Lib.hid hr
  have Hx := Lib.hid hx
  have hb := ext_alloc w (.cells #[.int .i64 cap, .slice a n c] 45)
  clear hr hs hn hx
  by_cases hin : 0 ≤ p ∧ p < (n : Int)
  · obtain ⟨k, rfl⟩ := Int.eq_ofNat_of_zero_le hin.1
    have hkn : k < n := by omega
    have hkn2 : ¬ n ≤ k := by omega
    have hk0 : ¬ ((k : Int) < 0) := by omega
    have hkl : k < cs.length := by have := Hn.out; omega
    obtain ⟨b, o, rfl, hlb, hat⟩ := Hs.out.src.elem CellV.len (by decide) hkl
    have q0 := hat k hkl 0 _ rfl
    have q1 := hat k hkl 1 _ rfl
    have q2 := hat k hkl 2 _ rfl
    have hrow := Hs.out.row _ (List.getElem_mem hkl)
    have hxl := Hx.out _ (List.getElem_mem hkl)
    have hlk := look_in (m := medOf cap cs) (k := k) (c := cs[k].pl) (by simp [medOf, pls, hkl])
    generalize cs[k] = x at *
    obtain ⟨kd, ⟨xa, xc, xl⟩, bd⟩ := x
    dsimp only [CellV.pl] at *
    have HL := Lib.hid (hlk.symm.trans HR.out)
    have c0 := (World.cell?_of_block (w := w) (a := ⟨b, o + k * 3, none⟩) (hb.block b hlb)).trans q0
    have c1 := (World.cell?_of_block (w := w) (a := ⟨b, o + k * 3 + 1, none⟩) (hb.block b hlb)).trans q1
    have c2 := (World.cell?_of_block (w := w) (a := ⟨b, o + k * 3 + 2, none⟩) (hb.block b hlb)).trans q2
    have hput := CellAt.put (w.alloc (.cells #[.int .i64 cap, .slice (some ⟨b, o, none⟩) n c] 45)) #[.int .i64 0, .slice none 0 0, .bool false] (w.heap.size + 1) (World.size_alloc _ _).symm ⟨kd, ⟨xa, xc, xl⟩, bd⟩
    have hbp := below_putc (w.alloc (.cells #[.int .i64 cap, .slice (some ⟨b, o, none⟩) n c] 45)) #[.int .i64 0, .slice none 0 0, .bool false] (w.heap.size + 1) (World.size_alloc _ _).symm ⟨kd, ⟨xa, xc, xl⟩, bd⟩
    have hgn := heap_alloc_new (w.alloc (.cells #[.int .i64 cap, .slice (some ⟨b, o, none⟩) n c] 45)) (.cells #[.int .i64 0, .slice none 0 0, .bool false] 42)
    rw [World.size_alloc] at hgn
    have hbA := bthen hb hbp (Nat.le_refl _)
    have Hrow := Lib.hid (hrow.1.ext hbA)
    obtain ⟨m0, m1, m2⟩ := hput.cells
    dsimp only at hput hbp m0 m1 m2 hbA Hrow
    clear hat q0 q1 q2 hrow hlk HR
    by_cases h2 : kd = 2
    · subst h2
      have hl : l = [] ∧ E = 15 := by have := HL.out; simp at this; exact ⟨by first | exact this.1 | exact this.1.symm, this.2.symm⟩
      obtain ⟨rfl, rfl⟩ := hl
      go_enter Try.func62, Try.ntmps62
      go_wp2_with (refine wpList_store_row rfl rfl 42 (.tmp 6) (.tmp 20) rfl (w.heap.size + 1) rfl 42 #[.int .i64 0, .slice none 0 0, .bool false] #[.int .i64 2, .slice xa xl.length xc, .bool bd] rfl hgn rfl (by kernel_rfl) (CellV.one ⟨2, ⟨xa, xc, xl⟩, bd⟩) ?_)
      go_ret2
      exact ⟨none, 0, 0, rfl, rfl, Own.nil _ _ _ _ _, hbA⟩
    · have e2 : (kd == 2) = false := by simpa using h2
      by_cases h3 : kd = 3
      · subst h3
        have hl : l = [] ∧ E = 6 := by have := HL.out; simp at this; exact ⟨by first | exact this.1 | exact this.1.symm, this.2.symm⟩
        obtain ⟨rfl, rfl⟩ := hl
        clear h2 e2
        go_enter Try.func62, Try.ntmps62
        go_wp2_with (refine wpList_store_row rfl rfl 42 (.tmp 6) (.tmp 20) rfl (w.heap.size + 1) rfl 42 #[.int .i64 0, .slice none 0 0, .bool false] #[.int .i64 3, .slice xa xl.length xc, .bool bd] rfl hgn rfl (by kernel_rfl) (CellV.one ⟨3, ⟨xa, xc, xl⟩, bd⟩) ?_)
        go_ret2
        exact ⟨none, 0, 0, rfl, rfl, Own.nil _ _ _ _ _, hbA⟩
      · have e3 : (kd == 3) = false := by simpa using h3
        cases bd with
        | true =>
          have hl : l = [] ∧ E = 6 := by have := HL.out; simp [h2] at this; exact ⟨by first | exact this.1 | exact this.1.symm, this.2.symm⟩
          obtain ⟨rfl, rfl⟩ := hl
          clear h2 h3
          go_enter Try.func62, Try.ntmps62
          go_wp2_with (refine wpList_store_row rfl rfl 42 (.tmp 6) (.tmp 20) rfl (w.heap.size + 1) rfl 42 #[.int .i64 0, .slice none 0 0, .bool false] #[.int .i64 kd, .slice xa xl.length xc, .bool true] rfl hgn rfl (by kernel_rfl) (CellV.one ⟨kd, ⟨xa, xc, xl⟩, true⟩) ?_)
          go_ret2
          exact ⟨none, 0, 0, rfl, rfl, Own.nil _ _ _ _ _, hbA⟩
        | false =>
          have hl : l = xl ∧ E = 0 := by
            have := HL.out
            simp [h2, h3] at this; exact ⟨this.1.symm, this.2.symm⟩
          obtain ⟨rfl, rfl⟩ := hl
          clear h2 h3
          go_enter Try.func62, Try.ntmps62
          go_wp2_with (refine wpList_store_row rfl rfl 42 (.tmp 6) (.tmp 20) rfl (w.heap.size + 1) rfl 42 #[.int .i64 0, .slice none 0 0, .bool false] #[.int .i64 kd, .slice xa l.length xc, .bool false] rfl hgn rfl (by kernel_rfl) (CellV.one ⟨kd, ⟨xa, xc, l⟩, false⟩) ?_)
          refine (twin_at xa xc l.length l _ Hrow.out rfl hxl).mono ?_
          rintro e w3 ⟨a3, c3, rfl, ho3, hb3⟩
          have ho3' := ho3.mono (base' := w.heap.size) hbA.size
          have hb03 := bthen hbA hb3 (Nat.le_refl _)
          clear ho3 hb3 m0 m1 m2 c0 c1 c2 hput hbp hgn
          go_wp2
          go_ret2
          exact ⟨_, _, _, rfl, rfl, ho3', hb03⟩
  · have hl : l = [] ∧ E = 8 := by
      have h1 := HR.out
      unfold Med.look at h1
      rw [if_pos (by rw [show (medOf cap cs).cells.length = n by rw [Hn.out]; exact pls_length cs]; omega)] at h1
      simp at h1; exact ⟨h1.1, h1.2.symm⟩
    obtain ⟨rfl, rfl⟩ := hl
    by_cases h0 : p < 0
    · clear hin
      go_enter Try.func62, Try.ntmps62
      go_wp2
      go_ret2
      exact ⟨none, 0, 0, rfl, rfl, Own.nil _ _ _ _ _, hb⟩
    · have h1 : (n : Int) ≤ p := by omega
      clear hin
      go_enter Try.func62, Try.ntmps62
      go_wp2
      go_ret2
      exact ⟨none, 0, 0, rfl, rfl, Own.nil _ _ _ _ _, hb⟩

set_option maxRecDepth 100000 in
set_option maxHeartbeats 2000000 in
theorem reffile_any (cap : Int) (a : Option Addr) (c n : Nat) (cs : List CellV) (N R E : Int) (w : World) (hs : CMat w a cs) (hn : n = cs.length) (hn2 : n ≤ 9223372036854775806) (hN0 : 0 ≤ N) (hN1 : N ≤ 9223372036854775807) (hr : (medOf cap cs).behind N = (R, E)) :
    Calls Try.prog 60 #[.agg #[.int .i64 cap, .slice a n c], .int .i64 N] w fun e w' => e = .returned (.tuple #[.int .i64 R, .int .i64 E]) ∧ Below w.heap.size w w' := by
  have hb := ext_alloc w (.cells #[.int .i64 cap, .slice a n c] 45)
  have hz := heap_alloc_new w (.cells #[.int .i64 cap, .slice a n c] 45)
  have HR := Lib.hid hr
  have Hs := Lib.hid hs
  have Hn := Lib.hid hn
  clear hr hs hn
  by_cases h0 : N = 0
  · subst h0
    have hl : R = 0 ∧ E = 0 := by have := HR.out; unfold Med.behind at this; simp at this; exact ⟨this.1.symm, this.2.symm⟩
    obtain ⟨rfl, rfl⟩ := hl
    go_enter Try.func60, Try.ntmps60
    go_wp2
    go_ret2
    exact ⟨rfl, hb⟩
  · have e0 : (N == 0) = false := by simpa using h0
    have hl : behind (pls cs) 0 N = (R, E) := by have := HR.out; unfold Med.behind at this; rw [if_neg h0] at this; exact this
    have HL := Lib.hid hl
    clear hl HR
    go_enter Try.func60, Try.ntmps60
    go_wp2_with fail
    go_loopw [1, 6] (fun v i wr => ∃ (k : Nat) (M : Int), k ≤ n ∧ i = .int .i64 (k : Int) ∧ v = .int .i64 M ∧ 1 ≤ M ∧ M ≤ N ∧ wr = w.alloc (.cells #[.int .i64 cap, .slice a n c] 45) ∧ behind (pls (cs.drop k)) k M = (R, E)) (fun _ i _ => n - (intOf i).toNat)
    case atStart => exact ⟨0, N, by omega, rfl, rfl, by omega, by omega, rfl, HL.out⟩
    case round =>
      obtain ⟨k, M, hk, rfl, rfl, hM1, hMN, rfl, hbh⟩ := hrel
      have Hbh := Lib.hid hbh
      have d1 := cell_of_row _ w.heap.size 1 _ _ _ hz
      clear hbh e0 h0 HL
      by_cases hlt : k < n
      · have hkl : k < cs.length := by have := Hn.out; omega
        obtain ⟨b, o, rfl, hlb, hat⟩ := Hs.out.src.elem CellV.len (by decide) hkl
        have q0 := hat k hkl 0 _ rfl
        have Hdr := Lib.hid ((behind_drop cs k M hkl).symm.trans Hbh.out)
        generalize cs[k] = x at *
        obtain ⟨kd, ⟨xa, xc, xl⟩, bd⟩ := x
        dsimp only at *
        have c0 := (World.cell?_of_block (w := w) (a := ⟨b, o + k * 3, none⟩) (hb.block b hlb)).trans q0
        have hM0 : 0 < M := by omega
        clear hat q0
        by_cases h2 : kd = 2
        · subst h2
          by_cases hM : M = 1
          · subst hM
            have hl : R = (k : Int) + 1 ∧ E = 0 := by have := Hdr.out; simp at this; exact ⟨this.1.symm, this.2.symm⟩
            obtain ⟨rfl, rfl⟩ := hl
            clear hMN hM1
            go_wp2_with fail
            go_ret2
            exact ⟨rfl, hb⟩
          · have eM : (M - 1 == 0) = false := by simp; omega
            have Hnx : Hid (behind (pls (cs.drop (k + 1))) (k + 1) (M - 1) = (R, E)) := Lib.hid (by have := Hdr.out; simp at this; rw [if_neg (by omega)] at this; exact this)
            go_wp2_with fail
            go_roundw
            case rel => exact ⟨k + 1, M - 1, by omega, by go_num, rfl, by omega, by omega, trivial, Hnx.out⟩
            case measure => simp [intOf]; omega
        · have e2 : (kd == 2) = false := by simpa using h2
          have Hnx : Hid (behind (pls (cs.drop (k + 1))) (k + 1) M = (R, E)) := Lib.hid (by have := Hdr.out; simp [h2] at this; exact this)
          clear h2 Hdr
          go_wp2_with fail
          go_roundw
          case rel => exact ⟨k + 1, M, by omega, by go_num, rfl, by omega, by omega, trivial, Hnx.out⟩
          case measure => simp [intOf]; omega
      · have hl : R = 0 ∧ E = 8 := by
          have := Hbh.out
          rw [List.drop_eq_nil_of_le (by have := Hn.out; omega)] at this
          simp [pls, behind] at this
          exact ⟨this.1.symm, this.2.symm⟩
        obtain ⟨rfl, rfl⟩ := hl
        go_wp2
        go_ret2
        exact ⟨rfl, hb⟩
end Go.Proofs.Ytmaagkdehdmhlaa
