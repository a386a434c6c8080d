/- medium.Look, Read, Files, Behind, File, New. -/
import Derived.Test.YtjngfkkbfkoedaaMed
namespace Go.Proofs.Ytjngfkkbfkoedaa
open Go.RowKit

/-- In block g stands a cell. -/
def CellAt (w : World) (g : Nat) (x : CellV) : Prop := w.heap[g]? = some (.cells #[.int .i64 x.kind, .slice x.d.a x.d.l.length x.d.c, .bool x.bad] 30)
theorem CellAt.cells {w : World} {g : Nat} {x : CellV} (h : CellAt w g x) : w.cell? ⟨g, 0, none⟩ = some (.int .i64 x.kind) ∧ w.cell? ⟨g, 1, none⟩ = some (.slice x.d.a x.d.l.length x.d.c) ∧ w.cell? ⟨g, 2, none⟩ = some (.bool x.bad) :=
  ⟨cell_of_row w g 0 _ _ _ h, cell_of_row w g 1 _ _ _ h, cell_of_row w g 2 _ _ _ h⟩
theorem CellAt.put (w : World) (z : Array Value) (g : Nat) (hg : g = w.heap.size) (x : CellV) : CellAt ((w.alloc (.cells z 30)).setRow g #[.int .i64 x.kind, .slice x.d.a x.d.l.length x.d.c, .bool x.bad]) g x := by
  subst hg; exact setRow_heap _ _ _ _ _ _ (heap_alloc_new w _)
theorem below_putc (w : World) (z : Array Value) (g : Nat) (hg : g = w.heap.size) (x : CellV) : Below w.heap.size w ((w.alloc (.cells z 30)).setRow g #[.int .i64 x.kind, .slice x.d.a x.d.l.length x.d.c, .bool x.bad]) := by
  subst hg; exact bsetRow (ext_alloc w _) (Nat.le_refl _) _

theorem look_in {m : Med} {k : Nat} {c : CellP} (h : m.cells[k]? = some c) : m.look (k : Int) = if c.kind = 2 then ([], 15) else if c.kind = 3 ∨ c.bad = true then ([], 6) else (c.data, 0) := by
  have hk := (List.getElem?_eq_some_iff.1 h).1
  unfold Med.look
  rw [if_neg (by omega), Int.toNat_natCast, h]

set_option maxRecDepth 100000 in
set_option maxHeartbeats 2000000 in
theorem look_any (cap : Int) (a : Option Addr) (c n : Nat) (cs : List CellV) (p : Int) (l : List Byte) (E : Int) (w : World) (hs : CMat w a cs) (hn : n = cs.length) (hn2 : n ≤ 9223372036854775807) (hx : ∀ x ∈ cs, x.d.l.length ≤ 140737488355328) (hr : (medOf cap cs).look p = (l, E)) :
    Calls Try.prog 85 #[.agg #[.int .i64 cap, .slice a n c], .int .i64 p] w fun e w' => ∃ a' c' k, e = .returned (.tuple #[.slice a' k c', .int .i64 E]) ∧ k = l.length ∧ Own w' w.heap.size 5 1 a' k c' (bvs l) ∧ Below w.heap.size w w' := by
  have Hs := Lib.hid hs
  have Hn := Lib.hid hn
  have HR := Lib.hid hr
  have Hx := Lib.hid hx
  have hb := ext_alloc w (.cells #[.int .i64 cap, .slice a n c] 24)
  clear hr hs hn hx
  by_cases hin : 0 ≤ p ∧ p < (n : Int)
  · obtain ⟨k, rfl⟩ := Int.eq_ofNat_of_zero_le hin.1
    have hkn : k < n := by omega
    have hkn2 : ¬ n ≤ k := by omega
    have hk0 : ¬ ((k : Int) < 0) := by omega
    have hkl : k < cs.length := by have := Hn.out; omega
    obtain ⟨b, o, rfl, hlb, hat⟩ := Hs.out.src.elem CellV.len (by decide) hkl
    have q0 := hat k hkl 0 _ rfl
    have q1 := hat k hkl 1 _ rfl
    have q2 := hat k hkl 2 _ rfl
    have hrow := Hs.out.row _ (List.getElem_mem hkl)
    have hxl := Hx.out _ (List.getElem_mem hkl)
    have hlk := look_in (m := medOf cap cs) (k := k) (c := cs[k].pl) (by simp [medOf, pls, hkl])
    generalize cs[k] = x at *
    obtain ⟨kd, ⟨xa, xc, xl⟩, bd⟩ := x
    dsimp only [CellV.pl] at *
    have HL := Lib.hid (hlk.symm.trans HR.out)
    have c0 := (World.cell?_of_block (w := w) (a := ⟨b, o + k * 3, none⟩) (hb.block b hlb)).trans q0
    have c1 := (World.cell?_of_block (w := w) (a := ⟨b, o + k * 3 + 1, none⟩) (hb.block b hlb)).trans q1
    have c2 := (World.cell?_of_block (w := w) (a := ⟨b, o + k * 3 + 2, none⟩) (hb.block b hlb)).trans q2
    have hput := CellAt.put (w.alloc (.cells #[.int .i64 cap, .slice (some ⟨b, o, none⟩) n c] 24)) #[.int .i64 0, .slice none 0 0, .bool false] (w.heap.size + 1) (World.size_alloc _ _).symm ⟨kd, ⟨xa, xc, xl⟩, bd⟩
    have hbp := below_putc (w.alloc (.cells #[.int .i64 cap, .slice (some ⟨b, o, none⟩) n c] 24)) #[.int .i64 0, .slice none 0 0, .bool false] (w.heap.size + 1) (World.size_alloc _ _).symm ⟨kd, ⟨xa, xc, xl⟩, bd⟩
    have hgn := heap_alloc_new (w.alloc (.cells #[.int .i64 cap, .slice (some ⟨b, o, none⟩) n c] 24)) (.cells #[.int .i64 0, .slice none 0 0, .bool false] 30)
    rw [World.size_alloc] at hgn
    have hbA := bthen hb hbp (Nat.le_refl _)
    have Hrow := Lib.hid (hrow.1.ext hbA)
    obtain ⟨m0, m1, m2⟩ := hput.cells
    dsimp only at hput hbp m0 m1 m2 hbA Hrow
    clear hat q0 q1 q2 hrow hlk HR
    by_cases h2 : kd = 2
    · subst h2
      have hl : l = [] ∧ E = 15 := by have := HL.out; simp at this; exact ⟨by first | exact this.1 | exact this.1.symm, this.2.symm⟩
      obtain ⟨rfl, rfl⟩ := hl
      go_enter Try.func85, Try.ntmps85
      go_wp2_with (refine wpList_store_row rfl rfl 30 (.tmp 6) (.tmp 20) rfl (w.heap.size + 1) rfl 30 #[.int .i64 0, .slice none 0 0, .bool false] #[.int .i64 2, .slice xa xl.length xc, .bool bd] rfl hgn rfl (by kernel_rfl) (CellV.one ⟨2, ⟨xa, xc, xl⟩, bd⟩) ?_)
      go_ret2
      exact ⟨none, 0, 0, rfl, rfl, Own.nil _ _ _ _ _, hbA⟩
    · have e2 : (kd == 2) = false := by simpa using h2
      by_cases h3 : kd = 3
      · subst h3
        have hl : l = [] ∧ E = 6 := by have := HL.out; simp at this; exact ⟨by first | exact this.1 | exact this.1.symm, this.2.symm⟩
        obtain ⟨rfl, rfl⟩ := hl
        clear h2 e2
        go_enter Try.func85, Try.ntmps85
        go_wp2_with (refine wpList_store_row rfl rfl 30 (.tmp 6) (.tmp 20) rfl (w.heap.size + 1) rfl 30 #[.int .i64 0, .slice none 0 0, .bool false] #[.int .i64 3, .slice xa xl.length xc, .bool bd] rfl hgn rfl (by kernel_rfl) (CellV.one ⟨3, ⟨xa, xc, xl⟩, bd⟩) ?_)
        go_ret2
        exact ⟨none, 0, 0, rfl, rfl, Own.nil _ _ _ _ _, hbA⟩
      · have e3 : (kd == 3) = false := by simpa using h3
        cases bd with
        | true =>
          have hl : l = [] ∧ E = 6 := by have := HL.out; simp [h2] at this; exact ⟨by first | exact this.1 | exact this.1.symm, this.2.symm⟩
          obtain ⟨rfl, rfl⟩ := hl
          clear h2 h3
          go_enter Try.func85, Try.ntmps85
          go_wp2_with (refine wpList_store_row rfl rfl 30 (.tmp 6) (.tmp 20) rfl (w.heap.size + 1) rfl 30 #[.int .i64 0, .slice none 0 0, .bool false] #[.int .i64 kd, .slice xa xl.length xc, .bool true] rfl hgn rfl (by kernel_rfl) (CellV.one ⟨kd, ⟨xa, xc, xl⟩, true⟩) ?_)
          go_ret2
          exact ⟨none, 0, 0, rfl, rfl, Own.nil _ _ _ _ _, hbA⟩
        | false =>
          have hl : l = xl ∧ E = 0 := by
            have := HL.out
            simp [h2, h3] at this; exact ⟨this.1.symm, this.2.symm⟩
          obtain ⟨rfl, rfl⟩ := hl
          clear h2 h3
          go_enter Try.func85, Try.ntmps85
          go_wp2_with (refine wpList_store_row rfl rfl 30 (.tmp 6) (.tmp 20) rfl (w.heap.size + 1) rfl 30 #[.int .i64 0, .slice none 0 0, .bool false] #[.int .i64 kd, .slice xa l.length xc, .bool false] rfl hgn rfl (by kernel_rfl) (CellV.one ⟨kd, ⟨xa, xc, l⟩, false⟩) ?_)
          refine (clone_at xa xc l.length l _ Hrow.out rfl hxl).mono ?_
          rintro e w3 ⟨a3, c3, rfl, ho3, hb3⟩
          have ho3' := ho3.mono (base' := w.heap.size) hbA.size
          have hb03 := bthen hbA hb3 (Nat.le_refl _)
          clear ho3 hb3 m0 m1 m2 c0 c1 c2 hput hbp hgn
          go_wp2
          go_ret2
          exact ⟨_, _, _, rfl, rfl, ho3', hb03⟩
  · have hl : l = [] ∧ E = 8 := by
      have h1 := HR.out
      unfold Med.look at h1
      rw [if_pos (by rw [show (medOf cap cs).cells.length = n by rw [Hn.out]; exact pls_length cs]; omega)] at h1
      simp at h1; exact ⟨h1.1, h1.2.symm⟩
    obtain ⟨rfl, rfl⟩ := hl
    by_cases h0 : p < 0
    · clear hin
      go_enter Try.func85, Try.ntmps85
      go_wp2
      go_ret2
      exact ⟨none, 0, 0, rfl, rfl, Own.nil _ _ _ _ _, hb⟩
    · have h1 : (n : Int) ≤ p := by omega
      clear hin
      go_enter Try.func85, Try.ntmps85
      go_wp2
      go_ret2
      exact ⟨none, 0, 0, rfl, rfl, Own.nil _ _ _ _ _, hb⟩
end Go.Proofs.Ytjngfkkbfkoedaa
