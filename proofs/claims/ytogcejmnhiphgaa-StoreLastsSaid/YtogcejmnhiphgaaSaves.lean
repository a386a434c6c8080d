/- cellarerlaw10.Save as it lies; Heavy, Long. -/
import Derived.Test.YtogcejmnhiphgaaFlt
import Derived.Test.YtogcejmnhiphgaaInts
import Derived.Test.YtogcejmnhiphgaaKeep
import Derived.Test.YtogcejmnhiphgaaProg
import Derived.Outline
namespace Go.Proofs.Ytogcejmnhiphgaa
open Go.RowKit
/-- A save, as it lies. -/
structure SaveV where
  b : Bsl
  times : Int
  trip : Int
  ka : Option Addr
  kc : Nat
  keep : List Bool
  torn : Int
  ga : Option Addr
  gc : Nat
  again : List Int
def SaveV.cells (x : SaveV) : List Value := [.slice x.b.a x.b.l.length x.b.c, .int .i64 x.times, .int .i64 x.trip, .slice x.ka x.keep.length x.kc, .int .i64 x.torn, .slice x.ga x.again.length x.gc]
theorem SaveV.len (x : SaveV) : x.cells.length = 6 := rfl
def SaveV.ok (w : World) (x : SaveV) : Prop := x.b.ok w ∧ Src w x.ka (bovs x.keep) ∧ Src w x.ga (ivs x.again)
theorem SaveV.ok.ext {w w' : World} {x : SaveV} (h : x.ok w) (hb : Below w.heap.size w w') : x.ok w' := ⟨h.1.ext hb, h.2.1.ext hb, h.2.2.ext hb⟩
structure SMat (w : World) (a : Option Addr) (l : List SaveV) : Prop where
  src : Src w a (flt SaveV.cells l)
  ok : ∀ y ∈ l, y.ok w
/-- The saves are no more than the law plays. -/
def LightS (l : List SaveV) : Prop := l.length ≤ 24 ∧ ∀ (i : Nat) (h : i < l.length), l[i].b.l.length ≤ 500 ∧ l[i].keep.length ≤ 300 ∧ l[i].again.length ≤ 4

set_option maxRecDepth 100000 in
set_option maxHeartbeats 2000000 in
theorem heavy10 (a : Option Addr) (c n : Nat) (l : List SaveV) (w : World) (hs : Src w a (flt SaveV.cells l)) (hn : n = l.length) (hn2 : n ≤ 9223372036854775807) :
    Calls Try.prog 39 #[.slice a n c] w fun e w' => (e = .returned (.bool true) ∧ Below w.heap.size w w') ∨ (e = .returned (.bool false) ∧ Below w.heap.size w w' ∧ LightS l) := by
  have Hs := Lib.hid hs
  have Hn := Lib.hid hn
  clear hs hn
  by_cases h24 : n ≤ 24
  · have h24' : ¬ 24 < n := by omega
    go_enter Try.func39, Try.ntmps39
    go_wp2_with fail
    go_loopw [3] (fun i wr => ∃ (k : Nat), k ≤ n ∧ i = .int .i64 (k : Int) ∧ Below w.heap.size w wr ∧ (∀ (j : Nat) (h : j < l.length), j < k → l[j].b.l.length ≤ 500 ∧ l[j].keep.length ≤ 300 ∧ l[j].again.length ≤ 4)) (fun i _ => n - (intOf i).toNat)
    case atStart => exact ⟨0, by omega, rfl, Below.refl _ _, fun j _ h => by omega⟩
    case round =>
      rename_i wr
      obtain ⟨k, hk, rfl, hbr, hall⟩ := hrel
      have Hall := Lib.hid hall
      clear hall
      by_cases hlt : k < n
      · have hkl : k < l.length := by have := Hn.out; omega
        obtain ⟨b, o, rfl, hlb, hat⟩ := Hs.out.elem SaveV.len (by decide) hkl
        have q0 := hat k hkl 0 _ rfl
        have q3 := hat k hkl 3 _ rfl
        have q5 := hat k hkl 5 _ rfl
        obtain ⟨x, hx⟩ : ∃ x, x = l[k] := ⟨_, rfl⟩
        rw [← hx] at q0 q3 q5
        have Hx := Lib.hid hx
        have c0 := (World.cell?_of_block (w := w) (a := ⟨b, o + k * 6, none⟩) (hbr.block b hlb)).trans q0
        have c3 := (World.cell?_of_block (w := w) (a := ⟨b, o + k * 6 + 3, none⟩) (hbr.block b hlb)).trans q3
        have c5 := (World.cell?_of_block (w := w) (a := ⟨b, o + k * 6 + 5, none⟩) (hbr.block b hlb)).trans q5
        clear hat q0 q3 q5 hx
        by_cases h0 : x.b.l.length ≤ 500
        · have g0 : ¬ 500 < x.b.l.length := by omega
          by_cases h3 : x.keep.length ≤ 300
          · have g3 : ¬ 300 < x.keep.length := by omega
            by_cases h5 : x.again.length ≤ 4
            · have g5 : ¬ 4 < x.again.length := by omega
              go_wp2_with fail
              go_roundw
              case rel =>
                refine ⟨k + 1, by omega, by go_num, hbr, fun j hj hjk => ?_⟩
                by_cases hjk' : j = k
                · subst hjk'
                  rw [← Hx.out]
                  exact ⟨h0, h3, h5⟩
                · exact Hall.out j hj (by omega)
              case measure => simp [intOf]; omega
            · have g5 : 4 < x.again.length := by omega
              go_wp2
              go_ret
              exact .inl ⟨rfl, hbr⟩
          · have g3 : 300 < x.keep.length := by omega
            go_wp2
            go_ret
            exact .inl ⟨rfl, hbr⟩
        · have g0 : 500 < x.b.l.length := by omega
          go_wp2
          go_ret
          exact .inl ⟨rfl, hbr⟩
      · go_wp2
        go_ret
        exact .inr ⟨rfl, hbr, ⟨by rw [← Hn.out]; exact h24, fun j hj => Hall.out j hj (by have := Hn.out; omega)⟩⟩
  · have h24' : 24 < n := by omega
    go_enter Try.func39, Try.ntmps39
    go_wp2
    go_ret
    exact .inl ⟨rfl, Below.refl _ _⟩

set_option maxRecDepth 100000 in
set_option maxHeartbeats 2000000 in
theorem long10 (a : Option Addr) (c L : Nat) (l : List Byte) (T : Int) (V2 V3 V4 V5 : Value) (w : World) (hs : Src w a (bvs l)) (hL : L = l.length) (hL2 : L ≤ 500) :
    Calls Try.prog 40 #[.agg #[.slice a L c, .int .i64 T, V2, V3, V4, V5]] w fun e w' => ∃ a' n' c', e = .returned (.slice a' n' c') ∧ n' ≤ 6000 ∧ ∃ b' : List Byte, n' = b'.length ∧ Own w' w.heap.size 5 1 a' n' c' (bvs b') ∧ Below w.heap.size w w' := by
  obtain ⟨i0, hi, hz0, hz1, hz2⟩ := info_parts info8
  obtain ⟨k, hk, ek⟩ := umod T 12 (by decide) (by decide)
  have HL := Lib.hid hL
  have hz := heap_alloc_new w (.cells #[.slice a L c, .int .i64 T, V2, V3, V4, V5] 78)
  have hb1 := ext_alloc w (.cells #[.slice a L c, .int .i64 T, V2, V3, V4, V5] 78)
  have hsz : (w.alloc (.cells #[.slice a L c, .int .i64 T, V2, V3, V4, V5] 78)).heap.size = w.heap.size + 1 := World.size_alloc _ _
  have Hs1 := Lib.hid (hs.ext hb1)
  have Hz := Lib.hid hz
  have Hb1 := Lib.hid hb1
  clear hs hL hz hb1
  go_enter Try.func40, Try.ntmps40
  go_wp2_with fail
  generalize World.alloc w _ = w1 at *
  go_loopw [3, 4] (fun o i wr => ∃ (j : Nat) (a3 : Option Addr) (n3 c3 : Nat) (b3 : List Byte), (j : Int) ≤ (k : Int) + 1 ∧ o = .slice a3 n3 c3 ∧ n3 = b3.length ∧ n3 ≤ 500 * j ∧ i = .int .i64 (j : Int) ∧ Own wr (w.heap.size + 1) 5 1 a3 n3 c3 (bvs b3) ∧ Below (w.heap.size + 1) w1 wr) (fun _ i _ => k + 1 - (intOf i).toNat)
  case atStart => exact ⟨0, none, 0, 0, [], by omega, rfl, rfl, by omega, rfl, Own.nil _ _ _ _ _, Below.refl _ _⟩
  case round =>
    rename_i wr
    obtain ⟨j, a3, n3, c3, b3, hj, rfl, hn3, hle, rfl, hown, hb⟩ := hrel
    have Hn3 := Lib.hid hn3
    clear hn3
    have hzr := (hb.block w.heap.size (by omega)).trans Hz.out
    have c0 := cell_of_row wr w.heap.size 0 _ _ _ hzr
    have c1 := cell_of_row wr w.heap.size 1 _ _ _ hzr
    have Hsr := Lib.hid (Hs1.out.low (w := wr) (B := w.heap.size + 1) hb (by omega))
    have Ho := Lib.hid hown
    have Hb := Lib.hid hb
    have hsr : w.heap.size + 1 ≤ wr.heap.size := by have := hb.size; omega
    clear hzr hown hb
    by_cases hlt : (j : Int) ≤ (k : Int)
    · go_wp2_with (refine wpList_app rfl (.tmp 14) (.tmp 16) 34 rfl (w.heap.size + 1) 5 i0 (.int .u8 0) 1 1 Try.underlying34 hi hz0 hz1 hz2 rfl (by decide) a3 n3 c3 (bvs b3) rfl Ho.out a L c (bvs l) rfl (by rw [bvs_length, Nat.mul_one]; exact HL.out.symm) Hsr.out (bvs_one l) (by unfold maxLen; omega) (by omega) hsr ?_; intro a4 c4 w4 ho4 hb4)
      rw [← bvs_append] at ho4
      have hb4' := Hb.out.trans hb4
      clear c0 c1
      go_roundw
      case rel => exact ⟨j + 1, a4, n3 + L, c4, b3 ++ l, by omega, rfl, by rw [List.length_append, ← Hn3.out, ← HL.out], by omega, by go_num, ho4, hb4'⟩
      case measure => simp [intOf]; omega
    · have hbF := Hb1.out.trans (Hb.out.mono (Nat.le_succ _))
      go_wp2
      go_ret
      exact ⟨a3, n3, c3, rfl, by omega, b3, Hn3.out, Ho.out.mono (Nat.le_succ _), hbF⟩
end Go.Proofs.Ytogcejmnhiphgaa
