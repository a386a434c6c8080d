/- cellarerlaw09.Act as it lies; Heavy. -/
import Derived.Test.YtclkkhpnnbkfmaaFlt
import Derived.Test.YtclkkhpnnbkfmaaInts
import Derived.Test.YtclkkhpnnbkfmaaProg
import Derived.Outline
namespace Go.Proofs.Ytclkkhpnnbkfmaa
open Go.RowKit
/-- An act, as it lies. -/
structure ActV where
  what : Int
  i : Int
  n : Int
  b : Bsl
  raw : Bool
  ka : Option Addr
  kc : Nat
  keep : List Bool
  torn : Int
def ActV.cells (x : ActV) : List Value := [.int .i64 x.what, .int .i64 x.i, .int .i64 x.n, .slice x.b.a x.b.l.length x.b.c, .bool x.raw, .slice x.ka x.keep.length x.kc, .int .i64 x.torn]
theorem ActV.len (x : ActV) : x.cells.length = 7 := rfl
def ActV.ok (w : World) (x : ActV) : Prop := x.b.ok w ∧ Src w x.ka (bovs x.keep) ∧ x.keep.length ≤ 9223372036854775807 ∧ (Lit.int .i64 x.n).wf = true
theorem ActV.ok.ext {w w' : World} {x : ActV} (h : x.ok w) (hb : Below w.heap.size w w') : x.ok w' := ⟨h.1.ext hb, h.2.1.ext hb, h.2.2⟩
structure AMat (w : World) (a : Option Addr) (l : List ActV) : Prop where
  src : Src w a (flt ActV.cells l)
  ok : ∀ y ∈ l, y.ok w
/-- The acts that are played are no more than the law plays. -/
def Light (l : List ActV) : Prop := l.length ≤ 240 ∧ ∀ (i : Nat) (h : i < l.length), i < 60 → l[i].b.l.length ≤ 300 ∧ l[i].keep.length ≤ 300

set_option maxRecDepth 100000 in
set_option maxHeartbeats 2000000 in
theorem heavy09 (a : Option Addr) (c n : Nat) (l : List ActV) (w : World) (hs : Src w a (flt ActV.cells l)) (hn : n = l.length) (hn2 : n ≤ 9223372036854775807) :
    Calls Try.prog 55 #[.slice a n c] w fun e w' => (e = .returned (.bool true) ∧ Below w.heap.size w w') ∨ (e = .returned (.bool false) ∧ Below w.heap.size w w' ∧ Light l) := by
  have Hs := Lib.hid hs
  have Hn := Lib.hid hn
  clear hs hn
  by_cases h240 : n ≤ 240
  · have h240' : ¬ 240 < n := by omega
    go_enter Try.func55, Try.ntmps55
    go_wp2_with fail
    go_loopw [3] (fun i wr => ∃ (k : Nat), k ≤ n ∧ i = .int .i64 (k : Int) ∧ Below w.heap.size w wr ∧ (∀ (j : Nat) (h : j < l.length), j < k → j < 60 → l[j].b.l.length ≤ 300 ∧ l[j].keep.length ≤ 300)) (fun i _ => n - (intOf i).toNat)
    case atStart => exact ⟨0, by omega, rfl, Below.refl _ _, fun j _ h => by omega⟩
    case round =>
      rename_i wr
      obtain ⟨k, hk, rfl, hbr, hall⟩ := hrel
      have Hall := Lib.hid hall
      clear hall
      by_cases hlt : k < n
      · by_cases h60 : k < 60
        · have hkl : k < l.length := by have := Hn.out; omega
          obtain ⟨b, o, rfl, hlb, hat⟩ := Hs.out.elem ActV.len (by decide) hkl
          have q3 := hat k hkl 3 _ rfl
          have q5 := hat k hkl 5 _ rfl
          have hk' : l[k] = l[k] := rfl
          obtain ⟨x, hx⟩ : ∃ x, x = l[k] := ⟨_, rfl⟩
          rw [← hx] at q3 q5
          have Hx := Lib.hid hx
          have c3 := (World.cell?_of_block (w := w) (a := ⟨b, o + k * 7 + 3, none⟩) (hbr.block b hlb)).trans q3
          have c5 := (World.cell?_of_block (w := w) (a := ⟨b, o + k * 7 + 5, none⟩) (hbr.block b hlb)).trans q5
          clear hat q3 q5 hk' hx
          by_cases h3 : x.b.l.length ≤ 300
          · by_cases h5 : x.keep.length ≤ 300
            · have g3 : ¬ 300 < x.b.l.length := by omega
              have g5 : ¬ 300 < x.keep.length := by omega
              go_wp2_with fail
              go_roundw
              case rel =>
                refine ⟨k + 1, by omega, by go_num, hbr, fun j hj hjk hj60 => ?_⟩
                by_cases hjk' : j = k
                · subst hjk'
                  rw [← Hx.out]
                  exact ⟨h3, h5⟩
                · exact Hall.out j hj (by omega) hj60
              case measure => simp [intOf]; omega
            · have g3 : ¬ 300 < x.b.l.length := by omega
              have g5 : 300 < x.keep.length := by omega
              go_wp2
              go_ret
              exact .inl ⟨rfl, hbr⟩
          · have g3 : 300 < x.b.l.length := by omega
            go_wp2
            go_ret
            exact .inl ⟨rfl, hbr⟩
        · go_wp2
          go_ret
          exact .inr ⟨rfl, hbr, ⟨by rw [← Hn.out]; exact h240, fun j hj hj60 => Hall.out j hj (by omega) hj60⟩⟩
      · go_wp2
        go_ret
        exact .inr ⟨rfl, hbr, ⟨by rw [← Hn.out]; exact h240, fun j hj hj60 => Hall.out j hj (by have := Hn.out; omega) hj60⟩⟩
  · have h240' : 240 < n := by omega
    go_enter Try.func55, Try.ntmps55
    go_wp2
    go_ret
    exact .inl ⟨rfl, Below.refl _ _⟩
end Go.Proofs.Ytclkkhpnnbkfmaa
