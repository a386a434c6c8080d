/- The store's State, Count. -/
import Derived.Test.YtogcejmnhiphgaaStoreOpen
namespace Go.Proofs.Ytogcejmnhiphgaa
open Go.RowKit

set_option maxRecDepth 100000 in
set_option maxHeartbeats 1000000 in
theorem sstate_any {B : Nat} {w : World} {gs g : Nat} {s : List Byte} {cnt : Nat} (h : StA B w gs g s cnt) {L : Nat} (hL : s.length = L) :
    Calls Try.prog 33 #[.pointer (some ⟨gs, 0, none⟩)] w fun e w' => ∃ a c, e = .returned (.slice a L c) ∧ Own w' w.heap.size 5 1 a L c (bvs s) ∧ Below w.heap.size w w' := by
  obtain ⟨⟨sa, sc, hh, hso⟩, hsb, hsl⟩ := h
  rw [hL] at hh hso hsl
  have q1 := cell_of_row w gs 1 _ _ _ hh
  have HO := Lib.hid hso.src
  have HL := Lib.hid hL
  clear hL hso hsb hh
  go_enter Try.func33, Try.ntmps33
  go_wp2_with fail
  refine (clone_at sa sc L s w HO.out HL.out.symm (by omega)).mono ?_
  rintro e w1 ⟨a1, c1, rfl, ho1, hb1⟩
  have HO1 := Lib.hid ho1
  have HB1 := Lib.hid hb1
  clear ho1 hb1 q1
  go_wp2
  go_ret
  exact ⟨a1, c1, rfl, HO1.out, HB1.out⟩

theorem scount_any {B : Nat} {w : World} {gs g : Nat} {s : List Byte} {cnt : Nat} (h : StA B w gs g s cnt) :
    Calls Try.prog 34 #[.pointer (some ⟨gs, 0, none⟩)] w fun e w' => e = .returned (.int .i64 (cnt : Int)) ∧ w = w' := by
  obtain ⟨⟨sa, sc, hh, hso⟩, hsb, hsl⟩ := h
  have q2 := cell_of_row w gs 2 _ _ _ hh
  clear hso hsb hh hsl
  go_enter Try.func34, Try.ntmps34
  go_wp2
  go_ret
  exact ⟨rfl, rfl⟩
end Go.Proofs.Ytogcejmnhiphgaa
