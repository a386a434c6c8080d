/- cellarerlaw01.wakes. -/
import Derived.Test.YtobgiapfehffcaaBin
namespace Go.Proofs.Ytobgiapfehffcaa
open Go.RowKit

set_option maxRecDepth 100000 in
set_option maxHeartbeats 1000000 in
theorem wakes01_any (w : World) :
    Calls Try.prog 26 #[] w fun e w' => e = .returned (.bool true) ∧ Below w.heap.size w w' := by
  go_enter Try.func26, Try.ntmps26
  go_wp2_with fail
  refine (put_ok none 0 0 [] 258 2 _ _ w (Src.nil _ _) rfl rfl rfl (by omega) (by omega) (by omega) (by omega)).mono ?_
  rintro e w1 ⟨a1, c1, rfl, hown, hb⟩
  rw [show (0 + 2 : Nat) = 2 from rfl] at hown ⊢
  rw [show ([] ++ be 258 2 : List Byte) = [1#8, 2#8] from by decide +kernel] at hown
  have hlc := hown.len
  obtain ⟨g, rfl, hg1, hg2, hgc, _⟩ := hown.at (show 0 < 2 by omega)
  have h0 := hgc 0 (by simp [bvs])
  have h1 := hgc 1 (by simp [bvs])
  simp only [bvs, u8v, List.map_cons, List.map_nil, List.getElem_cons_zero, List.getElem_cons_succ] at h0 h1
  have hsrc := hown.src
  clear hgc hown
  go_wp2_with fail
  refine (get_ok (some ⟨g, 0, none⟩) c1 2 [1#8, 2#8] 0 2 _ _ w1 hsrc rfl rfl rfl (by omega) (by omega) (by omega) (by omega) (by omega)).mono ?_
  rintro e w2 ⟨rfl, rfl⟩
  rw [show numOf ((([1#8, 2#8] : List Byte).drop 0).take 2) = 258 from by decide +kernel, show (0 + 2 : Nat) = 2 from rfl]
  go_wp2
  go_ret
  exact ⟨rfl, hb⟩
end Go.Proofs.Ytobgiapfehffcaa
