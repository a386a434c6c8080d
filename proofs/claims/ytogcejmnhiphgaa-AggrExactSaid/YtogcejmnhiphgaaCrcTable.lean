/- crc.table: what it returns. -/
import Derived.Test.YtogcejmnhiphgaaProg
import Derived.Test.YtogcejmnhiphgaaCrcDef
import Derived.Outline
namespace Go.Proofs.Ytogcejmnhiphgaa
open Go.RowKit

def zeros256 : Array Value := Array.replicate 256 (.int .u32 0)
theorem zero256 (w : World) : (zeroValue 132).run Try.prog w = .ok (.agg zeros256) w := by kernel_rfl

set_option maxRecDepth 100000 in
set_option maxHeartbeats 1000000 in
theorem table_any (w : World) :
    Calls Try.prog 83 #[] w fun e w' => e = .returned (.agg tabv) ∧ Below w.heap.size w w' := by
  go_enter Try.func83, Try.ntmps83
  have hz := zero256
  go_wp2_with fail
  clear hz
  go_loopw [2,3,4,5,10] (fun a b c i j wr => ∃ k : Nat, k ≤ 256 ∧ i = .int .i64 k ∧ Below w.heap.size w wr ∧ (∃ z0, wr.heap[w.heap.size]? = some (.cells z0 132 (0,0)) ∧ z0.size = 256) ∧ ∃ cs, wr.heap[w.heap.size + 1]? = some (.cells cs 132 (0,0)) ∧ cs.size = 256 ∧ ∀ m, m < k → cs[m]? = tabv[m]?) (fun _ _ _ i _ _ => 256 - (intOf i).toNat)
  case atStart =>
    refine ⟨0, by omega, rfl, ((Below.refl _ _).alloc (Nat.le_refl _) _).alloc (by simp) _, ⟨zeros256, heap_alloc2_old _ _ _, by simp [zeros256]⟩, zeros256, heap_alloc2_new _ _ _, by simp [zeros256], fun m hm => by omega⟩
  case round =>
    obtain ⟨k, hk, rfl, hb, h0, cs, h1, h2, h3⟩ := hrel
    by_cases hlt : k < 256
    · go_wp2_with fail
      go_loop [3,4,10] (fun b c j => ∃ (j' : Nat), j' ≤ 8 ∧ j = .int .i64 j' ∧ b = .int .u32 (crcIter j' (BitVec.ofNat 32 k)).toNat) (fun _ _ i => 8 - (intOf i).toNat)
      case atStart => 
        refine ⟨0, by omega, rfl, ?_⟩
        rw [crcIter, BitVec.toNat_ofNat, Nat.mod_eq_of_lt (by omega)]
      case round =>
        obtain ⟨j, hj, rfl, rfl⟩ := hrel
        generalize hr : crcIter j (BitVec.ofNat 32 k) = r
        have Hr := Lib.hid hr
        clear hr
        by_cases hjt : j < 8
        · cases hl : r.getLsbD 0
          all_goals
            have hl' := lsb_and1 r
            rw [hl] at hl'
            go_wp2
            go_round
            case rel =>
              refine ⟨j + 1, by omega, by go_num, ?_⟩
              rw [crcIter, Hr.out]
              first | rw [step_one r hl] | rw [step_zero r hl]
            case measure => simp [intOf]; omega
        · have hj8 : j = 8 := by omega
          subst hj8
          have hc : wr.cell? ⟨w.heap.size + 1, k, none⟩ = some (cs[k]'(by omega)) := by rw [cell_of_row _ _ _ _ _ _ h1]; simp [h2, hlt]
          have hf := frozen_of_row wr (w.heap.size + 1) k cs _ h1
          go_wp2
          go_roundw
          case rel =>
            obtain ⟨z0, hz0, hz1⟩ := h0
            refine ⟨k + 1, by omega, by go_num, hb.setCell (by simp) _, ⟨z0, ?_, hz1⟩, cs.setIfInBounds k (.int .u32 r.toNat), heap_setCell_same wr _ k cs _ _ h1, by simpa using h2, fun m hm => ?_⟩
            · rw [heap_setCell_other _ _ _ _ (by simp)]; exact hz0
            · rw [Array.getElem?_setIfInBounds]
              split
              · rename_i e
                rw [← e, if_pos (by omega), tabv_get _ hlt, Hr.out]
              · exact h3 m (by omega)
          case measure => simp [intOf]; omega
    · have hk2 : k = 256 := by omega
      have hcs : cs = tabv := by
        apply Array.ext
        · rw [h2, tabv_size]
        · intro i hi1 hi2
          have := h3 i (by omega)
          rwa [Array.getElem?_eq_getElem hi1, Array.getElem?_eq_getElem hi2, Option.some.injEq] at this
      subst hcs
      obtain ⟨z0, hz0, hz1⟩ := h0
      clear hk2 h3
      go_wp2_with (first | (refine wpList_load_row rfl 132 _ rfl (w.heap.size + 1) rfl _ tabv _ _ h1 Try.underlying132 rfl (by kernel_rfl) ?_) | (refine wpList_store_row rfl rfl 132 _ _ rfl w.heap.size rfl _ z0 tabv rfl hz0 (by rw [hz1, tabv_size]) (by kernel_rfl) tabv_one ?_))
      exact bodyPost_ret (v := .agg tabv) (results_cell_row (p := 0) rfl _ _ w.heap.size _ tabv _ _ rfl (setRow_heap wr w.heap.size z0 tabv _ _ hz0) Try.underlying132 rfl (by kernel_rfl)) rfl ⟨rfl, bsetRow hb (Nat.le_refl _) _⟩
end Go.Proofs.Ytogcejmnhiphgaa
