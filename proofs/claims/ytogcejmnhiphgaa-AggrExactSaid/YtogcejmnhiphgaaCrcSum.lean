/- crc.Sum: what it returns. -/
import Derived.Test.YtogcejmnhiphgaaCrcTable
namespace Go.Proofs.Ytogcejmnhiphgaa
open Go.RowKit

set_option maxRecDepth 100000 in
set_option maxHeartbeats 1000000 in
theorem sum_any (a : Option Addr) (c : Nat) (ps : List Bsl) (w : World) (hm : Mat w a ps) (hn : ps.length ≤ 9223372036854775807) :
    Calls Try.prog 74 #[.slice a ps.length c] w fun e w' => e = .returned (.int .u32 ((crc (flat ps)).toNat : Int)) ∧ Below w.heap.size w w' := by
  go_enter Try.func74, Try.ntmps74
  go_wp2_with fail
  refine (table_any w).mono ?_
  rintro e w1 ⟨rfl, hb1⟩
  have hm1 := hm.ext hb1
  have hz := zero256
  go_wp2_with (refine wpList_store_row rfl rfl 132 _ _ rfl w1.heap.size rfl 132 zeros256 tabv rfl (heap_alloc_new w1 _) (by rw [tabv_size]; simp [zeros256]) (by kernel_rfl) tabv_one ?_)
  clear hz
  have hA := ext_alloc w1 (.cells zeros256 132)
  have hb2 := bsetRow hA (Nat.le_refl w1.heap.size) tabv
  have hT := setRow_heap (w1.alloc (.cells zeros256 132)) w1.heap.size zeros256 tabv _ _ (heap_alloc_new w1 _)
  have hm2 := hm1.ext hb2
  have hb := bthen hb1 hb2 (Nat.le_refl _)
  clear hm hm1 hA hb1 hb2
  generalize hw2 : World.setRow (World.alloc w1 (.cells zeros256 132)) w1.heap.size tabv = w2 at hb hT hm2 ⊢
  generalize w1.heap.size = B at hT ⊢
  clear hw2
  have htab := fun x => tab_cell hT x
  clear hT
  go_loop [4, 12] (fun r i => ∃ k : Nat, k ≤ ps.length ∧ i = .int .i64 k ∧ r = .int .u32 ((crcReg crcAll (flat (ps.take k))).toNat : Int)) (fun _ i => ps.length - (intOf i).toNat)
  case atStart => exact ⟨0, by omega, rfl, rfl⟩
  case round =>
    obtain ⟨k, hk, rfl, rfl⟩ := hrel
    by_cases hlt : k < ps.length
    · have hrow := hm2.row _ (List.getElem_mem hlt)
      have htk := take_succ_list ps k hlt
      have hcell := hm2.at hlt
      generalize hp : ps[k] = p at hrow htk
      obtain ⟨b, o, rfl, hlb, hat⟩ := hcell
      have hc := hat k hlt
      rw [hp] at hc
      clear hat hp
      obtain ⟨pa, pc, l⟩ := p
      obtain ⟨hsrc, hl⟩ := hrow
      simp only at hc hsrc hl
      have Htk := Lib.hid htk
      clear htk
      generalize hR : crcReg crcAll (flat (ps.take k)) = R at *
      have HR := Lib.hid hR
      clear hR
      go_wp2_with fail
      go_loop [4, 18] (fun r i => ∃ j : Nat, j ≤ l.length ∧ i = .int .i64 j ∧ r = .int .u32 ((crcReg R (l.take j)).toNat : Int)) (fun _ i => l.length - (intOf i).toNat)
      case atStart => exact ⟨0, by omega, rfl, rfl⟩
      case round =>
        obtain ⟨j, hj, rfl, rfl⟩ := hrel
        by_cases hjt : j < l.length
        · obtain ⟨b', o', rfl, hlb', hat'⟩ := src_bytes_at hsrc hjt
          have hc' := hat' j hjt
          have hs : Hid (crcReg R (l.take (j + 1)) = crcOne (crcReg R (l.take j)) l[j]) := Lib.hid (by rw [take_succ_list l j hjt, crcReg_snoc])
          clear hat'
          generalize l[j] = x at hc' hs
          generalize crcReg R (l.take j) = q at hs ⊢
          obtain ⟨y, t, s, e1, e2, e3, e4⟩ := crc_round q x
          have ht := htab y
          rw [e2] at ht
          rw [e4] at hs
          clear e2 e4 htab
          go_wp2
          go_round
          case rel => exact ⟨j + 1, by omega, by go_num, by rw [hs.out]⟩
          case measure => simp [intOf]; omega
        · have hjl : j = l.length := by omega
          subst hjl
          clear htab
          go_wp2
          go_round
          case rel =>
            refine ⟨k + 1, by omega, by go_num, ?_⟩
            rw [Htk.out, flat_snoc, crcReg_append, HR.out, List.take_length]
          case measure => simp [intOf]; omega
    · have hkl : k = ps.length := by omega
      subst hkl
      rw [List.take_length]
      have hlast := crc_last (crcReg crcAll (flat ps))
      have hcrc : crcReg crcAll (flat ps) ^^^ crcAll = crc (flat ps) := rfl
      rw [hcrc] at hlast
      generalize hz : crc (flat ps) = z at hlast
      have Hz := Lib.hid hz
      clear hz hcrc htab
      generalize crcReg crcAll (flat ps) = y at *
      go_wp2
      go_ret
      exact ⟨by rw [Hz.out]; rfl, hb⟩
theorem sum_at (a : Option Addr) (c : Nat) (ps : List Bsl) (w : World) (n : Nat) (r : BitVec 32) (hm : Mat w a ps) (hn : n = ps.length) (hl : n ≤ 9223372036854775807) (hr : crc (flat ps) = r) :
    Calls Try.prog 74 #[.slice a n c] w fun e w' => e = .returned (.int .u32 (r.toNat : Int)) ∧ Below w.heap.size w w' := by
  subst hn; subst hr; exact sum_any a c ps w hm hl
end Go.Proofs.Ytogcejmnhiphgaa
