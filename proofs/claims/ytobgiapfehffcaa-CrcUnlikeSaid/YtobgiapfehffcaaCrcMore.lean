/- crc.Bytes, cellarerlaw02.Heavy, Flat, wakes; cellarerkeep.TwinRows, Rows. -/
import Derived.Test.YtobgiapfehffcaaCrcSum
import Derived.Test.YtobgiapfehffcaaKeep
import Derived.Test.YtobgiapfehffcaaRegion
namespace Go.Proofs.Ytobgiapfehffcaa
open Go.RowKit

theorem flat_le (ps : List Bsl) (k : Nat) (hp : ∀ p ∈ ps, p.l.length ≤ 300) : (flat (ps.take k)).length ≤ k * 300 := by
  induction k generalizing ps with
  | zero => simp [flat]
  | succ k ih =>
    cases ps with
    | nil => simp [flat]
    | cons p ps =>
      have h1 := hp p (by simp)
      have h2 := ih ps (fun q hq => hp q (by simp [hq]))
      simp [flat] at h2 ⊢
      omega
theorem crcBytes_cells (z : BitVec 32) : #[Value.int IntKind.u8 ((z.toNat : Int) % 256), Value.int IntKind.u8 ((z.toNat : Int) / 256 % 256), Value.int IntKind.u8 ((z.toNat : Int) / 65536 % 256), Value.int IntKind.u8 ((z.toNat : Int) / 16777216)] = (bvs (crcBytesOf z)).toArray := by
  have h := z.isLt
  simp only [crcBytesOf, bvs, u8v, List.map_cons, List.map_nil, BitVec.toNat_setWidth, BitVec.toNat_ushiftRight, Nat.shiftRight_eq_div_pow]
  congr 1
  simp
  omega

set_option maxRecDepth 100000 in
set_option maxHeartbeats 1000000 in
theorem crcbytes_any (a : Option Addr) (c : Nat) (ps : List Bsl) (w : World) (hm : Mat w a ps) (hn : ps.length ≤ 9223372036854775807) :
    Calls Try.prog 21 #[.slice a ps.length c] w fun e w' => e = .returned (.agg (bvs (crcBytesOf (crc (flat ps)))).toArray) ∧ Below w.heap.size w w' := by
  go_enter Try.func21, Try.ntmps21
  go_wp2_with fail
  have hg0 := heap_alloc_new w (.cells #[.int .u8 0, .int .u8 0, .int .u8 0, .int .u8 0] 35)
  refine (sum_any a c ps _ (hm.ext (ext_alloc w _)) hn).mono ?_
  rintro e w1 ⟨rfl, hb1⟩
  generalize hz : crc (flat ps) = z
  have Hz := Lib.hid hz
  clear hz
  have hg := (hb1.block w.heap.size (by simp)).trans hg0
  go_wp2_with (refine wpList_store_row rfl rfl 35 (.tmp 2) (.tmp 17) rfl w.heap.size rfl 35 #[.int .u8 0, .int .u8 0, .int .u8 0, .int .u8 0] #[Value.int IntKind.u8 ((z.toNat : Int) % 256), Value.int IntKind.u8 ((z.toNat : Int) / 256 % 256), Value.int IntKind.u8 ((z.toNat : Int) / 65536 % 256), Value.int IntKind.u8 ((z.toNat : Int) / 16777216)] rfl hg rfl (by kernel_rfl) (by simp [Value.oneCell']) ?_)
  rw [crcBytes_cells]
  exact bodyPost_ret (v := .agg _) (results_cell_row (p := 2) rfl _ _ w.heap.size _ (bvs (crcBytesOf z)).toArray _ _ rfl (setRow_heap w1 w.heap.size _ _ _ _ hg) Try.underlying35 rfl (by kernel_rfl)) rfl
    ⟨by rw [Hz.out], bsetRow ((ext_alloc w _).trans (hb1.mono (by simp))) (Nat.le_refl _) _⟩

theorem crcbytes_at (a : Option Addr) (c : Nat) (ps : List Bsl) (w : World) (n : Nat) (r : BitVec 32) (hm : Mat w a ps) (hn : n = ps.length) (hl : n ≤ 9223372036854775807) (hr : crc (flat ps) = r) :
    Calls Try.prog 21 #[.slice a n c] w fun e w' => e = .returned (.agg (bvs (crcBytesOf r)).toArray) ∧ Below w.heap.size w w' := by
  subst hn; subst hr; exact crcbytes_any a c ps w hm hl
def heavyB (ps : List Bsl) : Bool := decide (¬ (ps.length ≤ 20 ∧ ∀ p ∈ ps, p.l.length ≤ 300))
theorem heavyB_no {ps : List Bsl} (h : heavyB ps = false) : ps.length ≤ 20 ∧ ∀ p ∈ ps, p.l.length ≤ 300 := by
  have := of_decide_eq_false h
  exact Classical.not_not.1 this
set_option maxHeartbeats 1000000 in
theorem heavy_any (a : Option Addr) (c : Nat) (ps : List Bsl) (w : World) (hm : Mat w a ps) (hn : ps.length ≤ 9223372036854775807) :
    Calls Try.prog 18 #[.slice a ps.length c] w fun e w' => e = .returned (.bool (heavyB ps)) ∧ w = w' := by
  go_enter Try.func18, Try.ntmps18
  by_cases h20 : ps.length ≤ 20
  · go_wp2_with fail
    go_loop [3] (fun i => ∃ k : Nat, k ≤ ps.length ∧ i = .int .i64 k ∧ ∀ j (hj : j < ps.length), j < k → ps[j].l.length ≤ 300) (fun i => ps.length - (intOf i).toNat)
    case atStart => exact ⟨0, by omega, rfl, fun j _ h => by omega⟩
    case round =>
      obtain ⟨k, hk, rfl, hall⟩ := hrel
      have Hall := Lib.hid hall
      clear hall
      by_cases hlt : k < ps.length
      · obtain ⟨b, o, rfl, hlb, hat⟩ := hm.at hlt
        have hc := hat k hlt
        clear hat
        have hll := (hm.row _ (List.getElem_mem hlt)).2
        generalize hp : ps[k] = p at hc hll
        have Hp := Lib.hid hp
        clear hp
        by_cases h3 : p.l.length ≤ 300
        · go_wp2
          go_round
          case rel =>
            refine ⟨k + 1, by omega, by go_num, fun j hj hjk => ?_⟩
            by_cases hjk' : j < k
            · exact Hall.out j hj hjk'
            · obtain rfl : j = k := by omega
              rw [Hp.out]; exact h3
          case measure => simp [intOf]; omega
        · have hd : heavyB ps = true := by
            refine decide_eq_true ?_
            rintro ⟨_, hh⟩
            have := hh _ (List.getElem_mem hlt)
            rw [Hp.out] at this
            exact h3 this
          have Hd := Lib.hid hd
          clear hd
          go_wp2
          go_ret
          exact ⟨by rw [Hd.out]; rfl, rfl⟩
      · have hd : heavyB ps = false := by
          refine decide_eq_false (fun h => h ⟨h20, fun p hp => ?_⟩)
          obtain ⟨j, hj, rfl⟩ := List.mem_iff_getElem.1 hp
          exact Hall.out j hj (by omega)
        have Hd := Lib.hid hd
        clear hd
        go_wp2
        go_ret
        exact ⟨by rw [Hd.out]; rfl, rfl⟩
  · have Hd : Hid (heavyB ps = true) := Lib.hid (decide_eq_true (fun h => h20 h.1))
    go_wp2
    go_ret
    exact ⟨by rw [Hd.out]; rfl, rfl⟩

set_option maxHeartbeats 1000000 in
theorem flat_any (a : Option Addr) (c : Nat) (ps : List Bsl) (w : World) (hm : Mat w a ps) (hn : ps.length ≤ 20) (hp : ∀ p ∈ ps, p.l.length ≤ 300) :
    Calls Try.prog 20 #[.slice a ps.length c] w fun e w' => ∃ a' c', e = .returned (.slice a' (flat ps).length c') ∧ Own w' w.heap.size 5 1 a' (flat ps).length c' (bvs (flat ps)) ∧ Below w.heap.size w w' := by
  obtain ⟨i0, hi, hz0, hz1, hz2⟩ := info_parts info8
  go_enter Try.func20, Try.ntmps20
  go_wp2_with fail
  go_loopw [3, 4] (fun v i wr => ∃ k a' c', k ≤ ps.length ∧ i = .int .i64 (k : Nat) ∧ v = .slice a' (flat (ps.take k)).length c' ∧ Own wr w.heap.size 5 1 a' (flat (ps.take k)).length c' (bvs (flat (ps.take k))) ∧ Below w.heap.size w wr) (fun _ i _ => ps.length - (intOf i).toNat)
  case atStart => exact ⟨0, none, 0, by omega, rfl, rfl, Own.nil _ _ _ _ _, Below.refl _ _⟩
  case round =>
    obtain ⟨k, a', c', hk, rfl, rfl, hown, hb⟩ := hrel
    by_cases hlt : k < ps.length
    · have hm2 := hm.ext hb
      have hrow := hm2.row _ (List.getElem_mem hlt)
      have Htk := Lib.hid (congrArg flat (take_succ_list ps k hlt))
      obtain ⟨b, o, rfl, hlb, hat⟩ := hm2.at hlt
      have hc := hat k hlt
      clear hat
      have hbd := flat_le ps k hp
      have hpl := hp _ (List.getElem_mem hlt)
      generalize hpp : ps[k] = p at *
      have Hpp := Lib.hid hpp
      clear hpp
      obtain ⟨pa, pc, l⟩ := p
      obtain ⟨hsrc, hl⟩ := hrow
      simp only at hc hsrc hl hpl
      generalize hf : flat (ps.take k) = f at *
      have Hf := Lib.hid hf
      clear hf
      have hkk : k * 300 ≤ 6000 := by omega
      go_wp2_with (refine wpList_app rfl (.tmp 11) (.tmp 15) 22 rfl w.heap.size 5 i0 (.int .u8 0) 1 1 Try.underlying22 hi hz0 hz1 hz2 rfl (by decide) a' f.length c' (bvs f) rfl hown pa l.length pc (bvs l) rfl (by simp) hsrc (bvs_one l) (by unfold maxLen; omega) (by omega) hb.size ?_; intro a2 c2 w2 hown2 hb2)
      go_roundw
      case rel =>
        have e : flat (ps.take (k + 1)) = f ++ l := by rw [Htk.out, flat_snoc, Hf.out]
        exact ⟨k + 1, a2, c2, by omega, by go_num, by rw [e, List.length_append], by rw [e, List.length_append, bvs_append]; exact hown2, hb.trans hb2⟩
      case measure => simp [intOf]; omega
    · have hkl : k = ps.length := by omega
      subst hkl
      rw [List.take_length] at hown ⊢
      go_wp2
      go_ret
      exact ⟨a', c', rfl, hown, hb⟩
end Go.Proofs.Ytobgiapfehffcaa
