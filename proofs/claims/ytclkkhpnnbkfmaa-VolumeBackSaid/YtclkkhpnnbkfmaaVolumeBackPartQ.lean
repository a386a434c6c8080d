/- Several texts of this claim, one behind the other: Bin, CrcTable, CrcSum, CrcBy. -/
import Derived.Test.YtclkkhpnnbkfmaaVolumeBackPartO
import Derived.Test.YtclkkhpnnbkfmaaVolumeBackPartB
import Derived.Test.YtclkkhpnnbkfmaaProg
import Derived.Test.YtclkkhpnnbkfmaaVolumeBackPartK
import Derived.Outline
/- bin.Put, Get: what they return. -/
namespace Go.Proofs.Ytclkkhpnnbkfmaa
open Go.RowKit

set_option maxRecDepth 100000

theorem room_any (s : Nat) (S : Int) (w : World) (hS : S = (s : Int)) (h1 : 1 ≤ s) (h2 : s ≤ 7) :
    Calls Try.prog 130 #[.int .i64 S] w fun e w' => e = .returned (.int .i64 ((256 ^ s : Nat) : Int)) ∧ w = w' := by
  subst hS
  have h3 := pow256_le h2
  have e1 : (8 * (s : Int)).toNat = 8 * s := by omega
  go_enter Try.func130, Try.ntmps130
  go_wp2
  go_ret
  refine ⟨?_, rfl⟩
  have e2 : wrap64 (2 ^ (8 * s)) = ((256 ^ s : Nat) : Int) := by
    rw [← pow8]
    rw [← pow8] at h3
    have e3 : ((2 ^ (8 * s) : Nat) : Int) = (2 : Int) ^ (8 * s) := by simp
    rw [← e3]
    generalize (2 : Nat) ^ (8 * s) = v at *
    exact IntWalk.wrap64_in _ ⟨by omega, by omega⟩
  rw [← e2]
  rfl

/-- Put refuses. -/
theorem put_no (a : Option Addr) (L c : Nat) (n S : Int) (w : World) (h : ¬ (1 ≤ S ∧ S ≤ 7 ∧ 0 ≤ n ∧ n < 256 ^ S.toNat)) :
    Calls Try.prog 113 #[.slice a L c, .int .i64 n, .int .i64 S] w fun e w' => e = .returned (.tuple #[.slice none 0 0, .int .i64 1]) ∧ w = w' := by
  by_cases h1 : 1 ≤ S
  · by_cases h2 : S ≤ 7
    · obtain ⟨s, rfl⟩ := Int.eq_ofNat_of_zero_le (show 0 ≤ S by omega)
      by_cases h3 : 0 ≤ n
      · have h4 : ((256 ^ s : Nat) : Int) ≤ n := by
          simp only [h1, h2, h3, true_and, Int.toNat_natCast, Int.not_lt] at h
          simpa using h
        have h5 : ¬ n < ((256 ^ s : Nat) : Int) := by omega
        have Hr : Hid (∀ w, Calls Try.prog 130 #[.int .i64 (s : Int)] w fun e w' => e = .returned (.int .i64 ((256 ^ s : Nat) : Int)) ∧ w = w') := Lib.hid fun w => room_any s _ w rfl (by omega) (by omega)
        clear h
        generalize ((256 ^ s : Nat) : Int) = R at *
        go_enter Try.func113, Try.ntmps113
        go_wp2_with fail
        refine (Hr.out w).mono ?_
        rintro e w' ⟨rfl, rfl⟩
        go_wp2
        go_ret2
        exact ⟨rfl, rfl⟩
      · go_enter Try.func113, Try.ntmps113
        go_wp2_with fail
        go_ret2
        exact ⟨rfl, rfl⟩
    · go_enter Try.func113, Try.ntmps113
      go_wp2_with fail
      go_ret2
      exact ⟨rfl, rfl⟩
  · go_enter Try.func113, Try.ntmps113
    go_wp2_with fail
    go_ret2
    exact ⟨rfl, rfl⟩

set_option maxHeartbeats 1000000 in
/-- Put puts. -/
theorem put_ok (a : Option Addr) (c L : Nat) (l : List Byte) (n s : Nat) (N S : Int) (w : World) (hs : Src w a (bvs l)) (hL : L = l.length) (hN : N = (n : Int)) (hS : S = (s : Int)) (hl : L ≤ 140737488355000) (h1 : 1 ≤ s) (h2 : s ≤ 7) (h3 : n < 256 ^ s) :
    Calls Try.prog 113 #[.slice a L c, .int .i64 N, .int .i64 S] w fun e w' => ∃ a' c', e = .returned (.tuple #[.slice a' (L + s) c', .int .i64 0]) ∧ Own w' w.heap.size 5 1 a' (L + s) c' (bvs (l ++ be n s)) ∧ Below w.heap.size w w' := by
  subst hL; subst hN; subst hS
  obtain ⟨i0, hi, hz0, hz1, hz2⟩ := info_parts info8
  have h4 : ((n : Nat) : Int) < ((256 ^ s : Nat) : Int) := by omega
  have h5 := pow256_le h2
  have Hr : Hid (∀ w, Calls Try.prog 130 #[.int .i64 (s : Int)] w fun e w' => e = .returned (.int .i64 ((256 ^ s : Nat) : Int)) ∧ w = w') := Lib.hid fun w => room_any s _ w rfl (by omega) (by omega)
  have hn : n < 72057594037927936 := by omega
  clear h3 h5
  generalize ((256 ^ s : Nat) : Int) = R at *
  go_enter Try.func113, Try.ntmps113
  go_wp2_with fail
  refine (Hr.out w).mono ?_
  rintro e w' ⟨rfl, rfl⟩
  go_wp2_with fail
  refine (clone_any a c l w hs (by omega)).mono ?_
  rintro e w1 ⟨a1, c1, rfl, hown1, hb1⟩
  go_wp2_with fail
  clear h4 Hr
  go_loopw [8, 9] (fun v i wr => ∃ (j : Nat) (a' : Option Addr) (c' : Nat), j ≤ s ∧ i = .int .i64 ((s : Int) - 1 - (j : Int)) ∧ v = .slice a' (l.length + j) c' ∧ Own wr w.heap.size 5 1 a' (l.length + j) c' (bvs (l ++ (be n s).take j)) ∧ Below w.heap.size w wr) (fun _ i _ => (intOf i + 1).toNat)
  case atStart => exact ⟨0, a1, c1, by omega, by go_num, rfl, by simpa using hown1, hb1⟩
  case round =>
    rename_i wr
    obtain ⟨j, a', c', hj, rfl, rfl, hown, hb⟩ := hrel
    by_cases hlt : j < s
    · obtain ⟨q, hq⟩ : ∃ q, q = s - 1 - j := ⟨_, rfl⟩
      have eq1 : (s : Int) - 1 - (j : Int) = (q : Int) := by omega
      have Hq := Lib.hid hq
      have Htk := Lib.hid (be_take_succ n s j hlt)
      have hq6 : q ≤ 6 := by omega
      have et : (8 * (q : Int)).toNat = 8 * q := by omega
      have hv : Value.int IntKind.u8 ((n : Int) / 2 ^ (8 * q) % 256) = u8v (BitVec.ofNat 8 (n / 256 ^ q)) := by
        simp only [u8v, BitVec.toNat_ofNat, Value.int.injEq, true_and]
        rw [← pow8]
        have e3 : ((2 ^ (8 * q) : Nat) : Int) = (2 : Int) ^ (8 * q) := by simp
        rw [← e3]
        generalize (2 : Nat) ^ (8 * q) = v
        omega
      have Hv := Lib.hid hv
      clear hv hq
      rw [eq1]
      have hsz := hb.size
      go_wp2_with (refine wpList_app rfl (.tmp 34) (.tmp 40) 50 rfl w.heap.size 5 i0 (.int .u8 0) 1 1 Try.underlying50 hi hz0 hz1 hz2 rfl (by decide) a' (l.length + j) c' (bvs (l ++ (be n s).take j)) rfl (hown.ext (ext_alloc wr _)) (some ⟨wr.heap.size, 0, none⟩) 1 1 [.int .u8 ((n : Int) / 2 ^ (8 * q) % 256)] rfl rfl (src_new wr _ _) (by simp [Value.oneCell']) (by unfold maxLen; omega) (by omega) (by rw [World.size_alloc]; omega) ?_; intro a2 c2 w2 hown2 hb2)
      go_roundw
      case rel =>
        refine ⟨j + 1, a2, c2, by omega, ?_, rfl, ?_, (hb.alloc hb.size _).trans hb2⟩
        · have := Hq.out
          congr 1
          omega
        · rw [Hv.out] at hown2
          rw [Htk.out, ← Hq.out, ← List.append_assoc, bvs_append _ [_]]
          exact hown2
      case measure => simp [intOf] <;> omega
    · obtain rfl : j = s := by omega
      go_wp2
      go_ret2
      exact ⟨a', c', rfl, by rw [List.take_of_length_le (by rw [be_length]; omega)] at hown; exact hown, hb⟩
/-- Get refuses: an argument. -/
theorem get_arg (a : Option Addr) (L c : Nat) (A S : Int) (w : World) (hL : L ≤ 9223372036854775807) (h : ¬ (1 ≤ S ∧ S ≤ 7 ∧ 0 ≤ A ∧ A ≤ (L : Int))) :
    Calls Try.prog 121 #[.slice a L c, .int .i64 A, .int .i64 S] w fun e w' => e = .returned (.tuple #[.int .i64 0, .int .i64 0, .int .i64 1]) ∧ w = w' := by
  by_cases h1 : 1 ≤ S
  · by_cases h2 : S ≤ 7
    · by_cases h3 : 0 ≤ A
      · have h4 : (L : Int) < A := by omega
        clear h
        go_enter Try.func121, Try.ntmps121
        go_wp2
        go_ret3
        exact ⟨rfl, rfl⟩
      · go_enter Try.func121, Try.ntmps121
        go_wp2
        go_ret3
        exact ⟨rfl, rfl⟩
    · go_enter Try.func121, Try.ntmps121
      go_wp2
      go_ret3
      exact ⟨rfl, rfl⟩
  · go_enter Try.func121, Try.ntmps121
    go_wp2
    go_ret3
    exact ⟨rfl, rfl⟩

/-- Get refuses: too few bytes. -/
theorem get_few (a : Option Addr) (L c : Nat) (A S : Int) (w : World) (hL : L ≤ 9223372036854775807) (h1 : 1 ≤ S) (h2 : S ≤ 7) (h3 : 0 ≤ A) (h4 : A ≤ (L : Int)) (h5 : (L : Int) - A < S) :
    Calls Try.prog 121 #[.slice a L c, .int .i64 A, .int .i64 S] w fun e w' => e = .returned (.tuple #[.int .i64 0, .int .i64 0, .int .i64 3]) ∧ w = w' := by
  go_enter Try.func121, Try.ntmps121
  go_wp2
  go_ret3
  exact ⟨rfl, rfl⟩

theorem wraps_i64_63 (n : Int) (h₀ : 0 ≤ n) (h₁ : n < 2 ^ 63) : IntKind.i64.wrap n = n := by rw [IntKind.wrap_i64]; omega
theorem or_byte (v : Nat) (x : Byte) (h : v < 281474976710656) : bits .or .i64 ((v : Int) * 256) (x.toNat : Int) = ((v * 256 + x.toNat : Nat) : Int) := by
  have hx := x.isLt
  rw [bits_join .i64 63 (by decide) wraps_i64_63 8 _ _ (by omega) (by omega) (by omega) (by omega) (by omega) (by omega)]
  omega

set_option maxHeartbeats 1000000 in
/-- Get gets. -/
theorem get_ok (a : Option Addr) (c L : Nat) (l : List Byte) (p s : Nat) (A S : Int) (w : World) (hs : Src w a (bvs l)) (hL : L = l.length) (hA : A = (p : Int)) (hS : S = (s : Int)) (hl : L ≤ 4611686018427387904) (hc : L ≤ c) (h1 : 1 ≤ s) (h2 : s ≤ 7) (h3 : p + s ≤ L) :
    Calls Try.prog 121 #[.slice a L c, .int .i64 A, .int .i64 S] w fun e w' => e = .returned (.tuple #[.int .i64 ((numOf ((l.drop p).take s) : Nat) : Int), .int .i64 ((p + s : Nat) : Int), .int .i64 0]) ∧ w = w' := by
  subst hL; subst hA; subst hS
  have hne : 0 < l.length := by omega
  obtain ⟨b, o, rfl, hlb, hat⟩ := src_bytes_at hs hne
  go_enter Try.func121, Try.ntmps121
  go_wp2_with fail
  rw [show p + s - p = s by omega]
  have hdl : ((l.drop p).take s).length = s := by simp; omega
  go_loop [6, 42] (fun v i => ∃ j : Nat, j ≤ s ∧ i = .int .i64 (j : Int) ∧ v = .int .i64 ((numOf ((l.drop p).take j) : Nat) : Int)) (fun _ i => s - (intOf i).toNat)
  case atStart => exact ⟨0, by omega, rfl, rfl⟩
  case round =>
    obtain ⟨j, hj, rfl, rfl⟩ := hrel
    by_cases hlt : j < s
    · have hc1 := hat (p + j) (by omega)
      rw [← Nat.add_assoc] at hc1
      have Htk : Hid (numOf ((l.drop p).take (j + 1)) = numOf ((l.drop p).take j) * 256 + (l[p + j]'(by omega)).toNat) := Lib.hid (by
        rw [numOf_take_succ _ j (by simp; omega)]; simp)
      have hv : numOf ((l.drop p).take j) < 281474976710656 := by
        have h8 := numOf_lt ((l.drop p).take j)
        have h9 : ((l.drop p).take j).length = j := by simp; omega
        rw [h9] at h8
        have h10 := Nat.pow_le_pow_right (n := 256) (by omega) (show j ≤ 6 by omega)
        have : (256 : Nat) ^ 6 = 281474976710656 := by decide
        omega
      generalize l[p + j]'(by omega) = x at hc1 Htk
      generalize numOf ((l.drop p).take j) = v at *
      have hor := or_byte v x hv
      have Hor := Lib.hid hor
      clear hor
      clear hat hs
      go_wp2
      go_round
      case rel => exact ⟨j + 1, by omega, by go_num, by rw [Hor.out, Htk.out]⟩
      case measure => simp [intOf] <;> omega
    · obtain rfl : j = s := by omega
      go_wp2
      go_ret3
      exact ⟨rfl, rfl⟩
end Go.Proofs.Ytclkkhpnnbkfmaa

/- crc.table: what it returns. -/
namespace Go.Proofs.Ytclkkhpnnbkfmaa
open Go.RowKit

def zeros256 : Array Value := Array.replicate 256 (.int .u32 0)
theorem zero256 (w : World) : (zeroValue 202).run Try.prog w = .ok (.agg zeros256) w := by kernel_rfl

set_option maxRecDepth 100000 in
set_option maxHeartbeats 1000000 in
theorem table_any (w : World) :
    Calls Try.prog 139 #[] w fun e w' => e = .returned (.agg tabv) ∧ Below w.heap.size w w' := by
  go_enter Try.func139, Try.ntmps139
  have hz := zero256
  go_wp2_with fail
  clear hz
  go_loopw [2,3,4,5,10] (fun a b c i j wr => ∃ k : Nat, k ≤ 256 ∧ i = .int .i64 k ∧ Below w.heap.size w wr ∧ (∃ z0, wr.heap[w.heap.size]? = some (.cells z0 202 (0,0)) ∧ z0.size = 256) ∧ ∃ cs, wr.heap[w.heap.size + 1]? = some (.cells cs 202 (0,0)) ∧ cs.size = 256 ∧ ∀ m, m < k → cs[m]? = tabv[m]?) (fun _ _ _ i _ _ => 256 - (intOf i).toNat)
  case atStart =>
    refine ⟨0, by omega, rfl, ((Below.refl _ _).alloc (Nat.le_refl _) _).alloc (by simp) _, ⟨zeros256, heap_alloc2_old _ _ _, by simp [zeros256]⟩, zeros256, heap_alloc2_new _ _ _, by simp [zeros256], fun m hm => by omega⟩
  case round =>
    obtain ⟨k, hk, rfl, hb, h0, cs, h1, h2, h3⟩ := hrel
    by_cases hlt : k < 256
    · go_wp2_with fail
      go_loop [3,4,10] (fun b c j => ∃ (j' : Nat), j' ≤ 8 ∧ j = .int .i64 j' ∧ b = .int .u32 (crcIter j' (BitVec.ofNat 32 k)).toNat) (fun _ _ i => 8 - (intOf i).toNat)
      case atStart => 
        refine ⟨0, by omega, rfl, ?_⟩
        rw [crcIter, BitVec.toNat_ofNat, Nat.mod_eq_of_lt (by omega)]
      case round =>
        obtain ⟨j, hj, rfl, rfl⟩ := hrel
        generalize hr : crcIter j (BitVec.ofNat 32 k) = r
        have Hr := Lib.hid hr
        clear hr
        by_cases hjt : j < 8
        · cases hl : r.getLsbD 0
          all_goals
            have hl' := lsb_and1 r
            rw [hl] at hl'
            go_wp2
            go_round
            case rel =>
              refine ⟨j + 1, by omega, by go_num, ?_⟩
              rw [crcIter, Hr.out]
              first | rw [step_one r hl] | rw [step_zero r hl]
            case measure => simp [intOf]; omega
        · have hj8 : j = 8 := by omega
          subst hj8
          have hc : wr.cell? ⟨w.heap.size + 1, k, none⟩ = some (cs[k]'(by omega)) := by rw [cell_of_row _ _ _ _ _ _ h1]; simp [h2, hlt]
          have hf := frozen_of_row wr (w.heap.size + 1) k cs _ h1
          go_wp2
          go_roundw
          case rel =>
            obtain ⟨z0, hz0, hz1⟩ := h0
            refine ⟨k + 1, by omega, by go_num, hb.setCell (by simp) _, ⟨z0, ?_, hz1⟩, cs.setIfInBounds k (.int .u32 r.toNat), heap_setCell_same wr _ k cs _ _ h1, by simpa using h2, fun m hm => ?_⟩
            · rw [heap_setCell_other _ _ _ _ (by simp)]; exact hz0
            · rw [Array.getElem?_setIfInBounds]
              split
              · rename_i e
                rw [← e, if_pos (by omega), tabv_get _ hlt, Hr.out]
              · exact h3 m (by omega)
          case measure => simp [intOf]; omega
    · have hk2 : k = 256 := by omega
      have hcs : cs = tabv := by
        apply Array.ext
        · rw [h2, tabv_size]
        · intro i hi1 hi2
          have := h3 i (by omega)
          rwa [Array.getElem?_eq_getElem hi1, Array.getElem?_eq_getElem hi2, Option.some.injEq] at this
      subst hcs
      obtain ⟨z0, hz0, hz1⟩ := h0
      clear hk2 h3
      go_wp2_with (first | (refine wpList_load_row rfl 202 _ rfl (w.heap.size + 1) rfl _ tabv _ _ h1 Try.underlying202 rfl (by kernel_rfl) ?_) | (refine wpList_store_row rfl rfl 202 _ _ rfl w.heap.size rfl _ z0 tabv rfl hz0 (by rw [hz1, tabv_size]) (by kernel_rfl) tabv_one ?_))
      exact bodyPost_ret (v := .agg tabv) (results_cell_row (p := 0) rfl _ _ w.heap.size _ tabv _ _ rfl (setRow_heap wr w.heap.size z0 tabv _ _ hz0) Try.underlying202 rfl (by kernel_rfl)) rfl ⟨rfl, bsetRow hb (Nat.le_refl _) _⟩
end Go.Proofs.Ytclkkhpnnbkfmaa

/- crc.Sum: what it returns. -/
namespace Go.Proofs.Ytclkkhpnnbkfmaa
open Go.RowKit

set_option maxRecDepth 100000 in
set_option maxHeartbeats 1000000 in
theorem sum_any (a : Option Addr) (c : Nat) (ps : List Bsl) (w : World) (hm : Mat w a ps) (hn : ps.length ≤ 9223372036854775807) :
    Calls Try.prog 131 #[.slice a ps.length c] w fun e w' => e = .returned (.int .u32 ((crc (flat ps)).toNat : Int)) ∧ Below w.heap.size w w' := by
  go_enter Try.func131, Try.ntmps131
  go_wp2_with fail
  refine (table_any w).mono ?_
  rintro e w1 ⟨rfl, hb1⟩
  have hm1 := hm.ext hb1
  have hz := zero256
  go_wp2_with (refine wpList_store_row rfl rfl 202 _ _ rfl w1.heap.size rfl 202 zeros256 tabv rfl (heap_alloc_new w1 _) (by rw [tabv_size]; simp [zeros256]) (by kernel_rfl) tabv_one ?_)
  clear hz
  have hA := ext_alloc w1 (.cells zeros256 202)
  have hb2 := bsetRow hA (Nat.le_refl w1.heap.size) tabv
  have hT := setRow_heap (w1.alloc (.cells zeros256 202)) w1.heap.size zeros256 tabv _ _ (heap_alloc_new w1 _)
  have hm2 := hm1.ext hb2
  have hb := bthen hb1 hb2 (Nat.le_refl _)
  clear hm hm1 hA hb1 hb2
  generalize hw2 : World.setRow (World.alloc w1 (.cells zeros256 202)) w1.heap.size tabv = w2 at hb hT hm2 ⊢
  generalize w1.heap.size = B at hT ⊢
  clear hw2
  have htab := fun x => tab_cell hT x
  clear hT
  go_loop [4, 12] (fun r i => ∃ k : Nat, k ≤ ps.length ∧ i = .int .i64 k ∧ r = .int .u32 ((crcReg crcAll (flat (ps.take k))).toNat : Int)) (fun _ i => ps.length - (intOf i).toNat)
  case atStart => exact ⟨0, by omega, rfl, rfl⟩
  case round =>
    obtain ⟨k, hk, rfl, rfl⟩ := hrel
    by_cases hlt : k < ps.length
    · have hrow := hm2.row _ (List.getElem_mem hlt)
      have htk := take_succ_list ps k hlt
      have hcell := hm2.at hlt
      generalize hp : ps[k] = p at hrow htk
      obtain ⟨b, o, rfl, hlb, hat⟩ := hcell
      have hc := hat k hlt
      rw [hp] at hc
      clear hat hp
      obtain ⟨pa, pc, l⟩ := p
      obtain ⟨hsrc, hl⟩ := hrow
      simp only at hc hsrc hl
      have Htk := Lib.hid htk
      clear htk
      generalize hR : crcReg crcAll (flat (ps.take k)) = R at *
      have HR := Lib.hid hR
      clear hR
      go_wp2_with fail
      go_loop [4, 18] (fun r i => ∃ j : Nat, j ≤ l.length ∧ i = .int .i64 j ∧ r = .int .u32 ((crcReg R (l.take j)).toNat : Int)) (fun _ i => l.length - (intOf i).toNat)
      case atStart => exact ⟨0, by omega, rfl, rfl⟩
      case round =>
        obtain ⟨j, hj, rfl, rfl⟩ := hrel
        by_cases hjt : j < l.length
        · obtain ⟨b', o', rfl, hlb', hat'⟩ := src_bytes_at hsrc hjt
          have hc' := hat' j hjt
          have hs : Hid (crcReg R (l.take (j + 1)) = crcOne (crcReg R (l.take j)) l[j]) := Lib.hid (by rw [take_succ_list l j hjt, crcReg_snoc])
          clear hat'
          generalize l[j] = x at hc' hs
          generalize crcReg R (l.take j) = q at hs ⊢
          obtain ⟨y, t, s, e1, e2, e3, e4⟩ := crc_round q x
          have ht := htab y
          rw [e2] at ht
          rw [e4] at hs
          clear e2 e4 htab
          go_wp2
          go_round
          case rel => exact ⟨j + 1, by omega, by go_num, by rw [hs.out]⟩
          case measure => simp [intOf]; omega
        · have hjl : j = l.length := by omega
          subst hjl
          clear htab
          go_wp2
          go_round
          case rel =>
            refine ⟨k + 1, by omega, by go_num, ?_⟩
            rw [Htk.out, flat_snoc, crcReg_append, HR.out, List.take_length]
          case measure => simp [intOf]; omega
    · have hkl : k = ps.length := by omega
      subst hkl
      rw [List.take_length]
      have hlast := crc_last (crcReg crcAll (flat ps))
      have hcrc : crcReg crcAll (flat ps) ^^^ crcAll = crc (flat ps) := rfl
      rw [hcrc] at hlast
      generalize hz : crc (flat ps) = z at hlast
      have Hz := Lib.hid hz
      clear hz hcrc htab
      generalize crcReg crcAll (flat ps) = y at *
      go_wp2
      go_ret
      exact ⟨by rw [Hz.out]; rfl, hb⟩
theorem sum_at (a : Option Addr) (c : Nat) (ps : List Bsl) (w : World) (n : Nat) (r : BitVec 32) (hm : Mat w a ps) (hn : n = ps.length) (hl : n ≤ 9223372036854775807) (hr : crc (flat ps) = r) :
    Calls Try.prog 131 #[.slice a n c] w fun e w' => e = .returned (.int .u32 (r.toNat : Int)) ∧ Below w.heap.size w w' := by
  subst hn; subst hr; exact sum_any a c ps w hm hl
end Go.Proofs.Ytclkkhpnnbkfmaa

/- crc.Bytes. -/
namespace Go.Proofs.Ytclkkhpnnbkfmaa
open Go.RowKit

theorem crcBytes_cells (z : BitVec 32) : #[Value.int IntKind.u8 ((z.toNat : Int) % 256), Value.int IntKind.u8 ((z.toNat : Int) / 256 % 256), Value.int IntKind.u8 ((z.toNat : Int) / 65536 % 256), Value.int IntKind.u8 ((z.toNat : Int) / 16777216)] = (bvs (crcBytesOf z)).toArray := by
  have h := z.isLt
  simp only [crcBytesOf, bvs, u8v, List.map_cons, List.map_nil, BitVec.toNat_setWidth, BitVec.toNat_ushiftRight, Nat.shiftRight_eq_div_pow]
  congr 1
  simp
  omega

set_option maxRecDepth 100000 in
set_option maxHeartbeats 1000000 in
theorem crcbytes_any (a : Option Addr) (c : Nat) (ps : List Bsl) (w : World) (hm : Mat w a ps) (hn : ps.length ≤ 9223372036854775807) :
    Calls Try.prog 114 #[.slice a ps.length c] w fun e w' => e = .returned (.agg (bvs (crcBytesOf (crc (flat ps)))).toArray) ∧ Below w.heap.size w w' := by
  go_enter Try.func114, Try.ntmps114
  go_wp2_with fail
  have hg0 := heap_alloc_new w (.cells #[.int .u8 0, .int .u8 0, .int .u8 0, .int .u8 0] 177)
  refine (sum_any a c ps _ (hm.ext (ext_alloc w _)) hn).mono ?_
  rintro e w1 ⟨rfl, hb1⟩
  generalize hz : crc (flat ps) = z
  have Hz := Lib.hid hz
  clear hz
  have hg := (hb1.block w.heap.size (by simp)).trans hg0
  go_wp2_with (refine wpList_store_row rfl rfl 177 (.tmp 2) (.tmp 17) rfl w.heap.size rfl 177 #[.int .u8 0, .int .u8 0, .int .u8 0, .int .u8 0] #[Value.int IntKind.u8 ((z.toNat : Int) % 256), Value.int IntKind.u8 ((z.toNat : Int) / 256 % 256), Value.int IntKind.u8 ((z.toNat : Int) / 65536 % 256), Value.int IntKind.u8 ((z.toNat : Int) / 16777216)] rfl hg rfl (by kernel_rfl) (by simp [Value.oneCell']) ?_)
  rw [crcBytes_cells]
  exact bodyPost_ret (v := .agg _) (results_cell_row (p := 2) rfl _ _ w.heap.size _ (bvs (crcBytesOf z)).toArray _ _ rfl (setRow_heap w1 w.heap.size _ _ _ _ hg) Try.underlying177 rfl (by kernel_rfl)) rfl
    ⟨by rw [Hz.out], bsetRow ((ext_alloc w _).trans (hb1.mono (by simp))) (Nat.le_refl _) _⟩

theorem crcbytes_at (a : Option Addr) (c : Nat) (ps : List Bsl) (w : World) (n : Nat) (r : BitVec 32) (hm : Mat w a ps) (hn : n = ps.length) (hl : n ≤ 9223372036854775807) (hr : crc (flat ps) = r) :
    Calls Try.prog 114 #[.slice a n c] w fun e w' => e = .returned (.agg (bvs (crcBytesOf r)).toArray) ∧ Below w.heap.size w w' := by
  subst hn; subst hr; exact crcbytes_any a c ps w hm hl
end Go.Proofs.Ytclkkhpnnbkfmaa
