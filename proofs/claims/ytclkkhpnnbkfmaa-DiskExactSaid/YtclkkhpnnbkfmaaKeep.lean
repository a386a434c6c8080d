/- cellarerkeep.Twin, cellarerkeep.Bytes, slices.Clone of bytes. -/
import Derived.Test.YtclkkhpnnbkfmaaProg
import Derived.Test.YtclkkhpnnbkfmaaBase
import Derived.Outline
import Derived.Deep.QuietTactic
import Derived.BigQuiet
namespace Go.Proofs.Ytclkkhpnnbkfmaa
open Go.RowKit

theorem info8 : (Try.prog.info? 5).map (fun i => (i.zero, i.size, i.bytes)) = some (some (.int .u8 0), 1, 1) := by kernel_rfl

set_option maxHeartbeats 400000 in
theorem twin_any (a : Option Addr) (c : Nat) (l : List Byte) (w : World) (hs : Src w a (bvs l)) (hl : l.length ≤ 140737488355328) :
    Calls Try.prog 28 #[.slice a l.length c] w fun e w' => ∃ a' c', e = .returned (.slice a' l.length c') ∧ Own w' w.heap.size 5 1 a' l.length c' (bvs l) ∧ Below w.heap.size w w' := by
  obtain ⟨i0, hi, hz0, hz1, hz2⟩ := info_parts info8
  go_enter Try.func28, Try.ntmps28
  go_wp2_with (refine wpList_app rfl (.tmp 4) (.tmp 5) 50 rfl w.heap.size 5 i0 (.int .u8 0) 1 1 Try.underlying50 hi hz0 hz1 hz2 rfl (by decide) none 0 0 [] rfl (Own.nil _ _ _ _ _) a l.length c (bvs l) rfl (by simp) hs (bvs_one l) (by unfold maxLen; omega) (by omega) (Nat.le_refl _) ?_; simp only [Nat.zero_add, List.nil_append]; intro a' c' w' hown hb)
  go_ret
  exact ⟨a', c', rfl, hown, hb⟩

set_option maxHeartbeats 400000 in
theorem clone_any (a : Option Addr) (c : Nat) (l : List Byte) (w : World) (hs : Src w a (bvs l)) (hl : l.length ≤ 140737488355328) :
    Calls Try.prog 81 #[.slice a l.length c] w fun e w' => ∃ a' c', e = .returned (.slice a' l.length c') ∧ Own w' w.heap.size 5 1 a' l.length c' (bvs l) ∧ Below w.heap.size w w' := by
  obtain ⟨i0, hi, hz0, hz1, hz2⟩ := info_parts info8
  go_enter Try.func81, Try.ntmps81
  have hnil := fun (wx : World) (aa : Option Addr) (n cc : Nat) => Lib.run_eql_slice_nil (P := Try.prog) wx 50 5 aa n cc 0 0 Try.underlying50
  cases a with
  | none =>
    have h0 : l = [] := by
      rcases hs with h | ⟨b, o, cs, T, m, ha, _⟩
      · simpa [bvs] using h
      · cases ha
    subst h0
    go_wp2
    go_ret
    exact ⟨none, 0, rfl, Own.nil _ _ _ _ _, Below.refl _ _⟩
  | some ad =>
    go_wp2_with (refine wpList_app rfl (.tmp 5) (.tmp 6) 50 rfl w.heap.size 5 i0 (.int .u8 0) 1 1 Try.underlying50 hi hz0 hz1 hz2 rfl (by decide) (some ⟨w.heap.size, 0, none⟩) 0 0 [] rfl (Own.nil _ _ _ _ _) (some ad) l.length c (bvs l) rfl (by simp) (hs.ext (ext_alloc w _)) (bvs_one l) (by unfold maxLen; omega) (by omega) (by simp) ?_; simp only [Nat.zero_add, List.nil_append]; intro a' c' w' hown hb)
    go_ret
    exact ⟨a', c', rfl, hown, (ext_alloc w _).trans hb⟩

set_option maxHeartbeats 400000 in
theorem bytes_any (a : Option Addr) (ca : Nat) (la : List Byte) (b : Option Addr) (cb : Nat) (lb : List Byte) (w : World) (ha : Src w a (bvs la)) (hb : Src w b (bvs lb))
    (hla : la.length ≤ 9223372036854775807) (hlb : lb.length ≤ 9223372036854775807) :
    Calls Try.prog 17 #[.slice a la.length ca, .slice b lb.length cb] w fun e w' => e = .returned (.bool (decide (la = lb))) ∧ ∃ n, w' = w.drewN n := by
  by_cases hlen : la.length = lb.length
  · have h1 : (((la.length : Nat) : Int) != ((lb.length : Nat) : Int)) = false := by simp [hlen]
    have Hlen := Lib.hid hlen
    clear hlen
    go_enter Try.func17, Try.ntmps17
    go_wp2_with fail
    go_loopw [5] (fun i wr => ∃ k n : Nat, k ≤ la.length ∧ i = .int .i64 k ∧ wr = w.drewN n ∧ la.take k = lb.take k) (fun i _ => la.length - (intOf i).toNat)
    case atStart => exact ⟨0, 0, by omega, rfl, rfl, by simp⟩
    case round =>
      obtain ⟨k, n, hk, rfl, rfl, heq⟩ := hrel
      have Heq := Lib.hid heq
      clear heq
      by_cases hlt : k < la.length
      · have hlt2 : k < lb.length := by have := Hlen.out; omega
        obtain ⟨b1, o1, rfl, _, hat1⟩ := src_bytes_at ha hlt
        obtain ⟨b2, o2, rfl, _, hat2⟩ := src_bytes_at hb hlt2
        have hc1 := hat1 k hlt
        have hc2 := hat2 k hlt2
        have i1 : (k : Int) < (la.length : Int) := by omega
        have i2 : (k : Int) < (lb.length : Int) := by omega
        have Ha := Lib.hid (take_succ_list la k hlt)
        have Hb := Lib.hid (take_succ_list lb k hlt2)
        clear hat1 hat2
        generalize hx : la[k] = x at hc1 Ha
        generalize hy : lb[k] = y at hc2 Hb
        have Hx := Lib.hid hx
        have Hy := Lib.hid hy
        clear hx hy
        by_cases hxy : x = y
        · have e1 : ((x.toNat : Int) != (y.toNat : Int)) = false := by simp [hxy]
          have Hxy := Lib.hid hxy
          clear hxy
          go_wp2_with fail
          go_quiet (fail)
          go_wp2
          go_roundw
          case rel => exact ⟨k + 1, n + nq, by omega, by go_num, rfl, by rw [Ha.out, Hb.out, Heq.out, Hxy.out]⟩
          case measure => simp [intOf]; omega
        · have e1 : ((x.toNat : Int) != (y.toNat : Int)) = true := by
            have : x.toNat ≠ y.toNat := fun h => hxy (BitVec.eq_of_toNat_eq h)
            simp; omega
          go_wp2_with fail
          go_quiet (fail)
          go_wp2
          go_ret
          refine ⟨?_, n + nq, by simp⟩
          rw [decide_eq_false (fun h => hxy ?_)]
          · rfl
          · subst h
            exact Hx.out.symm.trans Hy.out
      · have hkl : k = la.length := by omega
        have hfin : la = lb := by
          have := Heq.out
          rw [hkl, List.take_length, Hlen.out, List.take_length] at this
          exact this
        have Hfin := Lib.hid hfin
        clear hfin hkl
        go_wp2
        go_ret
        exact ⟨by rw [decide_eq_true Hfin.out]; rfl, _, rfl⟩
  · have h1 : (((la.length : Nat) : Int) != ((lb.length : Nat) : Int)) = true := by simp; omega
    go_enter Try.func17, Try.ntmps17
    go_wp2
    go_ret
    exact ⟨by rw [decide_eq_false (fun h => hlen (by rw [h]))]; rfl, 0, rfl⟩
theorem bytes_at (a : Option Addr) (ca : Nat) (la : List Byte) (b : Option Addr) (cb : Nat) (lb : List Byte) (w : World) (n m : Nat) (r : Bool) (ha : Src w a (bvs la)) (hb : Src w b (bvs lb))
    (hn : n = la.length) (hm : m = lb.length) (hla : n ≤ 9223372036854775807) (hlb : m ≤ 9223372036854775807) (hr : decide (la = lb) = r) :
    Calls Try.prog 17 #[.slice a n ca, .slice b m cb] w fun e w' => e = .returned (.bool r) ∧ ∃ n, w' = w.drewN n := by
  subst hn; subst hm; subst hr; exact bytes_any a ca la b cb lb w ha hb hla hlb
theorem clone_at (a : Option Addr) (c n : Nat) (l : List Byte) (w : World) (hs : Src w a (bvs l)) (hn : n = l.length) (hl : n ≤ 140737488355328) :
    Calls Try.prog 81 #[.slice a n c] w fun e w' => ∃ a' c', e = .returned (.slice a' n c') ∧ Own w' w.heap.size 5 1 a' n c' (bvs l) ∧ Below w.heap.size w w' := by
  subst hn; exact clone_any a c l w hs hl
theorem twin_at (a : Option Addr) (c n : Nat) (l : List Byte) (w : World) (hs : Src w a (bvs l)) (hn : n = l.length) (hl : n ≤ 140737488355328) :
    Calls Try.prog 28 #[.slice a n c] w fun e w' => ∃ a' c', e = .returned (.slice a' n c') ∧ Own w' w.heap.size 5 1 a' n c' (bvs l) ∧ Below w.heap.size w w' := by
  subst hn; exact twin_any a c l w hs hl
end Go.Proofs.Ytclkkhpnnbkfmaa
