/- cellarerkeep.Rows. -/
import Derived.Test.YtogcejmnhiphgaaKeep
namespace Go.Proofs.Ytogcejmnhiphgaa
open Go.RowKit

set_option maxHeartbeats 1000000 in
theorem rows_any (a : Option Addr) (ca : Nat) (ps : List Bsl) (b : Option Addr) (cb : Nat) (qs : List Bsl) (w : World) (n m : Nat) (ha : Mat w a ps) (hb : Mat w b qs)
    (hn : n = ps.length) (hm : m = qs.length) (hla : ps.length ≤ 9223372036854775807) (hlb : qs.length ≤ 9223372036854775807) :
    Calls Try.prog 22 #[.slice a n ca, .slice b m cb] w fun e w' => e = .returned (.bool (decide (ps.map Bsl.l = qs.map Bsl.l))) ∧ ∃ n, w' = w.drewN n := by
  subst hn; subst hm
  by_cases hlen : ps.length = qs.length
  · have h1 : (((ps.length : Nat) : Int) != ((qs.length : Nat) : Int)) = false := by simp [hlen]
    have Hlen := Lib.hid hlen
    clear hlen
    go_enter Try.func22, Try.ntmps22
    go_wp2_with fail
    go_loopw [5] (fun i wr => ∃ k n : Nat, k ≤ ps.length ∧ i = .int .i64 k ∧ wr = w.drewN n ∧ (ps.take k).map Bsl.l = (qs.take k).map Bsl.l) (fun i _ => ps.length - (intOf i).toNat)
    case atStart => exact ⟨0, 0, by omega, rfl, rfl, by simp⟩
    case round =>
      rename_i wr
      obtain ⟨k, n, hk, rfl, hwr, heq⟩ := hrel
      have Heq := Lib.hid heq
      clear heq
      have ha : Mat wr a ps := by rw [hwr]; exact ha.ext (ext_drewN w n _)
      have hb : Mat wr b qs := by rw [hwr]; exact hb.ext (ext_drewN w n _)
      have Hwr := Lib.hid hwr
      clear hwr
      by_cases hlt : k < ps.length
      · have hlt2 : k < qs.length := by have := Hlen.out; omega
        have hr1 := ha.row _ (List.getElem_mem hlt)
        have hr2 := hb.row _ (List.getElem_mem hlt2)
        obtain ⟨b1, o1, rfl, _, hat1⟩ := ha.at hlt
        obtain ⟨b2, o2, rfl, _, hat2⟩ := hb.at hlt2
        have hc1 := hat1 k hlt
        have hc2 := hat2 k hlt2
        have i1 : (k : Int) < (ps.length : Int) := by omega
        have i2 : (k : Int) < (qs.length : Int) := by omega
        have Ha := Lib.hid (take_succ_list ps k hlt)
        have Hb := Lib.hid (take_succ_list qs k hlt2)
        clear hat1 hat2
        generalize hx : ps[k] = x at hc1 Ha hr1
        generalize hy : qs[k] = y at hc2 Hb hr2
        have Hx := Lib.hid hx
        have Hy := Lib.hid hy
        clear hx hy
        obtain ⟨pa, pc, l⟩ := x
        obtain ⟨qa, qc, m⟩ := y
        obtain ⟨hs1, hl1⟩ := hr1
        obtain ⟨hs2, hl2⟩ := hr2
        simp only at hc1 hc2 hs1 hs2 hl1 hl2
        have hcall : ∀ nq, Calls Try.prog 17 #[.slice pa l.length pc, .slice qa m.length qc] (wr.drewN nq) fun e w' => e = .returned (.bool (decide (l = m))) ∧ ∃ n, w' = (wr.drewN nq).drewN n :=
          fun nq => bytes_any pa pc l qa qc m _ (hs1.ext (ext_drewN wr nq _)) (hs2.ext (ext_drewN wr nq _)) hl1 hl2
        have Hcall := Lib.hid hcall
        clear hcall
        by_cases hxy : l = m
        · have Hxy : Hid (l = m) := Lib.hid hxy
          rw [decide_eq_true hxy] at Hcall
          clear hxy
          go_wp2_with fail
          go_quiet ((go_at_call 17; exact Calls.quiet_of (Hcall.out _)))
          go_wp2
          go_roundw
          case rel => exact ⟨k + 1, _, by omega, by go_num, by rw [Hwr.out, World.drewN_drewN], by rw [Ha.out, Hb.out, List.map_append, List.map_append, Heq.out]; simp [Hxy.out]⟩
          case measure => simp [intOf]; omega
        · have Hxy : Hid (l ≠ m) := Lib.hid hxy
          rw [decide_eq_false hxy] at Hcall
          clear hxy
          go_wp2_with fail
          go_quiet ((go_at_call 17; exact Calls.quiet_of (Hcall.out _)))
          go_wp2
          go_ret
          refine ⟨?_, _, by rw [Hwr.out, World.drewN_drewN]⟩
          rw [decide_eq_false (fun h => Hxy.out ?_)]
          · rfl
          · have h2 := congrArg (fun t => t[k]?) h
            simp only [List.getElem?_map, List.getElem?_eq_getElem hlt, List.getElem?_eq_getElem hlt2, Option.map_some, Option.some.injEq] at h2
            rw [Hx.out, Hy.out] at h2
            exact h2
      · have hkl : k = ps.length := by omega
        have hfin : ps.map Bsl.l = qs.map Bsl.l := by
          have := Heq.out
          rw [hkl, List.take_length, Hlen.out, List.take_length] at this
          exact this
        have Hfin := Lib.hid hfin
        clear hfin hkl
        go_wp2
        go_ret
        exact ⟨by rw [decide_eq_true Hfin.out]; rfl, _, Hwr.out⟩
  · have h1 : (((ps.length : Nat) : Int) != ((qs.length : Nat) : Int)) = true := by simp; omega
    go_enter Try.func22, Try.ntmps22
    go_wp2
    go_ret
    exact ⟨by rw [decide_eq_false (fun h => hlen (by simpa using congrArg List.length h))]; rfl, 0, rfl⟩
end Go.Proofs.Ytogcejmnhiphgaa
