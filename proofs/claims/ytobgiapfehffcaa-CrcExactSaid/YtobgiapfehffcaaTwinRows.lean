/- cellarerkeep.TwinRows, Rows. -/
import Derived.Test.YtobgiapfehffcaaKeep
namespace Go.Proofs.Ytobgiapfehffcaa
open Go.RowKit

theorem infoRow : (Try.prog.info? 22).map (fun i => (i.zero, i.size, i.bytes)) = some (some (.slice none 0 0), 1, 24) := by kernel_rfl

def lens (ps : List Bsl) (m : Nat) : Prop := ∀ p ∈ ps, p.l.length ≤ m

set_option maxHeartbeats 1000000 in
theorem twinrows_any (a : Option Addr) (c : Nat) (ps : List Bsl) (w : World) (hm : Mat w a ps) (hn : ps.length ≤ 1000000) (hp : lens ps 140737488355328) :
    Calls Try.prog 19 #[.slice a ps.length c] w fun e w' => ∃ (a' : Option Addr) (c' : Nat) (qs : List Bsl), e = .returned (.slice a' ps.length c') ∧ qs.map Bsl.l = ps.map Bsl.l ∧
      Own w' w.heap.size 22 1 a' ps.length c' (qs.map Bsl.val) ∧ (∀ q ∈ qs, Own w' w.heap.size 5 1 q.a q.l.length q.c (bvs q.l)) ∧ Below w.heap.size w w' := by
  obtain ⟨i0, hi, hz0, hz1, hz2⟩ := info_parts infoRow
  go_enter Try.func19, Try.ntmps19
  go_wp2_with fail
  go_loopw [3, 4] (fun v i wr => ∃ (k : Nat) (a' : Option Addr) (c' : Nat) (qs : List Bsl), k ≤ ps.length ∧ i = .int .i64 k ∧ v = .slice a' k c' ∧ qs.map Bsl.l = (ps.take k).map Bsl.l ∧
    Own wr w.heap.size 22 1 a' k c' (qs.map Bsl.val) ∧ (∀ q ∈ qs, Own wr w.heap.size 5 1 q.a q.l.length q.c (bvs q.l)) ∧ Below w.heap.size w wr) (fun _ i _ => ps.length - (intOf i).toNat)
  case atStart => exact ⟨0, none, 0, [], by omega, rfl, rfl, rfl, Own.nil _ _ _ _ _, by simp, Below.refl _ _⟩
  case round =>
    obtain ⟨k, a', c', qs, hk, rfl, rfl, hql, hown, hq, hb⟩ := hrel
    have Hql := Lib.hid hql
    clear hql
    by_cases hlt : k < ps.length
    · have hm2 := hm.ext hb
      have hrow := hm2.row _ (List.getElem_mem hlt)
      have hpl := hp _ (List.getElem_mem hlt)
      have Htk := Lib.hid (take_succ_list ps k hlt)
      obtain ⟨b, o, rfl, hlb, hat⟩ := hm2.at hlt
      have hc := hat k hlt
      clear hat
      generalize hpp : ps[k] = p at *
      clear hpp
      obtain ⟨pa, pc, l⟩ := p
      obtain ⟨hsrc, hl⟩ := hrow
      simp only at hc hsrc hl hpl
      go_wp2_with fail
      refine (twin_any pa pc l _ hsrc hpl).mono ?_
      rintro e w1 ⟨a1, c1, rfl, hown1, hb1⟩
      have hown2 := hown.ext hb1
      have hbb := bthen hb hb1 (Nat.le_refl _)
      have hsz := hbb.size
      go_wp2_with (refine wpList_appx rfl (.tmp 11) (.tmp 17) 31 rfl w.heap.size 22 i0 (.slice none 0 0) 1 24 Try.underlying31 hi hz0 hz1 hz2 rfl (by decide) a' k c' (qs.map Bsl.val) rfl (hown2.ext (ext_alloc _ _)) (some ⟨w1.heap.size, 0, none⟩) 1 1 [Bsl.val ⟨a1, c1, l⟩] rfl rfl (src_new w1 _ _) (by simp [Bsl.val, Value.oneCell']) (by unfold maxLen; omega) (by omega) (by rw [World.size_alloc]; omega) ?_; intro a2 c2 w2 hown3 hb2 hfr)
      go_roundw
      case rel =>
        refine ⟨k + 1, a2, c2, qs ++ [⟨a1, c1, l⟩], by omega, by go_num, rfl, by rw [Htk.out]; simp [Hql.out], by simpa using hown3, ?_, (hbb.alloc hsz _).trans hb2⟩
        intro q hqq
        rcases List.mem_append.1 hqq with h | h
        · exact ((hq q h).ext hb1 |>.ext (ext_alloc _ _)).other (hown2.ext (ext_alloc _ _)) (by decide) hfr
        · simp at h
          subst h
          exact ((hown1.mono hb.size).ext (ext_alloc _ _)).other (hown2.ext (ext_alloc _ _)) (by decide) hfr
      case measure => simp [intOf]; omega
    · obtain rfl : k = ps.length := by omega
      go_wp2
      go_ret
      exact ⟨a', c', qs, rfl, by rw [Hql.out, List.take_length], hown, hq, hb⟩

set_option maxHeartbeats 1000000 in
theorem rows_any (a : Option Addr) (ca : Nat) (ps : List Bsl) (b : Option Addr) (cb : Nat) (qs : List Bsl) (w : World) (n m : Nat) (ha : Mat w a ps) (hb : Mat w b qs)
    (hn : n = ps.length) (hm : m = qs.length) (hla : ps.length ≤ 9223372036854775807) (hlb : qs.length ≤ 9223372036854775807) :
    Calls Try.prog 24 #[.slice a n ca, .slice b m cb] w fun e w' => e = .returned (.bool (decide (ps.map Bsl.l = qs.map Bsl.l))) ∧ ∃ n, w' = w.drewN n := by
  subst hn; subst hm
  by_cases hlen : ps.length = qs.length
  · have h1 : (((ps.length : Nat) : Int) != ((qs.length : Nat) : Int)) = false := by simp [hlen]
    have Hlen := Lib.hid hlen
    clear hlen
    go_enter Try.func24, Try.ntmps24
    go_wp2_with fail
    go_loopw [5] (fun i wr => ∃ k n : Nat, k ≤ ps.length ∧ i = .int .i64 k ∧ wr = w.drewN n ∧ (ps.take k).map Bsl.l = (qs.take k).map Bsl.l) (fun i _ => ps.length - (intOf i).toNat)
    case atStart => exact ⟨0, 0, by omega, rfl, rfl, by simp⟩
    case round =>
      rename_i wr
      obtain ⟨k, n, hk, rfl, hwr, heq⟩ := hrel
      have Heq := Lib.hid heq
      clear heq
      have ha : Mat wr a ps := by rw [hwr]; exact ha.ext (ext_drewN w n _)
      have hb : Mat wr b qs := by rw [hwr]; exact hb.ext (ext_drewN w n _)
      have Hwr := Lib.hid hwr
      clear hwr
      by_cases hlt : k < ps.length
      · have hlt2 : k < qs.length := by have := Hlen.out; omega
        have hr1 := ha.row _ (List.getElem_mem hlt)
        have hr2 := hb.row _ (List.getElem_mem hlt2)
        obtain ⟨b1, o1, rfl, _, hat1⟩ := ha.at hlt
        obtain ⟨b2, o2, rfl, _, hat2⟩ := hb.at hlt2
        have hc1 := hat1 k hlt
        have hc2 := hat2 k hlt2
        have i1 : (k : Int) < (ps.length : Int) := by omega
        have i2 : (k : Int) < (qs.length : Int) := by omega
        have Ha := Lib.hid (take_succ_list ps k hlt)
        have Hb := Lib.hid (take_succ_list qs k hlt2)
        clear hat1 hat2
        generalize hx : ps[k] = x at hc1 Ha hr1
        generalize hy : qs[k] = y at hc2 Hb hr2
        have Hx := Lib.hid hx
        have Hy := Lib.hid hy
        clear hx hy
        obtain ⟨pa, pc, l⟩ := x
        obtain ⟨qa, qc, m⟩ := y
        obtain ⟨hs1, hl1⟩ := hr1
        obtain ⟨hs2, hl2⟩ := hr2
        simp only at hc1 hc2 hs1 hs2 hl1 hl2
        have hcall : ∀ nq, Calls Try.prog 16 #[.slice pa l.length pc, .slice qa m.length qc] (wr.drewN nq) fun e w' => e = .returned (.bool (decide (l = m))) ∧ ∃ n, w' = (wr.drewN nq).drewN n :=
          fun nq => bytes_any pa pc l qa qc m _ (hs1.ext (ext_drewN wr nq _)) (hs2.ext (ext_drewN wr nq _)) hl1 hl2
        have Hcall := Lib.hid hcall
        clear hcall
        by_cases hxy : l = m
        · have Hxy : Hid (l = m) := Lib.hid hxy
          rw [decide_eq_true hxy] at Hcall
          clear hxy
          go_wp2_with fail
          go_quiet ((go_at_call 16; exact Calls.quiet_of (Hcall.out _)))
          go_wp2
          go_roundw
          case rel => exact ⟨k + 1, _, by omega, by go_num, by rw [Hwr.out, World.drewN_drewN], by rw [Ha.out, Hb.out, List.map_append, List.map_append, Heq.out]; simp [Hxy.out]⟩
          case measure => simp [intOf]; omega
        · have Hxy : Hid (l ≠ m) := Lib.hid hxy
          rw [decide_eq_false hxy] at Hcall
          clear hxy
          go_wp2_with fail
          go_quiet ((go_at_call 16; exact Calls.quiet_of (Hcall.out _)))
          go_wp2
          go_ret
          refine ⟨?_, _, by rw [Hwr.out, World.drewN_drewN]⟩
          rw [decide_eq_false (fun h => Hxy.out ?_)]
          · rfl
          · have h2 := congrArg (fun t => t[k]?) h
            simp only [List.getElem?_map, List.getElem?_eq_getElem hlt, List.getElem?_eq_getElem hlt2, Option.map_some, Option.some.injEq] at h2
            rw [Hx.out, Hy.out] at h2
            exact h2
      · have hkl : k = ps.length := by omega
        have hfin : ps.map Bsl.l = qs.map Bsl.l := by
          have := Heq.out
          rw [hkl, List.take_length, Hlen.out, List.take_length] at this
          exact this
        have Hfin := Lib.hid hfin
        clear hfin hkl
        go_wp2
        go_ret
        exact ⟨by rw [decide_eq_true Hfin.out]; rfl, _, Hwr.out⟩
  · have h1 : (((ps.length : Nat) : Int) != ((qs.length : Nat) : Int)) = true := by simp; omega
    go_enter Try.func24, Try.ntmps24
    go_wp2
    go_ret
    exact ⟨by rw [decide_eq_false (fun h => hlen (by simpa using congrArg List.length h))]; rfl, 0, rfl⟩
end Go.Proofs.Ytobgiapfehffcaa
