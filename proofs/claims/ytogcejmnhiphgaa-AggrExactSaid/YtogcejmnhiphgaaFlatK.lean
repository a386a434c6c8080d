/- cellarerlaw02.Flat. -/
import Derived.Test.YtogcejmnhiphgaaKeep
import Derived.Test.YtogcejmnhiphgaaProg
namespace Go.Proofs.Ytogcejmnhiphgaa
open Go.RowKit

theorem flatg_le (ps : List Bsl) (k : Nat) (hp : ∀ p ∈ ps, p.l.length ≤ 300) : (flat (ps.take k)).length ≤ k * 300 := by
  induction k generalizing ps with
  | zero => simp [flat]
  | succ k ih =>
    cases ps with
    | nil => simp [flat]
    | cons p ps =>
      have h1 := hp p (by simp)
      have h2 := ih ps (fun q hq => hp q (by simp [hq]))
      simp [flat] at h2 ⊢
      omega
set_option maxHeartbeats 1000000 in
theorem flatg_any (a : Option Addr) (c : Nat) (ps : List Bsl) (w : World) (hm : Mat w a ps) (hn : ps.length ≤ 1000000) (hp : ∀ p ∈ ps, p.l.length ≤ 300) :
    Calls Try.prog 18 #[.slice a ps.length c] w fun e w' => ∃ a' c', e = .returned (.slice a' (flat ps).length c') ∧ Own w' w.heap.size 5 1 a' (flat ps).length c' (bvs (flat ps)) ∧ Below w.heap.size w w' := by
  obtain ⟨i0, hi, hz0, hz1, hz2⟩ := info_parts info8
  go_enter Try.func18, Try.ntmps18
  go_wp2_with fail
  go_loopw [3, 4] (fun v i wr => ∃ k a' c', k ≤ ps.length ∧ i = .int .i64 (k : Nat) ∧ v = .slice a' (flat (ps.take k)).length c' ∧ Own wr w.heap.size 5 1 a' (flat (ps.take k)).length c' (bvs (flat (ps.take k))) ∧ Below w.heap.size w wr) (fun _ i _ => ps.length - (intOf i).toNat)
  case atStart => exact ⟨0, none, 0, by omega, rfl, rfl, Own.nil _ _ _ _ _, Below.refl _ _⟩
  case round =>
    obtain ⟨k, a', c', hk, rfl, rfl, hown, hb⟩ := hrel
    by_cases hlt : k < ps.length
    · have hm2 := hm.ext hb
      have hrow := hm2.row _ (List.getElem_mem hlt)
      have Htk := Lib.hid (congrArg flat (take_succ_list ps k hlt))
      obtain ⟨b, o, rfl, hlb, hat⟩ := hm2.at hlt
      have hc := hat k hlt
      clear hat
      have hbd := flatg_le ps k hp
      have hpl := hp _ (List.getElem_mem hlt)
      generalize hpp : ps[k] = p at *
      have Hpp := Lib.hid hpp
      clear hpp
      obtain ⟨pa, pc, l⟩ := p
      obtain ⟨hsrc, hl⟩ := hrow
      simp only at hc hsrc hl hpl
      generalize hf : flat (ps.take k) = f at *
      have Hf := Lib.hid hf
      clear hf
      have hkk : k * 300 ≤ 300000000 := by omega
      go_wp2_with (refine wpList_app rfl (.tmp 11) (.tmp 15) 34 rfl w.heap.size 5 i0 (.int .u8 0) 1 1 Try.underlying34 hi hz0 hz1 hz2 rfl (by decide) a' f.length c' (bvs f) rfl hown pa l.length pc (bvs l) rfl (by simp) hsrc (bvs_one l) (by unfold maxLen; omega) (by omega) hb.size ?_; intro a2 c2 w2 hown2 hb2)
      go_roundw
      case rel =>
        have e : flat (ps.take (k + 1)) = f ++ l := by rw [Htk.out, flat_snoc, Hf.out]
        exact ⟨k + 1, a2, c2, by omega, by go_num, by rw [e, List.length_append], by rw [e, List.length_append, bvs_append]; exact hown2, hb.trans hb2⟩
      case measure => simp [intOf]; omega
    · have hkl : k = ps.length := by omega
      subst hkl
      rw [List.take_length] at hown ⊢
      go_wp2
      go_ret
      exact ⟨a', c', rfl, hown, hb⟩
theorem flatg_at (a : Option Addr) (c n : Nat) (ps : List Bsl) (w : World) (hm : Mat w a ps) (hn : n = ps.length) (hn2 : ps.length ≤ 1000000) (hp : ∀ p ∈ ps, p.l.length ≤ 300) {l : List Byte} {L : Nat} (hl : flat ps = l) (hL : L = l.length) :
    Calls Try.prog 18 #[.slice a n c] w fun e w' => ∃ a' c', e = .returned (.slice a' L c') ∧ Own w' w.heap.size 5 1 a' L c' (bvs l) ∧ Below w.heap.size w w' := by
  subst hn hl hL
  exact flatg_any a c ps w hm hn2 hp
end Go.Proofs.Ytogcejmnhiphgaa
