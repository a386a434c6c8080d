/- The page's Join. -/
import Derived.Test.YtffcpjhokfjhfaaRefFrame
namespace Go.Proofs.Ytffcpjhokfjhfaa
open Go.RowKit

set_option maxRecDepth 100000

set_option maxHeartbeats 4000000 in
theorem refjoin_at (a : Option Addr) (c n : Nat) (rs : List RecV) (E : Int) (l : List Byte) (Ll : Nat) (w : World) (ha : RMat w a rs) (hn : n = rs.length) (hl : n ≤ 100000) (hE : joinE (recs rs) = E) (hB : joinR (recs rs) = l) (hLl : l.length = Ll) :
    Calls Try.prog 18 #[.slice a n c] w fun e w' => ∃ a' c', e = .returned (.tuple #[.slice a' Ll c', .int .i64 E]) ∧ Own w' w.heap.size 5 1 a' Ll c' (bvs l) ∧ Below w.heap.size w w' := by
  obtain ⟨i0, hi, hz0, hz1, hz2⟩ := info_parts info8
  have HN := Lib.hid hn
  have HE := Lib.hid hE
  have HB := Lib.hid hB
  have HLl := Lib.hid hLl
  clear hn hE hB hLl
  go_enter Try.func18, Try.ntmps18
  go_wp2_with fail
  go_loopw [4, 5] (fun v i wr => ∃ (k : Nat) (a' : Option Addr) (c' : Nat), k ≤ n ∧ i = .int .i64 k ∧ v = .slice a' (joinB ((recs rs).take k)).length c' ∧ Own wr w.heap.size 5 1 a' (joinB ((recs rs).take k)).length c' (bvs (joinB ((recs rs).take k))) ∧ Below w.heap.size w wr ∧ (∀ r ∈ (recs rs).take k, r.e = 0)) (fun _ i _ => n - (intOf i).toNat)
  case atStart => exact ⟨0, none, 0, by omega, rfl, rfl, Own.nil _ _ _ _ _, Below.refl _ _, by simp⟩
  case round =>
    rename_i wr
    obtain ⟨k, a', c', hk, rfl, rfl, hown, hbr, hall⟩ := hrel
    have hXl := joinB_le _ hall
    have hXl2 : ((recs rs).take k).length ≤ k := by simp; omega
    by_cases hlt : k < n
    · have har := ha.ext hbr
      have hkr : k < rs.length := by have := HN.out; omega
      obtain ⟨b1, o1, rfl, hltb1, hat1⟩ := har.at (i := k) hkr
      obtain ⟨c0, c1, c2⟩ := hat1 k hkr
      have hr0 := ha.row rs[k] (List.getElem_mem hkr)
      have Htk := Lib.hid (recs_take_succ rs k hkr)
      have HEk : Hid (rs[k].pl.e ≠ 0 → E = rs[k].pl.e ∧ l = []) := Lib.hid fun hne => by
        have h1 := joinE_at (l := recs rs) (k := k) (by simpa using hkr) hall (by simpa [recs] using hne)
        rw [HE.out] at h1
        have h2 : (recs rs)[k]'(by simpa using hkr) = rs[k].pl := by simp [recs]
        rw [h2] at h1
        refine ⟨h1, ?_⟩
        rw [← HB.out, joinR, if_neg (by rw [HE.out, h1]; exact hne)]
      have HXs := Lib.hid (show joinB ((recs rs).take (k + 1)) = joinB ((recs rs).take k) ++ frameOf rs[k].pl by rw [recs_take_succ rs k hkr, joinB_snoc])
      generalize rs[k] = r at *
      generalize joinB ((recs rs).take k) = X at *
      have Hall := Lib.hid hall
      have hXX : X.length ≤ 8013 * 100000 := by omega
      clear hat1 hall hXl hXl2
      obtain ⟨E1, hE1⟩ : ∃ E1, r.pl.e = E1 := ⟨_, rfl⟩
      have HC := Lib.hid (refrec_at r E1 wr hE1)
      unfold RecV.val at HC
      go_wp2_with fail
      refine HC.out.mono ?_
      rintro e w1 ⟨rfl, hb1⟩
      have k0 : w1.cell? ⟨b1, o1 + k * 3, none⟩ = _ := (World.cell?_of_block (w := wr) (hb1.block b1 hltb1)).trans c0
      have k1 : w1.cell? ⟨b1, o1 + k * 3 + 1, none⟩ = _ := (World.cell?_of_block (w := wr) (hb1.block b1 hltb1)).trans c1
      have k2 : w1.cell? ⟨b1, o1 + k * 3 + 2, none⟩ = _ := (World.cell?_of_block (w := wr) (hb1.block b1 hltb1)).trans c2
      have how1 := hown.ext hb1
      have hbw1 := bthen hbr hb1 (Nat.le_refl _)
      clear c0 c1 c2 hown hb1 HC
      by_cases hE0 : E1 = 0
      · subst hE0
        have q5 : r.d.l.length ≤ 8000 := (recE_ok.1 hE1).2.2.2.2
        have HF := Lib.hid (refframe_ok r w1 ⟨hr0.1.ext hbw1, hr0.2⟩ hE1)
        have hFl := frameOf_length r.pl
        rw [show r.pl.d.length = r.d.l.length from rfl] at hFl
        have HFl := Lib.hid hFl
        have He := Lib.hid hE1
        clear hFl hE1 HEk
        unfold RecV.val at HF
        go_wp2_with fail
        refine HF.out.mono ?_
        rintro e w2 ⟨a2, c2, rfl, ho2, hb2⟩
        have hs2 := ho2.src
        have how2 := how1.ext hb2
        have hbw2 := bthen hbw1 hb2 (Nat.le_refl _)
        clear k0 k1 k2 how1 hbw1 hb2 ho2 HF
        go_wp2_with (refine wpList_app rfl (.tmp 21) (.tmp 26) 27 rfl w.heap.size 5 i0 (.int .u8 0) 1 1 Try.underlying27 hi hz0 hz1 hz2 rfl (by decide) a' X.length c' (bvs X) rfl how2 a2 (13 + r.d.l.length) c2 (bvs (frameOf r.pl)) rfl (by rw [bvs_length, HFl.out, Nat.mul_one]) hs2 (bvs_one _) (by unfold maxLen; omega) (by omega) hbw2.size ?_; intro a3 c3 w3 hown3 hb3)
        go_roundw
        case rel =>
          have hlen : (joinB ((recs rs).take (k + 1))).length = X.length + (13 + r.d.l.length) := by
            rw [HXs.out, List.length_append, HFl.out]
          refine ⟨k + 1, a3, c3, by omega, by go_num, by rw [hlen], ?_, hbw2.trans hb3, ?_⟩
          · rw [hlen, HXs.out, bvs_append]
            exact hown3
          · rw [Htk.out]
            intro x hx
            rcases List.mem_append.1 hx with h | h
            · exact Hall.out x h
            · simp only [List.mem_singleton] at h; subst h; exact He.out
        case measure => simp [intOf]; omega
      · obtain ⟨hEE, hll⟩ := HEk.out (by rw [hE1]; exact hE0)
        have hne : ((E1 : Int) != 0) = true := by simpa using hE0
        have hLl0 : Ll = 0 := by rw [← HLl.out, hll]; rfl
        have HEE := Lib.hid (hEE.trans hE1)
        have Hll := Lib.hid hll
        have HLl0 := Lib.hid hLl0
        clear hEE hll hLl0 HEk hE0 hE1
        go_wp2
        go_ret2
        exact ⟨none, 0, by rw [HEE.out, HLl0.out]; rfl, by rw [Hll.out, HLl0.out]; exact Own.nil _ _ _ _ _, hbw1⟩
    · have h1 := HN.out
      have htk : (recs rs).take k = recs rs := List.take_of_length_le (by simp; omega)
      rw [htk] at hall
      have hE0 := joinE_ok.2 hall
      rw [htk] at hown ⊢
      have hB0 := HB.out
      rw [joinR, if_pos hE0] at hB0
      rw [hB0] at hown ⊢
      have HL2 := HLl.out
      rw [HL2] at hown ⊢
      have HE0 := Lib.hid (HE.out.symm.trans hE0)
      clear hE0 hall hB0 HL2 hXl hXl2 htk h1
      go_wp2
      go_ret2
      exact ⟨a', c', by rw [HE0.out]; rfl, hown, hbr⟩
end Go.Proofs.Ytffcpjhokfjhfaa
