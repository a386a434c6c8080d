/- The walk of StoreRow. -/
import Derived.Test.YtogcejmnhiphgaaStoreWakes
import Derived.Test.YtogcejmnhiphgaaRegionPhase
namespace Go.Proofs.Ytogcejmnhiphgaa
open Go.RowKit

set_option maxRecDepth 100000 in
set_option maxHeartbeats 16000000 in
theorem storeRow_walk (w : World) (a : Option Addr) (c : Nat) (ps : List Bsl) (hm : Mat w a ps) (hn : ps.length ≤ 9223372036854775807) (hcap : ∀ p ∈ ps, p.l.length ≤ p.c) (ao : Option Addr) (co : Nat) (os : List Bool) (hs : Src w ao (bovs os)) (hol : os.length ≤ 9223372036854775807) :
    Calls Try.prog 9 #[.slice a ps.length c, .slice ao os.length co] w fun e w' => e = .returned (.bool true) ∧ Below w.heap.size w w' := by
  obtain ⟨N, hN⟩ : ∃ N, N = ps.length := ⟨_, rfl⟩
  obtain ⟨L, hL⟩ : ∃ L, L = os.length := ⟨_, rfl⟩
  rw [← hN, ← hL]
  by_cases h20 : N ≤ 20
  · have g20 : ¬ 20 < N := by omega
    have hLn : L ≤ 9223372036854775807 := by omega
    have HN := Lib.hid hN
    have HL := Lib.hid hL
    have Hm := Lib.hid hm
    have Hos := Lib.hid hs
    have Hcap := Lib.hid hcap
    clear hN hL hm hs hn hol hcap
    obtain ⟨i0, hi, hz0, hz1, hz2⟩ := info_parts info8
    go_enter Try.func9, Try.ntmps9
    go_wp2_with fail
    refine (power_new w).mono ?_
    rintro e w1 ⟨pg, rfl, hp, hb1⟩
    go_wp2_with fail
    refine (disk_new pg PS.new 310 w.heap.size w1 hp (by decide) (by decide)).mono ?_
    rintro e w2 ⟨g, rfl, hd, hb2⟩
    have HB2 := Lib.hid (bthen hb1 hb2 (Nat.le_refl _))
    have HD2 := Lib.hid ((new_dws hp hb1 hd hb2).mono (K' := fun _ => True) (m' := 0) (fun _ _ _ => trivial) (Nat.le_refl _))
    clear hd hp hb1 hb2
    go_wp2_with (refine wpList_make8 rfl _ _ 34 rfl 5 i0 Try.underlying34 hi hz0 hz1 hz2 256 rfl rfl (by decide) ?_
                 intro w3 ho3 hb3
                 obtain ⟨gb, hg, hbg, hlg, hat, hfz⟩ := ho3.at (i := 3) (by decide)
                 simp only [Option.some.injEq, Addr.mk.injEq, and_self, and_true] at hg
                 subst hg
                 have hc1 := hat 3 (by rw [bvs_length, zb_length]; decide)
                 have hf1 := hfz 3
                 have Ho3 := Lib.hid ho3
                 have hbs := Lib.hid (hb3.setCell (p := ⟨w2.heap.size, 3, none⟩) hbg (u8v 77#8))
                 clear hat hfz ho3 hb3)
    have ho4 : Own (w3.setCell ⟨w2.heap.size, 3, none⟩ (.int .u8 77)) w2.heap.size 5 1 (some ⟨w2.heap.size, 0, none⟩) 256 256 (bvs ((zb 256).set 3 77#8)) := by rw [← bvs_set]; exact Ho3.out.set 3 _ (by decide)
    have hb4 : Below w2.heap.size w2 (w3.setCell ⟨w2.heap.size, 3, none⟩ (.int .u8 77)) := hbs.out
    obtain ⟨mk, hmk⟩ : ∃ mk, mk = (zb 256).set 3 77#8 := ⟨_, rfl⟩
    have Hmk : Hid (mk.length = 256) := Lib.hid (by rw [hmk, List.length_set, zb_length])
    rw [← hmk] at ho4
    have HO4 := Lib.hid ho4
    have HD4 := Lib.hid (HD2.out.ext hb4)
    have HB4 := Lib.hid (bthen HB2.out hb4 (Nat.le_refl _))
    clear hmk ho4 hb4 hc1 hf1 hbg hlg hbs Ho3 HD2 HB2
    generalize w3.setCell ⟨w2.heap.size, 3, none⟩ (.int .u8 77) = w4 at *
    go_loopw [9] (fun i wr => ∃ (k : Nat) (d : DS), k ≤ 10 ∧ i = .int .i64 ((300 + k : Nat) : Int) ∧ DW (fun _ => True) w.heap.size wr g pg 310 d PS.new k ∧ d.life = 0 ∧ (∀ j, j < 300 → d.now.getD j Sec.nought = Sec.nought) ∧ (∀ j, 300 ≤ j → j < 300 + k → d.now.getD j Sec.nought = ⟨mk, false⟩) ∧ Own wr w2.heap.size 5 1 (some ⟨w2.heap.size, 0, none⟩) 256 256 (bvs mk) ∧ Below w.heap.size w wr) (fun i _ => 310 - (intOf i).toNat)
    case atStart => exact ⟨0, _, by omega, rfl, HD4.out, rfl, fun j h => by
      show (List.replicate 310 Sec.nought).getD j Sec.nought = Sec.nought
      rw [List.getD_eq_getElem?_getD, List.getElem?_replicate]
      split <;> rfl, fun j h1 h2 => by omega, HO4.out, HB4.out⟩
    case round =>
      rename_i wr
      obtain ⟨k, d, hk, rfl, hD, hlife, hz, hF, hO, hbr⟩ := hrel
      have HD := Lib.hid hD
      have Hlife := Lib.hid hlife
      have HZ := Lib.hid hz
      have HSec := Lib.hid hF
      have HO := Lib.hid hO
      clear hD hlife hz hF hO HD4 HB4 HO4
      by_cases hlt : k < 10
      · go_wp2_with fail
        refine (HD.out.write (by decide) (by decide) (by omega) ((300 + k : Nat) : Int) (some ⟨w2.heap.size, 0, none⟩) 256 256 mk (fun w' hm => (HO.out.mod hm fun b _ _ => DF_no_u8 b).src) Hmk.out.symm (by decide)
          (write_on (n := 310) (i := 300 + k) HD.out.ok rfl rfl Hlife.out (by omega) Hmk.out)).mono ?_
        rintro e w5 ⟨rfl, hd5, hm5⟩
        have HD5 := Lib.hid hd5
        have HO5 := Lib.hid (HO.out.mod hm5 fun b _ _ => DF_no_u8 b)
        have HB5 := Lib.hid (hbr.trans (hm5.below (fun b T h => h.1) hbr.size))
        clear hd5 hm5 hbr
        go_wp2_with fail
        go_roundw
        case rel =>
          refine ⟨k + 1, _, by omega, by go_num, HD5.out.mono (fun _ _ _ => trivial) (Nat.le_refl _), Hlife.out, fun j hj => ?_, fun j h1 h2 => ?_, HO5.out, HB5.out⟩
          · show (d.now.set (300 + k) ⟨mk, false⟩).getD j Sec.nought = _
            rw [getD_set_sec, if_neg (by omega)]
            exact HZ.out j hj
          · show (d.now.set (300 + k) ⟨mk, false⟩).getD j Sec.nought = _
            rw [getD_set_sec, HD.out.ok.now]
            by_cases hj : 300 + k = j
            · rw [if_pos ⟨hj, by omega⟩]
            · rw [if_neg (by omega)]
              exact HSec.out j h1 (by omega)
        case measure => simp [intOf]; omega
      · obtain rfl : k = 10 := by omega
        have HG : Hid (Good d.now [] 0) := Lib.hid (Good.blank fun i hi => HZ.out i (by omega))
        have HF0 : Hid (∀ j, 300 ≤ j → j < 310 → d.now.getD j Sec.nought = ⟨mk, false⟩) := HSec
        clear HZ HSec hk hlt
        go_wp2_with fail
        refine (sopen_good HD.out (by decide) (by decide) (by decide) rfl Hlife.out HG.out).mono ?_
        rintro e w5 ⟨gs0, rfl, hs5, hd5, hm5⟩
        have HS5 := Lib.hid (hs5.mono hbr.size)
        have HD5 := Lib.hid hd5
        have HO5 := Lib.hid (HO.out.mod hm5 fun b _ _ => DF_no_u8 b)
        have HB5 := Lib.hid (hbr.trans (hm5.below (fun b T h => h.1) hbr.size))
        clear hs5 hd5 hm5 hbr HO HD
        go_wp2_with fail
        go_loopw [7, 10, 11] (fun ev sv i wx => ∃ (k : Nat) (d : DS) (s : List Byte) (gs : Nat) (wr : World), wr = wx ∧ k ≤ N ∧ ev = .int .i64 0 ∧ sv = .pointer (some ⟨gs, 0, none⟩) ∧ i = .int .i64 (k : Int) ∧ DW (fun _ => True) w.heap.size wr g pg 310 d PS.new 10 ∧ d.life = 0 ∧ Good d.now s k ∧ (∀ j, 300 ≤ j → j < 310 → d.now.getD j Sec.nought = ⟨mk, false⟩) ∧ StA w.heap.size wr gs g s k ∧ Own wr w2.heap.size 5 1 (some ⟨w2.heap.size, 0, none⟩) 256 256 (bvs mk) ∧ Below w.heap.size w wr) (fun _ _ i _ => N - (intOf i).toNat)
        case atStart => exact ⟨0, d, [], gs0, _, rfl, by omega, rfl, rfl, rfl, HD5.out, Hlife.out, HG.out, HF0.out, HS5.out, HO5.out, HB5.out⟩
        case round =>
          obtain ⟨k, d1, s, gs, wr, hwr, hk, rfl, rfl, rfl, hD, hlife, hG, hF, hS, hO, hbr⟩ := hrel
          subst hwr
          have HD := Lib.hid hD
          have Hlife1 := Lib.hid hlife
          have HG1 := Lib.hid hG
          have HSec := Lib.hid hF
          have HS := Lib.hid hS
          have HO := Lib.hid hO
          clear hD hlife hG hF hS hO HD5 HS5 HO5 HB5 HG HF0 Hlife
          have HG := HG1
          have Hlife := Hlife1
          clear HG1 Hlife1
          by_cases hlt : k < N
          · have hkp : k < ps.length := by have := HN.out; omega
            obtain ⟨bb, o, rfl, hlb, hat⟩ := Hm.out.at hkp
            have hc0 := hat k hkp
            have hrow := Hm.out.row _ (List.getElem_mem hkp)
            have hcq := Hcap.out _ (List.getElem_mem hkp)
            generalize ps[k] = q at *
            obtain ⟨M, hM⟩ : ∃ M, M = q.l.length := ⟨_, rfl⟩
            rw [← hM] at hc0 hcq
            have hcell := (World.cell?_of_block (w := w) (a := ⟨bb, o + k, none⟩) (hbr.block bb hlb)).trans hc0
            have hlbr : bb < wr.heap.size := Nat.lt_of_lt_of_le hlb hbr.size
            have Hq0 := Lib.hid hrow.1
            have Hq := Lib.hid (hrow.1.srcS hbr)
            have HM := Lib.hid hM
            have hwk : IntKind.i64.wrap ((k : Int) + 1) = (k : Int) + 1 := by rw [IntKind.wrap_i64]; omega
            clear hat hrow hM
            by_cases h5 : M ≤ 3000
            · go_wp2_with fail
              refine wp_region_phase (by kernel_rfl) [5] (by kernel_rfl) (by kernel_rfl) ?_
              refine stage_more [Sp.eq (.pointer (some ⟨gs, 0, none⟩)), Sp.eq (.slice (some ⟨bb, o, none⟩) N c), Sp.eq (.int .i64 (k : Int)), Sp.eq (.pointer (some ⟨bb, o + k, none⟩)), Sp.eq (.slice q.a M q.c)] rfl ?_ ?_
              · refine stepsG_cons ?_ (stepsG_cons ?_ (stepsG_cons ?_ (stepsG_cons ?_ (stepsG_cons ?_ (stepsG_nil)))))
                · intro ρ w' E
                  have e10 : ρ (.tmp 10) = .pointer (some ⟨gs, 0, none⟩) := E.out 10 rfl
                  refine step_plain rfl ?_
                  exact op_move (.inl rfl) e10 ⟨Below.refl _ _, rfl⟩
                · intro ρ w' E
                  have e0 : ρ (.tmp 0) = .slice (some ⟨bb, o, none⟩) N c := E.out 0 rfl
                  refine step_plain rfl ?_
                  exact op_move (.inl rfl) e0 ⟨Below.refl _ _, rfl⟩
                · intro ρ w' E
                  have e11 : ρ (.tmp 11) = .int .i64 (k : Int) := E.out 11 rfl
                  refine step_plain rfl ?_
                  exact op_move (.inl rfl) e11 ⟨Below.refl _ _, rfl⟩
                · intro ρ w' E
                  have e70 : ρ (.tmp 70) = .slice (some ⟨bb, o, none⟩) N c := E.pre 1 rfl rfl
                  have e71 : ρ (.tmp 71) = .int .i64 (k : Int) := E.pre 2 rfl rfl
                  refine step_plain rfl ?_
                  refine op_val (v := .pointer (some ⟨bb, o + k, none⟩)) (w' := w') ?_ ⟨Below.refl _ _, rfl⟩
                  have hcon := E.con
                  clear E
                  go_simp
                · intro ρ w' E
                  have e72 : ρ (.tmp 72) = .pointer (some ⟨bb, o + k, none⟩) := E.pre 3 rfl rfl
                  refine step_plain rfl ?_
                  refine op_val (v := .slice q.a M q.c) (w' := w') ?_ ⟨Below.refl _ _, rfl⟩
                  have hk := (World.cell?_of_block (w := wr) (E.below.block _ hlbr)).trans hcell
                  have hcon := E.con
                  clear E 
                  go_simp
              · intro σ1 ρ1 w1c E1 O1 H1
                have e69 : ρ1 (.tmp 69) = .pointer (some ⟨gs, 0, none⟩) := E1.pre 0 rfl rfl
                have e73 : ρ1 (.tmp 73) = .slice q.a M q.c := E1.pre 4 rfl rfl
                refine step_plain rfl ?_
                refine op_call (f := 32) (args := #[.pointer (some ⟨gs, 0, none⟩), .slice q.a M q.c]) (w' := w1c) (by have hcon := E1.con; have hfn := E1.fn; clear E1; go_simp) ?_
                refine (ssave_good (HD.out.ext E1.below) (HS.out.ext E1.below) (by decide) (by decide) (by decide) rfl rfl Hlife.out HG.out (by omega) q.a q.c M q.l (Hq.out.ext E1.below) HM.out (by omega) hcq).mono ?_
                rintro e w4 ⟨d4, rfl, hd4, hl4, hG4, hfr4, hs4, _, _, hm4⟩
                have hbe := bthen hbr E1.below (Nat.le_refl _)
                have HB4 := Lib.hid (hbe.trans (hm4.below (SvF.base HS.out.base) hbe.size))
                have HD4 : Hid (DW (fun _ => True) w.heap.size w4 g pg 310 d4 PS.new 10) := Lib.hid (hd4.mono (fun _ _ _ => trivial) (by omega))
                have HL4 := Lib.hid (hl4.trans Hlife.out)
                have HG4 := Lib.hid hG4
                have HSec4 : Hid (∀ j, 300 ≤ j → j < 310 → d4.now.getD j Sec.nought = ⟨mk, false⟩) := Lib.hid fun j h1 h2 => (hfr4 j (by omega)).trans (HSec.out j h1 h2)
                have HS4 := Lib.hid hs4
                have HO4 := Lib.hid ((HO.out.ext E1.below).mod hm4 fun _ _ _ => SvF.no_u8 _)
                have hcell4 := (World.cell?_of_block (w := w) (a := ⟨bb, o + k, none⟩) (HB4.out.block bb hlb)).trans hc0
                have hlb4 : bb < w4.heap.size := Nat.lt_of_lt_of_le hlb HB4.out.size
                have HQ4 := Lib.hid (Hq0.out.srcS HB4.out)
                clear hd4 hl4 hG4 hfr4 hs4 hm4 hbe HD Hlife HG HSec HS HO Hq hbr hcell
                refine ⟨_, rfl, ?_⟩
                refine stage_last [Sp.eq (.bool false), Sp.eq (.bool false), Sp.eq (.pointer (some ⟨gs, 0, none⟩)), ⟨fun w v => ∃ a c, v = .slice a M c ∧ Own w w4.heap.size 5 1 a M c (bvs q.l), fun _ _ _ ⟨a, c, h, ho⟩ hb => ⟨a, c, h, ho.ext hb⟩⟩, Sp.eq (.slice (some ⟨bb, o, none⟩) N c), Sp.eq (.int .i64 (k : Int)), Sp.eq (.pointer (some ⟨bb, o + k, none⟩)), Sp.eq (.slice q.a M q.c), Sp.eq (.bool true), Sp.eq (.bool false), Sp.eq (.bool false), Sp.eq (.bool false), Sp.eq (.pointer (some ⟨gs, 0, none⟩)), Sp.eq (.int .i64 ((k : Int) + 1)), Sp.eq (.int .i64 (k : Int)), Sp.eq (.int .i64 ((k : Int) + 1)), Sp.eq (.bool false), Sp.eq (.bool false)] ?_ ?_
                · refine stepsG_cons ?_ (stepsG_cons ?_ (stepsG_cons ?_ (stepsG_cons ?_ (stepsG_cons ?_ (stepsG_cons ?_ (stepsG_cons ?_ (stepsG_cons ?_ (stepsG_cons ?_ (stepsG_cons ?_ (stepsG_cons ?_ (stepsG_cons ?_ (stepsG_cons ?_ (stepsG_cons ?_ (stepsG_cons ?_ (stepsG_cons ?_ (stepsG_cons ?_ (stepsG_cons ?_ (stepsG_nil))))))))))))))))))
                  · intro ρ w' E
                    have e74 : ρ (.tmp 74) = .int .i64 0 := (E.old 5 74 rfl rfl).trans rfl
                    refine step_plain rfl ?_
                    refine op_val (v := .bool false) (w' := w') ?_ ⟨Below.refl _ _, rfl⟩
                    have hcon := E.con
                    clear E
                    go_simp
                  · intro ρ w' E
                    have e75 : ρ (.tmp 75) = .bool false := E.pre 6 rfl rfl
                    refine step_plain rfl ?_
                    exact op_move (.inl rfl) e75 ⟨Below.refl _ _, rfl⟩
                  · intro ρ w' E
                    have e10 : ρ (.tmp 10) = .pointer (some ⟨gs, 0, none⟩) := E.out 10 rfl
                    refine step_yes rfl (E.pre 7 rfl rfl) ?_
                    exact op_move (.inl rfl) e10 ⟨Below.refl _ _, rfl⟩
                  · intro ρ w' E
                    have e77 : ρ (.tmp 77) = .pointer (some ⟨gs, 0, none⟩) := E.pre 8 rfl rfl
                    refine step_yes rfl (E.pre 7 rfl rfl) ?_
                    refine op_call (f := 33) (args := #[.pointer (some ⟨gs, 0, none⟩)]) (w' := w') (by have hcon := E.con; have hfn := E.fn; clear E; go_simp) ?_
                    refine (sstate_any (HS4.out.ext E.below) HM.out.symm).mono ?_
                    rintro e w5 ⟨a5, c5, rfl, ho5, hb5⟩
                    exact ⟨_, rfl, hb5, a5, c5, rfl, ho5.mono E.below.size⟩
                  · intro ρ w' E
                    have e0 : ρ (.tmp 0) = .slice (some ⟨bb, o, none⟩) N c := E.out 0 rfl
                    refine step_yes rfl (E.pre 7 rfl rfl) ?_
                    exact op_move (.inl rfl) e0 ⟨Below.refl _ _, rfl⟩
                  · intro ρ w' E
                    have e11 : ρ (.tmp 11) = .int .i64 (k : Int) := E.out 11 rfl
                    refine step_yes rfl (E.pre 7 rfl rfl) ?_
                    exact op_move (.inl rfl) e11 ⟨Below.refl _ _, rfl⟩
                  · intro ρ w' E
                    have e79 : ρ (.tmp 79) = .slice (some ⟨bb, o, none⟩) N c := E.pre 10 rfl rfl
                    have e80 : ρ (.tmp 80) = .int .i64 (k : Int) := E.pre 11 rfl rfl
                    refine step_yes rfl (E.pre 7 rfl rfl) ?_
                    refine op_val (v := .pointer (some ⟨bb, o + k, none⟩)) (w' := w') ?_ ⟨Below.refl _ _, rfl⟩
                    have hcon := E.con
                    clear E
                    go_simp
                  · intro ρ w' E
                    have e81 : ρ (.tmp 81) = .pointer (some ⟨bb, o + k, none⟩) := E.pre 12 rfl rfl
                    refine step_yes rfl (E.pre 7 rfl rfl) ?_
                    refine op_val (v := .slice q.a M q.c) (w' := w') ?_ ⟨Below.refl _ _, rfl⟩
                    have hk := (World.cell?_of_block (w := w4) (E.below.block _ hlb4)).trans hcell4
                    have hcon := E.con
                    clear E 
                    go_simp
                  · intro ρ w' E
                    have p78 : (fun w v => ∃ a c, v = .slice a M c ∧ Own w w4.heap.size 5 1 a M c (bvs q.l)) w' (ρ (.tmp 78)) := E.pre 9 rfl rfl
                    have e82 : ρ (.tmp 82) = .slice q.a M q.c := E.pre 13 rfl rfl
                    refine step_yes rfl (E.pre 7 rfl rfl) ?_
                    obtain ⟨a5, c5, e78, ho5⟩ := p78
                    refine op_call (f := 17) (args := #[.slice a5 M c5, .slice q.a M q.c]) (w' := w') (by have hcon := E.con; have hfn := E.fn; clear E; go_simp) ?_
                    refine (bytes_at a5 c5 q.l q.a q.c q.l w' M M true ho5.src (HQ4.out.src.ext E.below) HM.out HM.out (by omega) (by omega) (by simp)).mono ?_
                    rintro e w6 ⟨rfl, nn, rfl⟩
                    exact ⟨_, rfl, ext_drewN w' nn _, rfl⟩
                  · intro ρ w' E
                    have e83 : ρ (.tmp 83) = .bool true := E.pre 14 rfl rfl
                    refine step_yes rfl (E.pre 7 rfl rfl) ?_
                    refine op_val (v := .bool false) (w' := w') ?_ ⟨Below.refl _ _, rfl⟩
                    have hcon := E.con
                    clear E
                    go_simp
                  · intro ρ w' E
                    have e76 : ρ (.tmp 76) = .bool false := E.pre 7 rfl rfl
                    have e84 : ρ (.tmp 84) = .bool false := E.pre 15 rfl rfl
                    refine step_plain rfl ?_
                    exact op_pick (b := false) rfl e76 rfl ⟨Below.refl _ _, e84⟩
                  · intro ρ w' E
                    have e85 : ρ (.tmp 85) = .bool false := E.pre 16 rfl rfl
                    refine step_plain rfl ?_
                    exact op_move (.inl rfl) e85 ⟨Below.refl _ _, rfl⟩
                  · intro ρ w' E
                    have e10 : ρ (.tmp 10) = .pointer (some ⟨gs, 0, none⟩) := E.out 10 rfl
                    refine step_yes rfl (E.pre 17 rfl rfl) ?_
                    exact op_move (.inl rfl) e10 ⟨Below.refl _ _, rfl⟩
                  · intro ρ w' E
                    have e87 : ρ (.tmp 87) = .pointer (some ⟨gs, 0, none⟩) := E.pre 18 rfl rfl
                    refine step_yes rfl (E.pre 17 rfl rfl) ?_
                    refine op_call (f := 34) (args := #[.pointer (some ⟨gs, 0, none⟩)]) (w' := w') (by have hcon := E.con; have hfn := E.fn; clear E; go_simp) ?_
                    refine (scount_any (HS4.out.ext E.below)).mono ?_
                    rintro e w5 ⟨rfl, rfl⟩
                    exact ⟨_, rfl, Below.refl _ _, rfl⟩
                  · intro ρ w' E
                    have e11 : ρ (.tmp 11) = .int .i64 (k : Int) := E.out 11 rfl
                    refine step_yes rfl (E.pre 17 rfl rfl) ?_
                    exact op_move (.inl rfl) e11 ⟨Below.refl _ _, rfl⟩
                  · intro ρ w' E
                    have e89 : ρ (.tmp 89) = .int .i64 (k : Int) := E.pre 20 rfl rfl
                    refine step_yes rfl (E.pre 17 rfl rfl) ?_
                    refine op_val (v := .int .i64 ((k : Int) + 1)) (w' := w') ?_ ⟨Below.refl _ _, rfl⟩
                    have hk1 := hwk
                    have hcon := E.con
                    clear E
                    go_simp
                  · intro ρ w' E
                    have e88 : ρ (.tmp 88) = .int .i64 ((k : Int) + 1) := E.pre 19 rfl rfl
                    have e90 : ρ (.tmp 90) = .int .i64 ((k : Int) + 1) := E.pre 21 rfl rfl
                    refine step_yes rfl (E.pre 17 rfl rfl) ?_
                    refine op_val (v := .bool false) (w' := w') ?_ ⟨Below.refl _ _, rfl⟩
                    have hcon := E.con
                    clear E
                    go_simp
                  · intro ρ w' E
                    have e86 : ρ (.tmp 86) = .bool false := E.pre 17 rfl rfl
                    have e91 : ρ (.tmp 91) = .bool false := E.pre 22 rfl rfl
                    refine step_plain rfl ?_
                    exact op_pick (b := false) rfl e86 rfl ⟨Below.refl _ _, e91⟩
                · intro σF wF GF OF HF
                  have s92 : σF 92 = .bool false := HF 23 rfl rfl
                  clear H1 O1 OF HF E1
                  simp only [upd, updL, dstsOf', elemB, List.filterMap_cons, List.filterMap_nil, Nat.reduceAdd, Nat.reduceBEq, Bool.or_false, Bool.false_or, Bool.or_true, Bool.true_or, cond_true, cond_false, Nat.zero_add, s92]
                  have HB4' := Lib.hid (bthen HB4.out GF (Nat.le_refl _))
                  have HD4' := Lib.hid (HD4.out.ext GF)
                  have HS4' := Lib.hid (HS4.out.ext GF)
                  have HO4' := Lib.hid (HO4.out.ext GF)
                  clear GF HB4 HD4 HS4 HO4
                  have HB4 := HB4'
                  have HD4 := HD4'
                  have HS4 := HS4'
                  have HO4 := HO4'
                  clear HB4' HD4' HS4' HO4'
                  clear s92 hcell4 hlb4 HQ4
                  have hcell4 := (World.cell?_of_block (w := w) (a := ⟨bb, o + k, none⟩) (HB4.out.block bb hlb)).trans hc0
                  have hlb4 : bb < wF.heap.size := Nat.lt_of_lt_of_le hlb HB4.out.size
                  have HQ4 := Lib.hid (Hq0.out.srcS HB4.out)
                  by_cases hkL : k < L
                  · have hko : k < os.length := by have := HL.out; omega
                    obtain ⟨ob, oo, rfl, hlo, hato⟩ := src_bools_at Hos.out hko
                    have hb0 := hato k hko
                    have hcb := (World.cell?_of_block (w := w) (a := ⟨ob, oo + k, none⟩) (HB4.out.block ob hlo)).trans hb0
                    clear hato hb0
                    generalize os[k] = bo at hcb
                    cases bo with
                    | true =>
                      have hbv : True := trivial
                      go_wp2_with fail
                      refine (sopen_good HD4.out (by decide) (by decide) (by decide) rfl HL4.out HG4.out).mono ?_
                      rintro e w5x ⟨gs5, rfl, hs5, hd5, hm5⟩
                      have HS5 := Lib.hid (hs5.mono HB4.out.size)
                      have HD5 := Lib.hid hd5
                      have HO5 := Lib.hid (HO4.out.mod hm5 fun b _ _ => DF_no_u8 b)
                      have HB5 := Lib.hid (HB4.out.trans (hm5.below (fun b T h => h.1) HB4.out.size))
                      have hcell5 := (World.cell?_of_block (w := w) (a := ⟨bb, o + k, none⟩) (HB5.out.block bb hlb)).trans hc0
                      have hlb5 : bb < w5x.heap.size := Nat.lt_of_lt_of_le hlb HB5.out.size
                      have HQ5 := Lib.hid (Hq0.out.srcS HB5.out)
                      clear hs5 hd5 hm5 HS4 HD4 HO4 HB4 HQ4 hcell4 hlb4 hbv hcb
                      go_wp2_with fail
                      refine wp_region_phase (by kernel_rfl) [] (by kernel_rfl) (by kernel_rfl) ?_
                      refine stage_last [Sp.eq (.int .i64 0), Sp.eq (.bool false), Sp.eq (.bool false), Sp.eq (.pointer (some ⟨gs5, 0, none⟩)), Sp.eq (.bool false), Sp.eq (.bool false), Sp.eq (.bool false), Sp.eq (.pointer (some ⟨gs5, 0, none⟩)), ⟨fun w v => ∃ a c, v = .slice a M c ∧ Own w w5x.heap.size 5 1 a M c (bvs q.l), fun _ _ _ ⟨a, c, h, ho⟩ hb => ⟨a, c, h, ho.ext hb⟩⟩, Sp.eq (.slice (some ⟨bb, o, none⟩) N c), Sp.eq (.int .i64 (k : Int)), Sp.eq (.pointer (some ⟨bb, o + k, none⟩)), Sp.eq (.slice q.a M q.c), Sp.eq (.bool true), Sp.eq (.bool false), Sp.eq (.bool false), Sp.eq (.bool false), Sp.eq (.pointer (some ⟨gs5, 0, none⟩)), Sp.eq (.int .i64 ((k : Int) + 1)), Sp.eq (.int .i64 (k : Int)), Sp.eq (.int .i64 ((k : Int) + 1)), Sp.eq (.bool false), Sp.eq (.bool false)] ?_ ?_
                      · refine stepsG_cons ?_ (stepsG_cons ?_ (stepsG_cons ?_ (stepsG_cons ?_ (stepsG_cons ?_ (stepsG_cons ?_ (stepsG_cons ?_ (stepsG_cons ?_ (stepsG_cons ?_ (stepsG_cons ?_ (stepsG_cons ?_ (stepsG_cons ?_ (stepsG_cons ?_ (stepsG_cons ?_ (stepsG_cons ?_ (stepsG_cons ?_ (stepsG_cons ?_ (stepsG_cons ?_ (stepsG_cons ?_ (stepsG_cons ?_ (stepsG_cons ?_ (stepsG_cons ?_ (stepsG_cons ?_ (stepsG_nil)))))))))))))))))))))))
                        · intro ρ w' E
                          have e7 : ρ (.tmp 7) = .int .i64 0 := E.out 7 rfl
                          refine step_plain rfl ?_
                          exact op_move (.inl rfl) e7 ⟨Below.refl _ _, rfl⟩
                        · intro ρ w' E
                          have e108 : ρ (.tmp 108) = .int .i64 0 := E.pre 0 rfl rfl
                          refine step_plain rfl ?_
                          refine op_val (v := .bool false) (w' := w') ?_ ⟨Below.refl _ _, rfl⟩
                          have hcon := E.con
                          clear E
                          go_simp
                        · intro ρ w' E
                          have e109 : ρ (.tmp 109) = .bool false := E.pre 1 rfl rfl
                          refine step_plain rfl ?_
                          exact op_move (.inl rfl) e109 ⟨Below.refl _ _, rfl⟩
                        · intro ρ w' E
                          have e10 : ρ (.tmp 10) = .pointer (some ⟨gs5, 0, none⟩) := E.out 10 rfl
                          refine step_yes rfl (E.pre 2 rfl rfl) ?_
                          exact op_move (.inl rfl) e10 ⟨Below.refl _ _, rfl⟩
                        · intro ρ w' E
                          have e111 : ρ (.tmp 111) = .pointer (some ⟨gs5, 0, none⟩) := E.pre 3 rfl rfl
                          refine step_yes rfl (E.pre 2 rfl rfl) ?_
                          refine op_val (v := .bool false) (w' := w') ?_ ⟨Below.refl _ _, rfl⟩
                          have hcon := E.con
                          clear E
                          go_simp
                        · intro ρ w' E
                          have e110 : ρ (.tmp 110) = .bool false := E.pre 2 rfl rfl
                          have e112 : ρ (.tmp 112) = .bool false := E.pre 4 rfl rfl
                          refine step_plain rfl ?_
                          exact op_pick (b := false) rfl e110 rfl ⟨Below.refl _ _, e112⟩
                        · intro ρ w' E
                          have e113 : ρ (.tmp 113) = .bool false := E.pre 5 rfl rfl
                          refine step_plain rfl ?_
                          exact op_move (.inl rfl) e113 ⟨Below.refl _ _, rfl⟩
                        · intro ρ w' E
                          have e10 : ρ (.tmp 10) = .pointer (some ⟨gs5, 0, none⟩) := E.out 10 rfl
                          refine step_yes rfl (E.pre 6 rfl rfl) ?_
                          exact op_move (.inl rfl) e10 ⟨Below.refl _ _, rfl⟩
                        · intro ρ w' E
                          have e115 : ρ (.tmp 115) = .pointer (some ⟨gs5, 0, none⟩) := E.pre 7 rfl rfl
                          refine step_yes rfl (E.pre 6 rfl rfl) ?_
                          refine op_call (f := 33) (args := #[.pointer (some ⟨gs5, 0, none⟩)]) (w' := w') (by have hcon := E.con; have hfn := E.fn; clear E; go_simp) ?_
                          refine (sstate_any (HS5.out.ext E.below) HM.out.symm).mono ?_
                          rintro e w5 ⟨a5, c5, rfl, ho5, hb5⟩
                          exact ⟨_, rfl, hb5, a5, c5, rfl, ho5.mono E.below.size⟩
                        · intro ρ w' E
                          have e0 : ρ (.tmp 0) = .slice (some ⟨bb, o, none⟩) N c := E.out 0 rfl
                          refine step_yes rfl (E.pre 6 rfl rfl) ?_
                          exact op_move (.inl rfl) e0 ⟨Below.refl _ _, rfl⟩
                        · intro ρ w' E
                          have e11 : ρ (.tmp 11) = .int .i64 (k : Int) := E.out 11 rfl
                          refine step_yes rfl (E.pre 6 rfl rfl) ?_
                          exact op_move (.inl rfl) e11 ⟨Below.refl _ _, rfl⟩
                        · intro ρ w' E
                          have e117 : ρ (.tmp 117) = .slice (some ⟨bb, o, none⟩) N c := E.pre 9 rfl rfl
                          have e118 : ρ (.tmp 118) = .int .i64 (k : Int) := E.pre 10 rfl rfl
                          refine step_yes rfl (E.pre 6 rfl rfl) ?_
                          refine op_val (v := .pointer (some ⟨bb, o + k, none⟩)) (w' := w') ?_ ⟨Below.refl _ _, rfl⟩
                          have hcon := E.con
                          clear E
                          go_simp
                        · intro ρ w' E
                          have e119 : ρ (.tmp 119) = .pointer (some ⟨bb, o + k, none⟩) := E.pre 11 rfl rfl
                          refine step_yes rfl (E.pre 6 rfl rfl) ?_
                          refine op_val (v := .slice q.a M q.c) (w' := w') ?_ ⟨Below.refl _ _, rfl⟩
                          have hk := (World.cell?_of_block (w := w5x) (E.below.block _ hlb5)).trans hcell5
                          have hcon := E.con
                          clear E 
                          go_simp
                        · intro ρ w' E
                          have p116 : (fun w v => ∃ a c, v = .slice a M c ∧ Own w w5x.heap.size 5 1 a M c (bvs q.l)) w' (ρ (.tmp 116)) := E.pre 8 rfl rfl
                          have e120 : ρ (.tmp 120) = .slice q.a M q.c := E.pre 12 rfl rfl
                          refine step_yes rfl (E.pre 6 rfl rfl) ?_
                          obtain ⟨a5, c5, e116, ho5⟩ := p116
                          refine op_call (f := 17) (args := #[.slice a5 M c5, .slice q.a M q.c]) (w' := w') (by have hcon := E.con; have hfn := E.fn; clear E; go_simp) ?_
                          refine (bytes_at a5 c5 q.l q.a q.c q.l w' M M true ho5.src (HQ5.out.src.ext E.below) HM.out HM.out (by omega) (by omega) (by simp)).mono ?_
                          rintro e w6 ⟨rfl, nn, rfl⟩
                          exact ⟨_, rfl, ext_drewN w' nn _, rfl⟩
                        · intro ρ w' E
                          have e121 : ρ (.tmp 121) = .bool true := E.pre 13 rfl rfl
                          refine step_yes rfl (E.pre 6 rfl rfl) ?_
                          refine op_val (v := .bool false) (w' := w') ?_ ⟨Below.refl _ _, rfl⟩
                          have hcon := E.con
                          clear E
                          go_simp
                        · intro ρ w' E
                          have e114 : ρ (.tmp 114) = .bool false := E.pre 6 rfl rfl
                          have e122 : ρ (.tmp 122) = .bool false := E.pre 14 rfl rfl
                          refine step_plain rfl ?_
                          exact op_pick (b := false) rfl e114 rfl ⟨Below.refl _ _, e122⟩
                        · intro ρ w' E
                          have e123 : ρ (.tmp 123) = .bool false := E.pre 15 rfl rfl
                          refine step_plain rfl ?_
                          exact op_move (.inl rfl) e123 ⟨Below.refl _ _, rfl⟩
                        · intro ρ w' E
                          have e10 : ρ (.tmp 10) = .pointer (some ⟨gs5, 0, none⟩) := E.out 10 rfl
                          refine step_yes rfl (E.pre 16 rfl rfl) ?_
                          exact op_move (.inl rfl) e10 ⟨Below.refl _ _, rfl⟩
                        · intro ρ w' E
                          have e125 : ρ (.tmp 125) = .pointer (some ⟨gs5, 0, none⟩) := E.pre 17 rfl rfl
                          refine step_yes rfl (E.pre 16 rfl rfl) ?_
                          refine op_call (f := 34) (args := #[.pointer (some ⟨gs5, 0, none⟩)]) (w' := w') (by have hcon := E.con; have hfn := E.fn; clear E; go_simp) ?_
                          refine (scount_any (HS5.out.ext E.below)).mono ?_
                          rintro e w5 ⟨rfl, rfl⟩
                          exact ⟨_, rfl, Below.refl _ _, rfl⟩
                        · intro ρ w' E
                          have e11 : ρ (.tmp 11) = .int .i64 (k : Int) := E.out 11 rfl
                          refine step_yes rfl (E.pre 16 rfl rfl) ?_
                          exact op_move (.inl rfl) e11 ⟨Below.refl _ _, rfl⟩
                        · intro ρ w' E
                          have e127 : ρ (.tmp 127) = .int .i64 (k : Int) := E.pre 19 rfl rfl
                          refine step_yes rfl (E.pre 16 rfl rfl) ?_
                          refine op_val (v := .int .i64 ((k : Int) + 1)) (w' := w') ?_ ⟨Below.refl _ _, rfl⟩
                          have hk1 := hwk
                          have hcon := E.con
                          clear E
                          go_simp
                        · intro ρ w' E
                          have e126 : ρ (.tmp 126) = .int .i64 ((k : Int) + 1) := E.pre 18 rfl rfl
                          have e128 : ρ (.tmp 128) = .int .i64 ((k : Int) + 1) := E.pre 20 rfl rfl
                          refine step_yes rfl (E.pre 16 rfl rfl) ?_
                          refine op_val (v := .bool false) (w' := w') ?_ ⟨Below.refl _ _, rfl⟩
                          have hcon := E.con
                          clear E
                          go_simp
                        · intro ρ w' E
                          have e124 : ρ (.tmp 124) = .bool false := E.pre 16 rfl rfl
                          have e129 : ρ (.tmp 129) = .bool false := E.pre 21 rfl rfl
                          refine step_plain rfl ?_
                          exact op_pick (b := false) rfl e124 rfl ⟨Below.refl _ _, e129⟩
                      · intro σF wF GF OF HF
                        have s130 : σF 130 = .bool false := HF 22 rfl rfl
                        clear OF HF
                        simp only [upd, updL, dstsOf', elemB, List.filterMap_cons, List.filterMap_nil, Nat.reduceAdd, Nat.reduceBEq, Bool.or_false, Bool.false_or, Bool.or_true, Bool.true_or, cond_true, cond_false, Nat.zero_add, s130]
                        have HB5' := Lib.hid (bthen HB5.out GF (Nat.le_refl _))
                        have HD5' := Lib.hid (HD5.out.ext GF)
                        have HS5' := Lib.hid (HS5.out.ext GF)
                        have HO5' := Lib.hid (HO5.out.ext GF)
                        clear GF HB5 HD5 HS5 HO5
                        have HB5 := HB5'
                        have HD5 := HD5'
                        have HS5 := HS5'
                        have HO5 := HO5'
                        clear HB5' HD5' HS5' HO5'
                        clear s130
                        go_wp2_with fail
                        go_roundw
                        case rel => exact ⟨k + 1, d4, q.l, gs5, _, rfl, by omega, rfl, rfl, by go_num, HD5.out, HL4.out, HG4.out, HSec4.out, HS5.out, HO5.out, HB5.out⟩
                        case measure => simp [intOf]; omega
                    | false =>
                      go_wp2_with fail
                      go_roundw
                      case rel => exact ⟨k + 1, d4, q.l, gs, _, rfl, by omega, rfl, rfl, by go_num, HD4.out, HL4.out, HG4.out, HSec4.out, HS4.out, HO4.out, HB4.out⟩
                      case measure => simp [intOf]; omega
                  · skip
                    go_wp2_with fail
                    go_roundw
                    case rel => exact ⟨k + 1, d4, q.l, gs, _, rfl, by omega, rfl, rfl, by go_num, HD4.out, HL4.out, HG4.out, HSec4.out, HS4.out, HO4.out, HB4.out⟩
                    case measure => simp [intOf]; omega
            · go_wp2
              go_ret
              exact ⟨rfl, hbr⟩
          · obtain rfl : k = N := by omega
            clear HG hk
            go_wp2_with fail
            go_loopw [12] (fun i wx => ∃ (j : Nat) (wz : World), wz = wx ∧ j ≤ 10 ∧ i = .int .i64 ((300 + j : Nat) : Int) ∧ DW (fun _ => True) w.heap.size wz g pg 310 d1 PS.new 10 ∧ Own wz w2.heap.size 5 1 (some ⟨w2.heap.size, 0, none⟩) 256 256 (bvs mk) ∧ Below w.heap.size w wz) (fun i _ => 310 - (intOf i).toNat)
            case atStart => exact ⟨0, _, rfl, by omega, rfl, HD.out, HO.out, hbr⟩
            case round =>
              obtain ⟨j, wz, hwz, hj, rfl, hD, hO, hbz⟩ := hrel
              subst hwz
              have HDz := Lib.hid hD
              have HOz := Lib.hid hO
              clear hD hO HD HO HS hbr
              by_cases hlj : j < 10
              · go_wp2_with fail
                refine (HDz.out.read (by decide) (by decide) (by decide) ((300 + j : Nat) : Int) (b := mk) (E := 0) (by rw [read_awake HDz.out.ok rfl Hlife.out (by omega), HSec.out (300 + j) (by omega) (by omega), sec_bytes Hmk.out]; rfl)).mono ?_
                rintro e w5 ⟨a5, c5, k5, rfl, hk5, ho5, hd5, hm5⟩
                rw [Hmk.out] at hk5
                subst hk5
                rw [wake_on Hlife.out] at hd5
                have HD5 := Lib.hid hd5
                have HO5 := Lib.hid (HOz.out.mod hm5 fun b _ _ => DF_no_u8 b)
                have HP5 := Lib.hid ho5
                have HB5 := Lib.hid (hbz.trans (hm5.below (fun b T h => h.1) hbz.size))
                clear hd5 ho5 hm5 hbz HDz HOz
                go_wp2_with fail
                refine (bytes_at a5 c5 mk _ 256 mk w5 256 256 true HP5.out.src HO5.out.src Hmk.out.symm Hmk.out.symm (by decide) (by decide) (by simp)).mono ?_
                rintro e w6 ⟨rfl, nn, rfl⟩
                have hbd := ext_drewN w5 nn w5.heap.size
                have HB5' := Lib.hid (bthen HB5.out hbd (Nat.le_refl _))
                have HD5' := Lib.hid (HD5.out.ext hbd)
                have HO5' := Lib.hid (HO5.out.ext hbd)
                clear hbd HB5 HD5 HO5
                have HB5 := HB5'
                have HD5 := HD5'
                have HO5 := HO5'
                clear HB5' HD5' HO5'
                clear HP5
                go_wp2_with fail
                go_roundw
                case rel => exact ⟨j + 1, _, rfl, by omega, by go_num, HD5.out, HO5.out, HB5.out⟩
                case measure => simp [intOf]; omega
              · obtain rfl : j = 10 := by omega
                go_wp2_with fail
                refine (wakes10_any wz).mono ?_
                rintro e w6 ⟨rfl, hb6⟩
                have hbF := bthen hbz hb6 (Nat.le_refl _)
                clear hb6
                go_wp2
                go_ret
                exact ⟨rfl, hbF⟩
  · have hb0 := Below.refl w.heap.size w
    have h6 : 20 < N := by omega
    clear hN hL hm hs hn hol hcap h20
    go_enter Try.func9, Try.ntmps9
    go_wp2
    go_ret
    exact ⟨rfl, hb0⟩
end Go.Proofs.Ytogcejmnhiphgaa
