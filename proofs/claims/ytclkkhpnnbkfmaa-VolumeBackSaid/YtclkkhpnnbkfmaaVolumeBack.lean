/- The walk of VolumeBack. -/
import Derived.Test.YtclkkhpnnbkfmaaVolumeBackPartW
import Derived.Test.YtclkkhpnnbkfmaaVolumeBackPartY
import Derived.Test.YtclkkhpnnbkfmaaVolumeBackPartZ
import Derived.Test.YtclkkhpnnbkfmaaRecK
import Derived.Test.YtclkkhpnnbkfmaaRegionPhase
import Derived.Test.YtclkkhpnnbkfmaaRegionChain
import Derived.Test.YtclkkhpnnbkfmaaVolumeBackPartE
namespace Go.Proofs.Ytclkkhpnnbkfmaa
open Go.RowKit

set_option maxRecDepth 100000 in
set_option maxHeartbeats 16000000 in
theorem volumeBack_walk (w : World) (zs : Int) (ws : (Lit.int .i64 zs).wf = true) (aL : Option Addr) (cL : Nat) (l : List RRow) (hs : RRMat w aL l) (hl : l.length ≤ 9223372036854775807) (tr : Int) (wt : (Lit.int .i64 tr).wf = true) :
    Calls Try.prog 3 #[.int .i64 zs, .slice aL l.length cL, .int .i64 tr] w fun e w' => e = .returned (.bool true) ∧ Below w.heap.size w w' := by
  obtain ⟨iI, hiI, hzI0, hzI1, hzI2⟩ := info_parts infoRowI
  obtain ⟨iR, hiR, hzR0, hzR1, hzR2⟩ := info_parts infoRowR
  obtain ⟨N, hN⟩ : ∃ N, N = l.length := ⟨_, rfl⟩
  rw [← hN]
  have HN := Lib.hid hN
  have Hs := Lib.hid hs
  have hN2 : N ≤ 9223372036854775807 := by omega
  clear hs hN hl ws wt
  go_enter Try.func3, Try.ntmps3
  by_cases h1 : zs < 32
  · have e1 : decide (zs < 32) = true := by simpa using h1
    go_wp2
    go_ret
    exact ⟨rfl, Below.refl _ _⟩
  have e1 : decide (zs < 32) = false := by simpa using h1
  by_cases h2 : 256 < zs
  · have e2 : decide (zs > 256) = true := by simpa using h2
    go_wp2
    go_ret
    exact ⟨rfl, Below.refl _ _⟩
  have e2 : decide (zs > 256) = false := by simpa using h2
  by_cases h3 : 8 < N
  · have e3 : decide ((N : Int) > 8) = true := by simp; omega
    go_wp2
    go_ret
    exact ⟨rfl, Below.refl _ _⟩
  have e3 : decide ((N : Int) > 8) = false := by simp; omega
  obtain ⟨sz, rfl⟩ := Int.eq_ofNat_of_zero_le (show 0 ≤ zs by omega)
  have hsz : 32 ≤ sz ∧ sz ≤ 256 := by omega
  have hN8 : N ≤ 8 := by omega
  clear h1 h2 h3
  go_wp2_with fail
  refine (power_new w).mono ?_
  rintro e w1 ⟨g, rfl, hp1, hb1⟩
  go_wp2_with fail
  refine (drv_new (g := g) 400 none 0 0 [] w1 (CMat.nil _ _) rfl (by decide) (by simp) (by rfl)).mono ?_
  rintro e w2 ⟨d, a2, c2, cs2, rfl, h2, hb2⟩
  have HD : Hid (DrvP w.heap.size AllK w2 d g ⟨400, []⟩ 0 PS.new) := Lib.hid ⟨⟨_, _, _, _, h2.mono hb1.size fun _ _ _ => trivial⟩, hp1.ext hb2⟩
  have HB := Lib.hid (bthen hb1 hb2 (Nat.le_refl _))
  clear h2 hp1 hb1 hb2
  go_wp2_with fail
  refine (vol_new (d := d) (sz : Int) w2 (by omega)).mono ?_
  rintro e w3 ⟨vb, rfl, hv3, hb3⟩
  have HV := Lib.hid hv3
  have HB' := Lib.hid (bthen HB.out hb3 (Nat.le_refl _))
  have HD' := Lib.hid (HD.out.ext hb3)
  clear hb3 HB HD
  have HB := HB'
  have HD := HD'
  clear HB' HD'
  clear hv3
  go_wp2_with fail
  refine (vol_format 1 0 4 0 2 PS.new (volT 400 (lbytes 1 0 4) []) w3 HV.out HD.out (Up.all HB.out.size) (by rfl)
    (vFormat_ok (M := ⟨400, []⟩) (show (2 : Int) ≤ 400 by decide) (by decide) (lab_ok _ _ _))).mono ?_
  rintro e w4 ⟨rfl, hd4, hm4⟩
  have HD4 := Lib.hid hd4
  have HB4 := Lib.hid (HB.out.trans (hm4.below (fun b T h => h.1) HB.out.size))
  have HV4 := Lib.hid (HV.out.vf hm4)
  clear hd4 hm4 HD HB HV
  clear e1 e2 e3
  go_wp2_with fail
  go_loopw [11, 12, 13] (fun fv yv iv wr => ∃ (k G : Nat) (es : List Ent) (aF aY : Option Addr) (cF cY : Nat) (pt : Int) (wx : World), wx = wr ∧ k ≤ N ∧ G ≤ k ∧ fv = .slice aF G cF ∧ yv = .slice aY G cY ∧ iv = .int .i64 (k : Int) ∧ EntsAt wx w.heap.size aF G cF aY cY es ∧ (∀ e ∈ es, e.ok (sz : Int) w) ∧ VolOk 400 (lbytes 1 0 4) (entG es) ∧ VolAt wx vb d (sz : Int) ∧ DrvP w.heap.size AllK wx d g (volT 400 (lbytes 1 0 4) (entG es)) pt PS.new ∧ DGood (volT 400 (lbytes 1 0 4) (entG es)) pt ∧ Below w.heap.size w wx) (fun _ _ iv _ => N - (intOf iv).toNat)
  case atStart => exact ⟨0, 0, [], none, none, 0, 0, 2, _, rfl, by omega, by omega, rfl, rfl, rfl, ⟨rfl, Own.nil _ _ _ _ _, Own.nil _ _ _ _ _, (fun e he => by cases he)⟩, (fun e he => by cases he), volOk_new (by decide), HV4.out, HD4.out, ⟨(volOk_new (cap := 400) (by decide)).ok, 2, rfl, Nat.le_refl _⟩, HB4.out⟩
  case round =>
    obtain ⟨k, G, es, aF, aY, cF, cY, pt, wx, hwx, hk, hGk, rfl, rfl, rfl, hE, hall, hok, hV, hD, hgp, hbx⟩ := hrel
    subst hwx
    clear HD4 HB4 HV4
    have HV := Lib.hid hV
    have HD := Lib.hid hD
    have HB := Lib.hid hbx
    have HOK := Lib.hid hok
    have HG := Lib.hid hok.good
    have HGP := Lib.hid hgp
    have HE := Lib.hid hE
    have Hall := Lib.hid hall
    have hGe : G = (entG es).length := by rw [entG_length]; exact hE.len
    have HGe := Lib.hid hGe
    clear hV hD hbx hok hgp hE hall hGe
    by_cases hkN : k < N
    · as_aux_lemma =>
        have hkl : k < l.length := by rw [← HN.out]; exact hkN
        obtain ⟨rb, ro, rfl, hlr, hat⟩ := Hs.out.at hkl
        have q0 := hat k hkl
        have hrow := Hs.out.ok _ (List.getElem_mem hkl)
        clear hat
        generalize l[k] = y at q0 hrow
        obtain ⟨n, hn⟩ : ∃ n, n = y.rs.length := ⟨_, rfl⟩
        rw [← hn] at q0
        have Hn := Lib.hid hn
        have Hrow := Lib.hid hrow
        have Q0 := Lib.hid q0
        have hn2 : n ≤ 9223372036854775807 := by rw [hn]; exact hrow.2.1
        have r0 := (World.cell?_of_block (w := w) (a := ⟨rb, ro + k, none⟩) (HB.out.block rb hlr)).trans q0
        clear hn hrow q0
        by_cases hn1 : n < 1
        · have hn1' : (n : Int) < 1 := by omega
          go_wp2
          go_ret
          exact ⟨rfl, HB.out⟩
        have hn1' : ¬ (n : Int) < 1 := by omega
        cases hhv2 : heavy06 y.rs with
        | true =>
          have Hhv2 := Lib.hid hhv2
          clear hhv2
          go_wp2_with fail
          refine (heavy06_at y.a y.c n y.rs true wx (Hrow.out.1.ext HB.out) Hn.out hn2 Hhv2.out).mono ?_
          rintro e wz ⟨rfl, rfl⟩
          go_wp2
          go_ret
          exact ⟨rfl, HB.out⟩
        | false =>
          have Hhv2 := Lib.hid hhv2
          clear hhv2
          go_wp2_with fail
          refine (heavy06_at y.a y.c n y.rs false wx (Hrow.out.1.ext HB.out) Hn.out hn2 Hhv2.out).mono ?_
          rintro e wz ⟨rfl, rfl⟩
          go_wp2_with fail
          clear r0
          rcases vAppend_all (size := (sz : Int)) (at_ := pt) (l := recs y.rs) HOK.out with ⟨E, hap, hE⟩ | ⟨rows, hap, hpk, hok2⟩
          · rw [← HGe.out] at hap
            have HAP := Lib.hid hap
            have HGX : Hid (DGood (volT 400 (lbytes 1 0 4) (entG es)) 0) := HG
            clear hap
            refine (vol_append (G : Int) y.a y.c n y.rs [] E 0 PS.new (volT 400 (lbytes 1 0 4) (entG es)) wx HV.out HD.out (Up.all HB.out.size) HOK.out.ok (fun w' hm => Hrow.out.1.ext (HB.out.trans (hm.below (fun b T h => h.1) HB.out.size))) Hn.out hn2 (by omega) HAP.out).mono ?_
            rintro e w8 ⟨aO, no, cO, rfl, hno, hO, hd8, hm8⟩
            have HD8 := Lib.hid hd8
            have HB8 := Lib.hid (HB.out.trans (hm8.below (fun b T h => h.1) HB.out.size))
            have HV8 := Lib.hid (HV.out.vf hm8)
            have HE8 := Lib.hid (HE.out.vf hm8)
            clear hno hO hd8 hm8 HD HB HV HAP HE
            rcases hE with rfl | rfl | rfl
            all_goals (
              go_wp2_with fail
              go_roundw
              case rel => exact ⟨k + 1, G, es, aF, aY, cF, cY, 0, _, rfl, by omega, by omega, rfl, rfl, by go_num, HE8.out, Hall.out, HOK.out, HV8.out, HD8.out, HG.out, HB8.out⟩
              case measure => simp [intOf]; omega)
          · rw [← HGe.out] at hap
            have HAP := Lib.hid hap
            have HPK := Lib.hid hpk
            have HOK2 := Lib.hid hok2
            clear hap hpk hok2
            refine (vol_append (G : Int) y.a y.c n y.rs (offsP (recs y.rs)) 0 ((2 + lenA (entG es) + rows.length + 1 : Nat) : Int) PS.new (volT 400 (lbytes 1 0 4) (entG es ++ [rows])) wx HV.out HD.out (Up.all HB.out.size) HOK.out.ok (fun w' hm => Hrow.out.1.ext (HB.out.trans (hm.below (fun b T h => h.1) HB.out.size))) Hn.out hn2 (by omega) HAP.out).mono ?_
            rintro e w8 ⟨aO, no, cO, rfl, hno, hO, hd8, hm8⟩
            have hnn : no = n := by
              rw [hno, Hn.out]
              unfold offsP
              rw [List.length_map, List.length_range, recs_length]
            subst hnn
            have HD8 := Lib.hid hd8
            have HB8 := Lib.hid (HB.out.trans (hm8.below (fun b T h => h.1) HB.out.size))
            have HV8 := Lib.hid (HV.out.vf hm8)
            have HE8 := Lib.hid (HE.out.vf hm8)
            have HO8 := Lib.hid (hO.mono HB.out.size)
            clear hno hO hd8 hm8 HD HB HV HAP HE
            have HE := HE8
            clear HE8
            have r0 := (World.cell?_of_block (w := w) (a := ⟨rb, ro + k, none⟩) (HB8.out.block rb hlr)).trans Q0.out
            have hlr8 : rb < w8.heap.size := Nat.lt_of_lt_of_le hlr HB8.out.size
            go_wp2_with fail
            refine wp_region_chain (by kernel_rfl) [3, 10, 11, 12] (Keeps.rel (fun b => b < w.heap.size ∨ w8.heap.size ≤ b)) [SpT.eq (.slice aF G cF), SpT.eq (.slice aO no cO), ⟨fun w' v => ∃ g, v = .slice (some ⟨g, 0, none⟩) 1 1 ∧ w8.heap.size ≤ g ∧ w'.heap[g]? = some (.cells #[.slice aO no cO] 41), fun _ _ _ ⟨g, h, hg, hc⟩ ht => ⟨g, h, hg, (ht.block g (.inr hg) (heap_lt hc)).trans hc⟩⟩, SpT.top, SpT.eq (.slice aY G cY), SpT.eq (.slice (some ⟨rb, ro, none⟩) N cL), SpT.eq (.int .i64 (k : Int)), SpT.eq (.pointer (some ⟨rb, ro + k, none⟩)), SpT.eq (.slice y.a no y.c), ⟨fun w' v => ∃ g, v = .slice (some ⟨g, 0, none⟩) 1 1 ∧ w8.heap.size ≤ g ∧ w'.heap[g]? = some (.cells #[.slice y.a no y.c] 39), fun _ _ _ ⟨g, h, hg, hc⟩ ht => ⟨g, h, hg, (ht.block g (.inr hg) (heap_lt hc)).trans hc⟩⟩, SpT.top, SpT.top, SpT.top] (by kernel_rfl) (by kernel_rfl) (by kernel_rfl) ?_ ?_
            · refine stepsF_free rfl ?_ (stepsF_free rfl ?_ (stepsF_free rfl ?_ (stepsF_chain rfl (stepsF_free rfl ?_ (stepsF_free rfl ?_ (stepsF_free rfl ?_ (stepsF_free rfl ?_ (stepsF_free rfl ?_ (stepsF_free rfl ?_ (stepsF_chain rfl (stepsF_chain rfl (stepsF_chain rfl (stepsF_nil)))))))))))))
              · intro ρ w' E
                have e11 : ρ (.tmp 11) = .slice aF G cF := E.old 11 11 rfl rfl
                refine step_plain rfl ?_
                exact op_move (.inl rfl) e11 ⟨Below.refl _ _, rfl⟩
              · intro ρ w' E
                have e14 : ρ (.tmp 14) = .slice aO no cO := E.out 14 rfl
                refine step_plain rfl ?_
                exact op_move (.inl rfl) e14 ⟨Below.refl _ _, rfl⟩
              · intro ρ w' E
                have e124 : ρ (.tmp 124) = .slice aO no cO := E.pre 1 rfl
                refine step_plain rfl ?_
                refine op_val (v := .slice (some ⟨w'.heap.size, 0, none⟩) 1 1) (w' := w'.alloc (.cells #[.slice aO no cO] 41)) (by have hcon := E.con; clear E r0; go_simp) ⟨ext_alloc _ _, w'.heap.size, rfl, E.t.size, heap_alloc_new _ _⟩
              · intro ρ w' E
                have e12 : ρ (.tmp 12) = .slice aY G cY := E.old 12 12 rfl rfl
                refine step_plain rfl ?_
                exact op_move (.inl rfl) e12 ⟨Below.refl _ _, rfl⟩
              · intro ρ w' E
                have e1 : ρ (.tmp 1) = .slice (some ⟨rb, ro, none⟩) N cL := E.out 1 rfl
                refine step_plain rfl ?_
                exact op_move (.inl rfl) e1 ⟨Below.refl _ _, rfl⟩
              · intro ρ w' E
                have e13 : ρ (.tmp 13) = .int .i64 (k : Int) := E.out 13 rfl
                refine step_plain rfl ?_
                exact op_move (.inl rfl) e13 ⟨Below.refl _ _, rfl⟩
              · intro ρ w' E
                have e128 : ρ (.tmp 128) = .slice (some ⟨rb, ro, none⟩) N cL := E.pre 5 rfl
                have e129 : ρ (.tmp 129) = .int .i64 (k : Int) := E.pre 6 rfl
                refine step_plain rfl ?_
                refine op_val (v := .pointer (some ⟨rb, ro + k, none⟩)) (w' := w') ?_ ⟨Below.refl _ _, rfl⟩
                have hcon := E.con
                clear E
                go_simp
              · intro ρ w' E
                have e130 : ρ (.tmp 130) = .pointer (some ⟨rb, ro + k, none⟩) := E.pre 7 rfl
                refine step_plain rfl ?_
                refine op_val (v := .slice y.a no y.c) (w' := w') ?_ ⟨Below.refl _ _, rfl⟩
                have hk := (World.cell?_of_block (w := w8) (E.t.block rb (.inl hlr) hlr8)).trans r0
                have hcon := E.con
                clear E r0
                go_simp
              · intro ρ w' E
                have e131 : ρ (.tmp 131) = .slice y.a no y.c := E.pre 8 rfl
                refine step_plain rfl ?_
                refine op_val (v := .slice (some ⟨w'.heap.size, 0, none⟩) 1 1) (w' := w'.alloc (.cells #[.slice y.a no y.c] 39)) (by have hcon := E.con; clear E r0; go_simp) ⟨ext_alloc _ _, w'.heap.size, rfl, E.t.size, heap_alloc_new _ _⟩
            · intro ρ1 w1c G1 E1
              have e123 : ρ1 (.tmp 123) = .slice aF G cF := E1.pre 0 rfl rfl
              have p125 : (fun w' v => ∃ g, v = .slice (some ⟨g, 0, none⟩) 1 1 ∧ w8.heap.size ≤ g ∧ w'.heap[g]? = some (.cells #[.slice aO no cO] 41)) w1c (ρ1 (.tmp 125)) := E1.pre 2 rfl rfl
              refine step_plain rfl ?_
              obtain ⟨g1, e125, hg1, hc1⟩ := p125
              have hsz1 : w.heap.size ≤ w1c.heap.size := Nat.le_trans HB8.out.size G1.size
              refine op_appm (s := .tmp 123) (x := .tmp 125) (t := 38) rfl w.heap.size 41 iI (.slice none 0 0) 1 24 Try.underlying38 hiI hzI0 hzI1 hzI2 rfl (by decide) aF G cF (es.map Ent.ov) e123 (HE.out.fr.ext G1) (some ⟨g1, 0, none⟩) 1 1 [.slice aO no cO] e125 rfl (Or.inr ⟨g1, 0, _, _, _, rfl, hc1, rfl⟩) (by simp [Value.oneCell']) (by unfold maxLen; omega) (by omega) hsz1 ?_
              intro a1x c1x w1x hA1
              refine ⟨⟨hA1.below.size, fun b hb hl => hA1.rest b hl (HE.out.fr.far hb)⟩, ?_⟩
              intro ρ2 w2c G2 E2
              have e127 : ρ2 (.tmp 127) = .slice aY G cY := E2.pre 4 rfl rfl
              have p132 : (fun w' v => ∃ g, v = .slice (some ⟨g, 0, none⟩) 1 1 ∧ w8.heap.size ≤ g ∧ w'.heap[g]? = some (.cells #[.slice y.a no y.c] 39)) w2c (ρ2 (.tmp 132)) := E2.pre 9 rfl rfl
              refine step_plain rfl ?_
              obtain ⟨g2, e132, hg2, hc2⟩ := p132
              have hsz2 : w.heap.size ≤ w2c.heap.size := Nat.le_trans (Nat.le_trans hsz1 hA1.below.size) G2.size
              refine op_appm (s := .tmp 127) (x := .tmp 132) (t := 22) rfl w.heap.size 39 iR (.slice none 0 0) 1 24 Try.underlying22 hiR hzR0 hzR1 hzR2 rfl (by decide) aY G cY (es.map Ent.yv) e127 (((HE.out.yr.ext G1).mod (hA1.mod (fun _ T => T = 41) fun _ _ _ _ => rfl) fun b _ _ => by decide).ext G2) (some ⟨g2, 0, none⟩) 1 1 [.slice y.a no y.c] e132 rfl (Or.inr ⟨g2, 0, _, _, _, rfl, hc2, rfl⟩) (by simp [Value.oneCell']) (by unfold maxLen; omega) (by omega) hsz2 ?_
              intro a2x c2x w2x hA2
              refine ⟨⟨hA2.below.size, fun b hb hl => hA2.rest b hl (HE.out.yr.far hb)⟩, ?_⟩
              intro ρ3 w3c G3 E3
              have e126 : ρ3 (.tmp 126) = .slice a1x (G + 1) c1x := E3.chn 3 126 rfl rfl rfl
              refine step_plain rfl ?_
              refine op_move (.inr rfl) e126 ⟨(Keeps.rel (fun b => b < w.heap.size ∨ w8.heap.size ≤ b)).of (Below.refl _ _), ?_⟩
              intro ρ4 w4c G4 E4
              have e133 : ρ4 (.tmp 133) = .slice a2x (G + 1) c2x := E4.chn 10 133 rfl rfl rfl
              refine step_plain rfl ?_
              refine op_move (.inr rfl) e133 ⟨(Keeps.rel (fun b => b < w.heap.size ∨ w8.heap.size ≤ b)).of (Below.refl _ _), ?_⟩
              intro σ wF GF TF hκ
              have h11 : σ 11 = .slice a1x (G + 1) c1x := hκ 11 11 rfl rfl
              have h12 : σ 12 = .slice a2x (G + 1) c2x := hκ 12 12 rfl rfl
              clear hκ
              simp only [upd, updL, dstsOf', elemB, List.filterMap_cons, List.filterMap_nil, Nat.reduceAdd, Nat.reduceBEq, Bool.or_false, Bool.false_or, Bool.or_true, Bool.true_or, cond_true, cond_false, Nat.zero_add, h11, h12]
              have hGG := bthen (bthen G3 G4 (Nat.le_refl _)) GF (Nat.le_refl _)
              have hM1 := hA1.mod (fun _ T => T = 41 ∨ T = 39) fun _ _ _ _ => .inl rfl
              have hM2 := hA2.mod (fun _ T => T = 41 ∨ T = 39) fun _ _ _ _ => .inr rfl
              have hMF := ((((bmod G1 _).trans hM1).trans (bmod G2 _)).trans hM2).trans (bmod hGG _)
              have HDF := Lib.hid (HD8.out.mod hMF fun b T hf => by rcases hf with rfl | rfl <;> decide)
              have HVF := Lib.hid (hMF.keep HV8.out (by rintro (h | h) <;> revert h <;> decide))
              have HBF := Lib.hid ((((HB8.out.trans (G1.mono HB8.out.size)).trans hA1.below).trans (G2.mono (Nat.le_trans hsz1 hA1.below.size))).trans (hA2.below.trans (hGG.mono (Nat.le_trans hsz2 hA2.below.size))))
              have hM3 := hA2.mod (fun _ T => T = 39) fun _ _ _ _ => rfl
              have hEnt : EntsAt wF w.heap.size a1x (G + 1) c1x a2x c2x (es ++ [⟨y, aO, cO, rows⟩]) := by
                refine ⟨by rw [List.length_append, HE.out.len]; rfl, ?_, ?_, fun e he => ?_⟩
                · have := ((hA1.own.ext G2).mod hM3 fun b _ _ => by decide).ext hGG
                  rw [Hn.out] at this
                  rw [List.map_append]
                  exact this
                · have := hA2.own.ext hGG
                  rw [Hn.out] at this
                  rw [List.map_append]
                  exact this
                · rcases List.mem_append.1 he with he | he
                  · exact (HE.out.ints e he).mod hMF fun b _ _ => by decide
                  · rw [List.mem_singleton.1 he]
                    have := HO8.out.mod hMF fun b _ _ => by decide
                    rw [Hn.out] at this
                    exact this
              have HEF := Lib.hid hEnt
              have HallF : Hid (∀ e ∈ es ++ [(⟨y, aO, cO, rows⟩ : Ent)], e.ok (sz : Int) w) := Lib.hid fun e he => by
                rcases List.mem_append.1 he with he | he
                · exact Hall.out e he
                · rw [List.mem_singleton.1 he]
                  exact ⟨HPK.out, Hrow.out, by have := HPK.out.ok.few.2; rw [recs_length] at this; exact this⟩
              have heG : entG (es ++ [(⟨y, aO, cO, rows⟩ : Ent)]) = entG es ++ [rows] := by unfold entG; rw [List.map_append]; rfl
              have HeG := Lib.hid heG
              have HGF : Hid (DGood (volT 400 (lbytes 1 0 4) (entG es ++ [rows])) ((2 + lenA (entG es) + rows.length + 1 : Nat) : Int)) := Lib.hid ⟨HOK2.out.ok, _, rfl, by rw [volT_len, lenA_snoc]; omega⟩
              clear hEnt heG hA1 hA2 hM1 hM2 hM3 hMF hGG hg1 hg2 hc1 hc2 E1 E2 E3 E4 G1 G2 G3 G4 GF TF h11 h12 r0 hsz1 hsz2
              go_wp2_with fail
              go_roundw
              case rel => exact ⟨k + 1, G + 1, es ++ [⟨y, aO, cO, rows⟩], a1x, a2x, c1x, c2x, _, _, rfl, by omega, by omega, rfl, rfl, by go_num, HEF.out, HallF.out, by rw [HeG.out]; exact HOK2.out, HVF.out, by rw [HeG.out]; exact HDF.out, by rw [HeG.out]; exact HGF.out, HBF.out⟩
              case measure => simp [intOf]; omega
    · obtain rfl : N = k := by omega
      have hGm : G ≤ 8 := by omega
      obtain ⟨n, hn, en⟩ := umod tr ((G : Int) + 1) (by omega) (by omega)
      have hnG : n ≤ G := by omega
      have hwg : IntKind.i64.wrap ((G : Int) + 1) = (G : Int) + 1 := by rw [IntKind.wrap_i64]; omega
      have hug : IntKind.u64.wrap ((G : Int) + 1) = (G : Int) + 1 := by rw [IntKind.wrap_u64]; omega
      have hzg : ¬ ((G : Int) + 1 = 0) := by omega
      clear hk hkN
      go_wp2_with fail
      refine (vol_files (G : Int) wx HV.out HD.out HOK.out.ok (by rw [HOK.out.files, HGe.out])).mono ?_
      rintro e w5 ⟨rfl, hb5⟩
      have HD5 := Lib.hid (HD.out.ext hb5)
      have HV5 := Lib.hid (HV.out.ext hb5)
      have HB5 := Lib.hid (bthen HB.out hb5 (Nat.le_refl _))
      have HE5 := Lib.hid (HE.out.ext hb5)
      clear hb5 HD HV HB HE
      go_wp2_with fail
      rw [en]
      clear en hwg hug hzg hn
      have hEl : G = es.length := HE5.out.len
      have HEl := Lib.hid hEl
      have htG : (entG es).take G = entG es := List.take_of_length_le (by rw [← HGe.out]; exact Nat.le_refl _)
      have HtG := Lib.hid htG
      clear hEl htG
      go_loopw [17] (fun kv wr => ∃ (kk q : Nat) (pt : Int) (wy : World), wy = wr ∧ kk ≤ 2 ∧ kv = .int .i64 (kk : Int) ∧ (kk = 0 ∧ q = G ∨ 1 ≤ kk ∧ q = n) ∧ EntsAt wy w.heap.size aF G cF aY cY es ∧ VolAt wy vb d (sz : Int) ∧ DrvP w.heap.size AllK wy d g (volT 400 (lbytes 1 0 4) ((entG es).take q)) pt PS.new ∧ DGood (volT 400 (lbytes 1 0 4) ((entG es).take q)) pt ∧ Below w.heap.size w wy) (fun kv _ => 2 - (intOf kv).toNat)
      case atStart => exact ⟨0, G, pt, _, rfl, by omega, rfl, .inl ⟨rfl, rfl⟩, HE5.out, HV5.out, by rw [HtG.out]; exact HD5.out, by rw [HtG.out]; exact HGP.out, HB5.out⟩
      case round =>
        obtain ⟨kk, q, pt, wy, hwy, hkk, rfl, hkq, hE, hV, hD, hgp, hby⟩ := hrel
        subst hwy
        clear HD5 HV5 HB5 HE5 HGP
        have HE := Lib.hid hE
        have HV := Lib.hid hV
        have HD := Lib.hid hD
        have HGP := Lib.hid hgp
        have HB := Lib.hid hby
        have Hkq := Lib.hid hkq
        have HOQ : Hid (VolOk 400 (lbytes 1 0 4) ((entG es).take q)) := Lib.hid (HOK.out.take q)
        have hqG : q ≤ G := by omega
        clear hE hV hD hgp hby
        by_cases hk2 : kk < 2
        · have hk2' : (kk : Int) < 2 := by omega
          go_wp2_with fail
          by_cases hk1 : kk = 0
          · obtain rfl : G = q := by rcases Hkq.out with ⟨_, h⟩ | ⟨h, _⟩; exact h.symm; omega
            have Hk0 := Lib.hid hk1
            have ek1 : ((kk : Int) == 1) = false := by simp; omega
            have ek0 : ((kk : Int) == 0) = true := by simp; omega
            clear Hkq hk1
            as_aux_lemma =>
              go_loopw [18] (fun iv wr => ∃ (i : Nat) (pt : Int) (wz : World), wz = wr ∧ i ≤ G ∧ iv = .int .i64 (i : Int) ∧ EntsAt wz w.heap.size aF G cF aY cY es ∧ VolAt wz vb d (sz : Int) ∧ DrvP w.heap.size AllK wz d g (volT 400 (lbytes 1 0 4) ((entG es).take G)) pt PS.new ∧ DGood (volT 400 (lbytes 1 0 4) ((entG es).take G)) pt ∧ Below w.heap.size w wz) (fun iv _ => G - (intOf iv).toNat)
              case atStart => exact ⟨0, pt, _, rfl, by omega, rfl, HE.out, HV.out, HD.out, HGP.out, HB.out⟩
              case round =>
                obtain ⟨i, pt, wz, hwz, hi, rfl, hE, hV, hD, hgp, hbz⟩ := hrel
                subst hwz
                clear HE HV HD HGP HB
                have HE := Lib.hid hE
                have HV := Lib.hid hV
                have HD := Lib.hid hD
                have HGP := Lib.hid hgp
                have HB := Lib.hid hbz
                clear hE hV hD hgp hbz
                by_cases hiG : i < G
                · have hwi : IntKind.i64.wrap ((i : Int) + 1) = (i : Int) + 1 := by rw [IntKind.wrap_i64]; omega
                  by_cases hiq : i < G
                  · have hie : i < es.length := by rw [← HEl.out]; exact hiG
                    have hok := Hall.out _ (List.getElem_mem hie)
                    have hgi : ((entG es).take G)[i]? = some es[i].rows := by rw [List.getElem?_take, if_pos hiq]; exact entG_get hie
                    have hints := fun (w' : World) (h : EntsAt w' w.heap.size aF G cF aY cY es) => h.ints _ (List.getElem_mem hie)
                    obtain ⟨gF, gY, rfl, rfl, hlF, hlY, v0, v1⟩ := HE.out.at hie
                    obtain ⟨en, hen⟩ : ∃ e, e = es[i] := ⟨_, rfl⟩
                    rw [← hen] at hok hgi hints v0 v1
                    have HIN := Lib.hid hints
                    have Hen := Lib.hid hen
                    have Hok := Lib.hid hok
                    have Hgi := Lib.hid hgi
                    obtain ⟨M, hM⟩ : ∃ m, m = en.y.rs.length := ⟨_, rfl⟩
                    have hMl : M ≤ 64 := by rw [hM]; exact hok.few
                    have HM := Lib.hid hM
                    unfold Ent.ov at v0
                    unfold Ent.yv at v1
                    rw [← hM] at v0 v1
                    have V0 := Lib.hid v0
                    have V1 := Lib.hid v1
                    clear hok hgi hints hen hM v0 v1
                    obtain ⟨pS, hS⟩ := vScan_vol (at_ := pt) HOQ.out Hgi.out Hok.out.pk
                    have HS := Lib.hid hS
                    have HGS : Hid (DGood (volT 400 (lbytes 1 0 4) ((entG es).take G)) pS) := Lib.hid (by have := vScan_good (s := PS.new) (file := (i : Int) + 1) HGP.out; rw [HS.out] at this; exact this)
                    clear hS
                    go_wp2_with fail
                    refine (vol_scan ((i : Int) + 1) (recs en.y.rs) (offsP (recs en.y.rs)) true 0 pS _ HV.out HD.out HB.out.size HOQ.out.ok (by omega) HS.out).mono ?_
                    rintro e w20 ⟨aR, nR, cR, vs, aI, cI, rfl, hn1, hn2, hrec, hrl, hoff, hd20, hm20⟩
                    have hnm : nR = M := by
                      rw [hn2]
                      unfold offsP
                      rw [List.length_map, List.length_range, recs_length, HM.out]
                    subst hnm
                    have Hn1 := Lib.hid hn1
                    have HREC := Lib.hid hrec
                    have HRL := Lib.hid hrl
                    have HOFF := Lib.hid hoff
                    have HD20 := Lib.hid hd20
                    have HV20 := Lib.hid (HV.out.vf hm20)
                    have HE20 := Lib.hid (HE.out.vf hm20)
                    have HB20 := Lib.hid (HB.out.trans (hm20.below (fun b T h => h.1) HB.out.size))
                    obtain ⟨x9, y9, hx9, hy9, hlF2, hlY2, v0, v1⟩ := HE20.out.at (i := i) (by rw [← HEl.out]; exact hiG)
                    simp only [Option.some.injEq, Addr.mk.injEq, and_true] at hx9 hy9
                    subst hx9 hy9
                    rw [← Hen.out] at v0 v1
                    unfold Ent.ov at v0
                    unfold Ent.yv at v1
                    rw [← HM.out] at v0 v1
                    clear hn1 hn2 hrec hrl hoff hd20 hm20 HD HV HE HB HS V0 V1 hlF hlY
                    go_wp2_with fail
                    have Hsy := Lib.hid (Hok.out.row.1.ext HB20.out)
                    refine (records_at aR cR vs en.y.a en.y.c en.y.rs w20 nR nR true HREC.out.mat Hsy.out Hn1.out HM.out (by omega) (by omega) (by rw [HRL.out]; simp)).mono ?_
                    rintro e w21 ⟨rfl, hb21⟩
                    have HOFF21 := Lib.hid (HOFF.out.ext hb21)
                    have HD21 := Lib.hid (HD20.out.ext hb21)
                    have HV21 := Lib.hid (HV20.out.ext hb21)
                    have HE21 := Lib.hid (HE20.out.ext hb21)
                    have HB21 := Lib.hid (bthen HB20.out hb21 (Nat.le_refl _))
                    have w0 := (World.cell?_of_block (w := w20) (a := ⟨gF, i, none⟩) (hb21.block gF hlF2)).trans v0
                    have w1 := (World.cell?_of_block (w := w20) (a := ⟨gY, i, none⟩) (hb21.block gY hlY2)).trans v1
                    clear hb21 HOFF HD20 HV20 HE20 HB20 HREC Hsy v0 v1
                    go_wp2_with fail
                    have Hol : Hid (nR = (offsP (recs en.y.rs)).length) := Lib.hid (by
                      unfold offsP
                      rw [List.length_map, List.length_range, recs_length, HM.out])
                    refine (keepints_at aI cI (offsP (recs en.y.rs)) en.ao en.co (offsP (recs en.y.rs)) w21 nR nR true HOFF21.out.src (HIN.out _ HE21.out).src Hol.out Hol.out (by omega) (by omega) (by simp)).mono ?_
                    rintro e w22 ⟨rfl, hb22⟩
                    have HD22 := Lib.hid (HD21.out.ext hb22)
                    have HV22 := Lib.hid (HV21.out.ext hb22)
                    have HE22 := Lib.hid (HE21.out.ext hb22)
                    have HB22 := Lib.hid (bthen HB21.out hb22 (Nat.le_refl _))
                    clear hb22 HOFF21 HD21 HV21 HE21 HB21 w0 w1 hlF2 hlY2
                    go_wp2_with fail
                    go_loopw [23] (fun jv wr => ∃ (j : Nat) (pt : Int) (wx : World), wx = wr ∧ j ≤ nR ∧ jv = .int .i64 (j : Int) ∧ EntsAt wx w.heap.size (some ⟨gF, 0, none⟩) G cF (some ⟨gY, 0, none⟩) cY es ∧ VolAt wx vb d (sz : Int) ∧ DrvP w.heap.size AllK wx d g (volT 400 (lbytes 1 0 4) ((entG es).take G)) pt PS.new ∧ DGood (volT 400 (lbytes 1 0 4) ((entG es).take G)) pt ∧ Below w.heap.size w wx) (fun jv _ => nR - (intOf jv).toNat)
                    case atStart => exact ⟨0, pS, _, rfl, by omega, rfl, HE22.out, HV22.out, HD22.out, HGS.out, HB22.out⟩
                    case round =>
                      obtain ⟨j, pt, wx, hwx, hj, rfl, hE, hV, hD, hgp, hbx⟩ := hrel
                      subst hwx
                      clear HE22 HV22 HD22 HGS HB22 HGP
                      have HE := Lib.hid hE
                      have HV := Lib.hid hV
                      have HD := Lib.hid hD
                      have HGP := Lib.hid hgp
                      have HB := Lib.hid hbx
                      clear hE hV hD hgp hbx
                      obtain ⟨x9, y9, hx9, hy9, hlF, hlY, v0, v1⟩ := HE.out.at (i := i) (by rw [← HEl.out]; exact hiG)
                      simp only [Option.some.injEq, Addr.mk.injEq, and_true] at hx9 hy9
                      subst hx9 hy9
                      rw [← Hen.out] at v0 v1
                      unfold Ent.ov at v0
                      unfold Ent.yv at v1
                      rw [← HM.out] at v0 v1
                      by_cases hjn : j < nR
                      · as_aux_lemma =>
                          have hjl : j < en.y.rs.length := by rw [← HM.out]; exact hjn
                          have hjr : j < (recs en.y.rs).length := by rw [recs_length]; exact hjl
                          have hon := HIN.out _ HE.out
                          rw [← HM.out] at hon
                          obtain ⟨ob, hob, _, hlO, hato, _⟩ := hon.at (i := j) hjn
                          obtain ⟨yb, yo, hyb, hlR0, hatr⟩ := Hok.out.row.1.at hjl
                          obtain ⟨q0, _, q2⟩ := hatr j hjl
                          have hok_d := Hok.out.row.1.row _ (List.getElem_mem hjl)
                          obtain ⟨rr, hrr⟩ : ∃ r, r = en.y.rs[j] := ⟨_, rfl⟩
                          rw [← hrr] at q0 q2 hok_d
                          have hrp : (recs en.y.rs)[j] = rr.pl := by rw [hrr]; simp [recs]
                          obtain ⟨oj, hoj⟩ : ∃ n, n = offP (recs en.y.rs) j := ⟨_, rfl⟩
                          have hvl : j < (ivs en.of).length := by rw [ivs_length]; unfold Ent.of offsP; rw [List.length_map, List.length_range]; exact hjr
                          have v2 := hato j hvl
                          have hve : (ivs en.of)[j] = .int .i64 (oj : Int) := by rw [hoj]; unfold ivs Ent.of offsP; simp
                          rw [hve] at v2
                          have hfr := frame_at Hok.out.pk.ok hjr
                          rw [hrp, ← hoj] at hfr
                          obtain ⟨da, dc, dd, hdd⟩ : ∃ da dc dd, rr.d = (⟨da, dc, dd⟩ : Bsl) := ⟨_, _, _, rfl⟩
                          obtain ⟨dl, hdl⟩ : ∃ n, n = dd.length := ⟨_, rfl⟩
                          have hpd : rr.pl.d = dd := by show rr.d.l = dd; rw [hdd]
                          rw [hdd] at q2 hok_d
                          dsimp only at q2
                          rw [hpd, ← hdl] at hfr
                          rw [← hdl] at q2
                          obtain ⟨fr, hfrr⟩ : ∃ f, f = frameOf rr.pl := ⟨_, rfl⟩
                          rw [← hfrr] at hfr
                          have hfl : fr.length = 13 + dl := by rw [hfrr, frameOf_length, hpd, hdl]
                          obtain ⟨bz, tz, hbz, hbk⟩ := frame_kind (r := rr.pl) (by rw [← hrp]; exact (Hok.out.pk.ok.ok _ (List.getElem_mem hjr)).1)
                          obtain ⟨kd, hkd⟩ : ∃ k, k = rr.kind := ⟨_, rfl⟩
                          have hdrop : fr.drop 13 = dd := by rw [hfrr, frame_drop, hpd]
                          rw [← hfrr] at hbz
                          have hbk2 : ((bz.toNat : Nat) : Int) = kd := by rw [hkd]; exact hbk
                          rw [← hkd] at q0
                          have hWl : (joinB (aggrL (recs en.y.rs))).length ≤ 102400 := by
                            have := HOQ.out.bytes (List.mem_of_getElem? Hgi.out)
                            rw [Hok.out.pk.flat] at this
                            exact this
                          have hrows : en.rows = rowsC (joinB (aggrL (recs en.y.rs))) sz := by have := Hok.out.pk.eq; rw [Int.toNat_natCast] at this; exact this
                          obtain ⟨pR, hR⟩ := vRead_vol (off := oj) (n := 13 + dl) (at_ := pt) (sz := sz) (by have := Hgi.out; rw [hrows] at this; exact this) (by omega) (by omega)
                          have hpc : pieceP (joinB (aggrL (recs en.y.rs))) oj (13 + dl) = (fr, 0) := by
                            unfold pieceP
                            rw [if_neg (by omega), if_pos hfr.2, hfr.1]
                          rw [hpc] at hR
                          have HRD := Lib.hid hR
                          have HGR : Hid (DGood (volT 400 (lbytes 1 0 4) ((entG es).take G)) pR) := Lib.hid (by have := vRead_good (s := PS.new) (sz := sz) (file := (i : Int) + 1) (off := (oj : Int)) (n := ((13 + dl : Nat) : Int)) HGP.out; rw [HRD.out] at this; exact this)
                          have HFL : Hid (fr.length = 13 + dl) := Lib.hid hfl
                          have HBZ : Hid (fr = bz :: tz ∧ fr.drop 13 = dd) := Lib.hid ⟨hbz, hdrop⟩
                          have HDL : Hid (dl = dd.length) := Lib.hid hdl
                          have HDO : Hid (Src w da (bvs dd)) := Lib.hid hok_d.1
                          have Q2 := Lib.hid q2
                          have Q0 := Lib.hid q0
                          have hoj2 : oj ≤ 102400 ∧ dl ≤ 102400 := by have := hfr.2; omega
                          have hwd : IntKind.i64.wrap (13 + (dl : Int)) = ((13 + dl : Nat) : Int) := by rw [IntKind.wrap_i64]; omega
                          have hwz : IntKind.i64.wrap ((bz.toNat : Nat) : Int) = kd := by rw [← hbk2, IntKind.wrap_i64]; have := bz.isLt; omega
                          have HLR0 := Lib.hid hlR0
                          obtain ⟨M, hMn⟩ : ∃ m, m = nR := ⟨_, rfl⟩
                          obtain ⟨ya, hya⟩ : ∃ a, a = en.y.a := ⟨_, rfl⟩
                          obtain ⟨yc, hyc⟩ : ∃ a, a = en.y.c := ⟨_, rfl⟩
                          obtain ⟨oc, hoc⟩ : ∃ a, a = en.co := ⟨_, rfl⟩
                          rw [← hya] at hyb v1
                          rw [← hyc] at v1
                          rw [← hoc, hob] at v0
                          subst hyb
                          rw [← hMn] at v0 v1
                          have v4 := (World.cell?_of_block (w := w) (a := ⟨yb, yo + j * 3 + 2, none⟩) (HB.out.block yb hlR0)).trans q2
                          have hlR : yb < wx.heap.size := Nat.lt_of_lt_of_le hlR0 HB.out.size
                          have hjM : j < M := by rw [hMn]; exact hjn
                          have HYA := Lib.hid hya
                          have HYC := Lib.hid hyc
                          clear hon hatr hato hob q0 q2 hok_d hrr hrp hoj hvl hve hfr hdd hdl hpd hfrr hfl hbz hbk hkd hdrop hbk2 hWl hrows hR hpc hya hyc hoc
                          go_wp2_with fail
                          refine wp_region_phase (by kernel_rfl) [20] (by kernel_rfl) (by kernel_rfl) ?_
                          refine stage_more [Sp.eq (.pointer (some ⟨vb, 0, none⟩)), Sp.eq (.int .i64 (i : Int)), Sp.eq (.int .i64 ((i : Int) + 1)), Sp.eq (.slice (some ⟨gF, 0, none⟩) G cF), Sp.eq (.int .i64 (i : Int)), Sp.eq (.pointer (some ⟨gF, i, none⟩)), Sp.eq (.slice (some ⟨ob, 0, none⟩) M oc), Sp.eq (.int .i64 (j : Int)), Sp.eq (.pointer (some ⟨ob, j, none⟩)), Sp.eq (.int .i64 (oj : Int)), Sp.eq (.slice (some ⟨gY, 0, none⟩) G cY), Sp.eq (.int .i64 (i : Int)), Sp.eq (.pointer (some ⟨gY, i, none⟩)), Sp.eq (.slice (some ⟨yb, yo, none⟩) M yc), Sp.eq (.int .i64 (j : Int)), Sp.eq (.pointer (some ⟨yb, yo + j * 3, none⟩)), Sp.eq (.pointer (some ⟨yb, yo + j * 3 + 2, none⟩)), Sp.eq (.slice da dl dc), Sp.eq (.int .i64 (dl : Int)), Sp.eq (.int .i64 ((13 + dl : Nat) : Int))] rfl ?_ ?_
                          · refine stepsG_cons ?_ (stepsG_cons ?_ (stepsG_cons ?_ (stepsG_cons ?_ (stepsG_cons ?_ (stepsG_cons ?_ (stepsG_cons ?_ (stepsG_cons ?_ (stepsG_cons ?_ (stepsG_cons ?_ (stepsG_cons ?_ (stepsG_cons ?_ (stepsG_cons ?_ (stepsG_cons ?_ (stepsG_cons ?_ (stepsG_cons ?_ (stepsG_cons ?_ (stepsG_cons ?_ (stepsG_cons ?_ (stepsG_cons ?_ (stepsG_nil))))))))))))))))))))
                            · intro ρ w' E
                              have e10 : ρ (.tmp 10) = .pointer (some ⟨vb, 0, none⟩) := E.out 10 rfl
                              refine step_plain rfl ?_
                              exact op_move (.inl rfl) e10 ⟨Below.refl _ _, rfl⟩
                            · intro ρ w' E
                              have e18 : ρ (.tmp 18) = .int .i64 (i : Int) := E.out 18 rfl
                              refine step_plain rfl ?_
                              exact op_move (.inl rfl) e18 ⟨Below.refl _ _, rfl⟩
                            · intro ρ w' E
                              have e210 : ρ (.tmp 210) = .int .i64 (i : Int) := E.pre 1 rfl rfl
                              refine step_plain rfl ?_
                              refine op_val (v := .int .i64 ((i : Int) + 1)) (w' := w') ?_ ⟨Below.refl _ _, rfl⟩
                              have hw := hwi
                              have hcon := E.con
                              clear E v0 v1 v2 v4
                              go_simp
                            · intro ρ w' E
                              have e11 : ρ (.tmp 11) = .slice (some ⟨gF, 0, none⟩) G cF := E.out 11 rfl
                              refine step_plain rfl ?_
                              exact op_move (.inl rfl) e11 ⟨Below.refl _ _, rfl⟩
                            · intro ρ w' E
                              have e18 : ρ (.tmp 18) = .int .i64 (i : Int) := E.out 18 rfl
                              refine step_plain rfl ?_
                              exact op_move (.inl rfl) e18 ⟨Below.refl _ _, rfl⟩
                            · intro ρ w' E
                              have e212 : ρ (.tmp 212) = .slice (some ⟨gF, 0, none⟩) G cF := E.pre 3 rfl rfl
                              have e213 : ρ (.tmp 213) = .int .i64 (i : Int) := E.pre 4 rfl rfl
                              refine step_plain rfl ?_
                              refine op_val (v := .pointer (some ⟨gF, i, none⟩)) (w' := w') ?_ ⟨Below.refl _ _, rfl⟩
                              have hcon := E.con
                              clear E
                              go_simp
                            · intro ρ w' E
                              have e214 : ρ (.tmp 214) = .pointer (some ⟨gF, i, none⟩) := E.pre 5 rfl rfl
                              refine step_plain rfl ?_
                              refine op_val (v := .slice (some ⟨ob, 0, none⟩) M oc) (w' := w') ?_ ⟨Below.refl _ _, rfl⟩
                              have hk := (World.cell?_of_block (w := wx) (E.below.block _ hlF)).trans v0
                              have hcon := E.con
                              clear E v0 v1 v2 v4
                              go_simp
                            · intro ρ w' E
                              have e23 : ρ (.tmp 23) = .int .i64 (j : Int) := E.out 23 rfl
                              refine step_plain rfl ?_
                              exact op_move (.inl rfl) e23 ⟨Below.refl _ _, rfl⟩
                            · intro ρ w' E
                              have e215 : ρ (.tmp 215) = .slice (some ⟨ob, 0, none⟩) M oc := E.pre 6 rfl rfl
                              have e216 : ρ (.tmp 216) = .int .i64 (j : Int) := E.pre 7 rfl rfl
                              refine step_plain rfl ?_
                              refine op_val (v := .pointer (some ⟨ob, j, none⟩)) (w' := w') ?_ ⟨Below.refl _ _, rfl⟩
                              have hcon := E.con
                              clear E
                              go_simp
                            · intro ρ w' E
                              have e217 : ρ (.tmp 217) = .pointer (some ⟨ob, j, none⟩) := E.pre 8 rfl rfl
                              refine step_plain rfl ?_
                              refine op_val (v := .int .i64 (oj : Int)) (w' := w') ?_ ⟨Below.refl _ _, rfl⟩
                              have hk := (World.cell?_of_block (w := wx) (E.below.block _ hlO)).trans v2
                              have hcon := E.con
                              clear E v0 v1 v2 v4
                              go_simp
                            · intro ρ w' E
                              have e12 : ρ (.tmp 12) = .slice (some ⟨gY, 0, none⟩) G cY := E.out 12 rfl
                              refine step_plain rfl ?_
                              exact op_move (.inl rfl) e12 ⟨Below.refl _ _, rfl⟩
                            · intro ρ w' E
                              have e18 : ρ (.tmp 18) = .int .i64 (i : Int) := E.out 18 rfl
                              refine step_plain rfl ?_
                              exact op_move (.inl rfl) e18 ⟨Below.refl _ _, rfl⟩
                            · intro ρ w' E
                              have e219 : ρ (.tmp 219) = .slice (some ⟨gY, 0, none⟩) G cY := E.pre 10 rfl rfl
                              have e220 : ρ (.tmp 220) = .int .i64 (i : Int) := E.pre 11 rfl rfl
                              refine step_plain rfl ?_
                              refine op_val (v := .pointer (some ⟨gY, i, none⟩)) (w' := w') ?_ ⟨Below.refl _ _, rfl⟩
                              have hcon := E.con
                              clear E
                              go_simp
                            · intro ρ w' E
                              have e221 : ρ (.tmp 221) = .pointer (some ⟨gY, i, none⟩) := E.pre 12 rfl rfl
                              refine step_plain rfl ?_
                              refine op_val (v := .slice (some ⟨yb, yo, none⟩) M yc) (w' := w') ?_ ⟨Below.refl _ _, rfl⟩
                              have hk := (World.cell?_of_block (w := wx) (E.below.block _ hlY)).trans v1
                              have hcon := E.con
                              clear E v0 v1 v2 v4
                              go_simp
                            · intro ρ w' E
                              have e23 : ρ (.tmp 23) = .int .i64 (j : Int) := E.out 23 rfl
                              refine step_plain rfl ?_
                              exact op_move (.inl rfl) e23 ⟨Below.refl _ _, rfl⟩
                            · intro ρ w' E
                              have e222 : ρ (.tmp 222) = .slice (some ⟨yb, yo, none⟩) M yc := E.pre 13 rfl rfl
                              have e223 : ρ (.tmp 223) = .int .i64 (j : Int) := E.pre 14 rfl rfl
                              refine step_plain rfl ?_
                              refine op_val (v := .pointer (some ⟨yb, yo + j * 3, none⟩)) (w' := w') ?_ ⟨Below.refl _ _, rfl⟩
                              have hcon := E.con
                              clear E
                              go_simp
                            · intro ρ w' E
                              have e224 : ρ (.tmp 224) = .pointer (some ⟨yb, yo + j * 3, none⟩) := E.pre 15 rfl rfl
                              refine step_plain rfl ?_
                              refine op_val (v := .pointer (some ⟨yb, yo + j * 3 + 2, none⟩)) (w' := w') ?_ ⟨Below.refl _ _, rfl⟩
                              have hcon := E.con
                              clear E
                              go_simp
                            · intro ρ w' E
                              have e225 : ρ (.tmp 225) = .pointer (some ⟨yb, yo + j * 3 + 2, none⟩) := E.pre 16 rfl rfl
                              refine step_plain rfl ?_
                              refine op_val (v := .slice da dl dc) (w' := w') ?_ ⟨Below.refl _ _, rfl⟩
                              have hk := (World.cell?_of_block (w := wx) (E.below.block _ hlR)).trans v4
                              have hcon := E.con
                              clear E v0 v1 v2 v4
                              go_simp
                            · intro ρ w' E
                              have e226 : ρ (.tmp 226) = .slice da dl dc := E.pre 17 rfl rfl
                              refine step_plain rfl ?_
                              refine op_val (v := .int .i64 (dl : Int)) (w' := w') ?_ ⟨Below.refl _ _, rfl⟩
                              have hcon := E.con
                              clear E
                              go_simp
                            · intro ρ w' E
                              have e227 : ρ (.tmp 227) = .int .i64 (dl : Int) := E.pre 18 rfl rfl
                              refine step_plain rfl ?_
                              refine op_val (v := .int .i64 ((13 + dl : Nat) : Int)) (w' := w') ?_ ⟨Below.refl _ _, rfl⟩
                              have hw := hwd
                              have hcon := E.con
                              clear E v0 v1 v2 v4
                              go_simp
                          · intro σ1 ρ1 w1c E1 O1 H1
                            have e209 : ρ1 (.tmp 209) = .pointer (some ⟨vb, 0, none⟩) := E1.pre 0 rfl rfl
                            have e211 : ρ1 (.tmp 211) = .int .i64 ((i : Int) + 1) := E1.pre 2 rfl rfl
                            have e218 : ρ1 (.tmp 218) = .int .i64 (oj : Int) := E1.pre 9 rfl rfl
                            have e228 : ρ1 (.tmp 228) = .int .i64 ((13 + dl : Nat) : Int) := E1.pre 19 rfl rfl
                            refine step_plain rfl ?_
                            refine op_call (f := 16) (args := #[.pointer (some ⟨vb, 0, none⟩), .int .i64 ((i : Int) + 1), .int .i64 (oj : Int), .int .i64 ((13 + dl : Nat) : Int)]) (w' := w1c) (by have hcon := E1.con; have hfn := E1.fn; clear E1 v0 v1 v2 v4; go_simp) ?_
                            have hbe := bthen HB.out E1.below (Nat.le_refl _)
                            refine (vol_read ((i : Int) + 1) (oj : Int) ((13 + dl : Nat) : Int) sz fr 0 pR w1c (HV.out.ext E1.below) (HD.out.ext E1.below) hbe.size HGP.out hsz (by omega) (by omega) HRD.out).mono ?_
                            rintro e wR ⟨aX, mX, cX, rfl, hmX, hX, hdR, hmR⟩
                            obtain rfl : mX = 13 + dl := hmX.trans HFL.out
                            clear hmX
                            have HX := Lib.hid hX
                            have HDR := Lib.hid hdR
                            have HVR := Lib.hid ((HV.out.ext E1.below).vf hmR)
                            have HBR := Lib.hid (hbe.trans (hmR.below (fun b T h => h.1) hbe.size))
                            have HER := Lib.hid ((HE.out.ext E1.below).vf hmR)
                            clear hX hdR hmR hbe
                            refine ⟨_, rfl, ?_⟩
                            refine stage_last [Sp.eq (.tuple #[.slice aX (13 + dl) cX, .int .i64 0]), Sp.eq (.slice aX (13 + dl) cX), Sp.eq (.int .i64 0), Sp.eq (.slice aX (13 + dl) cX), Sp.eq (.int .i64 0)] ?_ ?_
                            · refine stepsG_cons ?_ (stepsG_cons ?_ (stepsG_cons ?_ (stepsG_cons ?_ (stepsG_cons ?_ (stepsG_nil)))))
                              · intro ρ w' E
                                have e229 : ρ (.tmp 229) = .tuple #[.slice aX (13 + dl) cX, .int .i64 0] := (E.old 20 229 rfl rfl).trans rfl
                                refine step_plain rfl ?_
                                exact op_move (.inl rfl) e229 ⟨Below.refl _ _, rfl⟩
                              · intro ρ w' E
                                have e208 : ρ (.tmp 208) = .tuple #[.slice aX (13 + dl) cX, .int .i64 0] := E.pre 21 rfl rfl
                                refine step_plain rfl ?_
                                refine op_val (v := .slice aX (13 + dl) cX) (w' := w') ?_ ⟨Below.refl _ _, rfl⟩
                                have hcon := E.con
                                clear E
                                go_simp
                              · intro ρ w' E
                                have e208 : ρ (.tmp 208) = .tuple #[.slice aX (13 + dl) cX, .int .i64 0] := E.pre 21 rfl rfl
                                refine step_plain rfl ?_
                                refine op_val (v := .int .i64 0) (w' := w') ?_ ⟨Below.refl _ _, rfl⟩
                                have hcon := E.con
                                clear E
                                go_simp
                              · intro ρ w' E
                                have e230 : ρ (.tmp 230) = .slice aX (13 + dl) cX := E.pre 22 rfl rfl
                                refine step_plain rfl ?_
                                exact op_move (.inr rfl) e230 ⟨Below.refl _ _, rfl⟩
                              · intro ρ w' E
                                have e231 : ρ (.tmp 231) = .int .i64 0 := E.pre 23 rfl rfl
                                refine step_plain rfl ?_
                                exact op_move (.inr rfl) e231 ⟨Below.refl _ _, rfl⟩
                            · intro σF wF GF OF HF
                              have s24 : σF 24 = .slice aX (13 + dl) cX := HF 24 rfl rfl
                              have s25 : σF 25 = .int .i64 0 := HF 25 rfl rfl
                              clear H1 O1 OF HF E1
                              simp only [upd, updL, dstsOf', elemB, List.filterMap_cons, List.filterMap_nil, Nat.reduceAdd, Nat.reduceBEq, Bool.or_false, Bool.false_or, Bool.or_true, Bool.true_or, cond_true, cond_false, Nat.zero_add, s24, s25]
                              have HXF := Lib.hid (HX.out.ext GF)
                              have HDF := Lib.hid (HDR.out.ext GF)
                              have HVF := Lib.hid (HVR.out.ext GF)
                              have HEF := Lib.hid (HER.out.ext GF)
                              have HBF := Lib.hid (bthen HBR.out GF (Nat.le_refl _))
                              clear GF HX HDR HVR HER HBR HE HV HD HB v0 v1 v2 v4 hlF hlY hlO hlR s24 s25 HRD HGP
                              generalize wF = wF1 at *
                              obtain ⟨x9, y9, hx9, hy9, _, hlY, _, v1⟩ := HEF.out.at (i := i) (by rw [← HEl.out]; exact hiG)
                              simp only [Option.some.injEq, Addr.mk.injEq, and_true] at hx9 hy9
                              subst hx9 hy9
                              rw [← Hen.out] at v1
                              unfold Ent.yv at v1
                              rw [← HM.out] at v1
                              obtain ⟨xX, hxX, _, hlX, hatx, _⟩ := HXF.out.at (i := 0) (by omega)
                              subst hxX
                              have hcX := HXF.out.len.1
                              have v3 : wF1.cell? ⟨xX, 0, none⟩ = some (.int .u8 (bz.toNat : Int)) := by
                                have h := hatx 0 (by rw [bvs_length, HFL.out]; omega)
                                have h2 : (bvs fr)[0]? = some (.int .u8 (bz.toNat : Int)) := by rw [HBZ.out.1]; rfl
                                rw [h, ← h2, List.getElem?_eq_getElem]
                              have v2 := (World.cell?_of_block (w := w) (a := ⟨yb, yo + j * 3, none⟩) (HBF.out.block yb HLR0.out)).trans Q0.out
                              have v4 := (World.cell?_of_block (w := w) (a := ⟨yb, yo + j * 3 + 2, none⟩) (HBF.out.block yb HLR0.out)).trans Q2.out
                              have hlR : yb < wF1.heap.size := Nat.lt_of_lt_of_le HLR0.out HBF.out.size
                              obtain ⟨aS, haS⟩ : ∃ a : Option Addr, a = if cX = 13 then some ⟨xX, 0, none⟩ else some ⟨xX, 13, none⟩ := ⟨_, rfl⟩
                              have hlX13 : 13 + dl ≤ cX := hcX
                              have HSS : Hid (Src wF1 aS (bvs dd)) := Lib.hid (by
                                have h := src_drop HXF.out.src cX 13 (by rw [bvs_length, HFL.out]; exact hcX)
                                rw [← HBZ.out.2, bvs_drop, haS]
                                have e13 : (⟨xX, 0, none⟩ : Addr).add 13 = ⟨xX, 13, none⟩ := by simp [Addr.add]
                                simpa [e13] using h)
                              have HSD : Hid (Src wF1 da (bvs dd)) := Lib.hid (HDO.out.ext HBF.out)
                              rw [← hMn, ← HYA.out, ← HYC.out] at v1
                              clear hatx
                              go_wp2_with fail
                              refine wp_region_phase (by kernel_rfl) [] (by kernel_rfl) (by kernel_rfl) ?_
                              refine stage_last [Sp.eq (.int .i64 0), Sp.eq (.bool false), Sp.eq (.bool false), Sp.eq (.slice (some ⟨xX, 0, none⟩) (13 + dl) cX), Sp.eq (.int .i64 ((13 + dl : Nat) : Int)), Sp.eq (.slice (some ⟨gY, 0, none⟩) G cY), Sp.eq (.int .i64 (i : Int)), Sp.eq (.pointer (some ⟨gY, i, none⟩)), Sp.eq (.slice (some ⟨yb, yo, none⟩) M yc), Sp.eq (.int .i64 (j : Int)), Sp.eq (.pointer (some ⟨yb, yo + j * 3, none⟩)), Sp.eq (.pointer (some ⟨yb, yo + j * 3 + 2, none⟩)), Sp.eq (.slice da dl dc), Sp.eq (.int .i64 (dl : Int)), Sp.eq (.int .i64 ((13 + dl : Nat) : Int)), Sp.eq (.bool false), Sp.eq (.bool false), Sp.eq (.bool false), Sp.eq (.slice (some ⟨xX, 0, none⟩) (13 + dl) cX), Sp.eq (.slice aS dl (cX - 13)), Sp.eq (.slice (some ⟨gY, 0, none⟩) G cY), Sp.eq (.int .i64 (i : Int)), Sp.eq (.pointer (some ⟨gY, i, none⟩)), Sp.eq (.slice (some ⟨yb, yo, none⟩) M yc), Sp.eq (.int .i64 (j : Int)), Sp.eq (.pointer (some ⟨yb, yo + j * 3, none⟩)), Sp.eq (.pointer (some ⟨yb, yo + j * 3 + 2, none⟩)), Sp.eq (.slice da dl dc), Sp.eq (.bool true), Sp.eq (.bool false), Sp.eq (.bool false), Sp.eq (.bool false), Sp.eq (.slice (some ⟨xX, 0, none⟩) (13 + dl) cX), Sp.eq (.pointer (some ⟨xX, 0, none⟩)), Sp.eq (.int .u8 (bz.toNat : Int)), Sp.eq (.int .i64 kd), Sp.eq (.slice (some ⟨gY, 0, none⟩) G cY), Sp.eq (.int .i64 (i : Int)), Sp.eq (.pointer (some ⟨gY, i, none⟩)), Sp.eq (.slice (some ⟨yb, yo, none⟩) M yc), Sp.eq (.int .i64 (j : Int)), Sp.eq (.pointer (some ⟨yb, yo + j * 3, none⟩)), Sp.eq (.pointer (some ⟨yb, yo + j * 3, none⟩)), Sp.eq (.int .i64 kd), Sp.eq (.bool false), Sp.eq (.bool false)] ?_ ?_
                              · refine stepsG_cons ?_ (stepsG_cons ?_ (stepsG_cons ?_ (stepsG_cons ?_ (stepsG_cons ?_ (stepsG_cons ?_ (stepsG_cons ?_ (stepsG_cons ?_ (stepsG_cons ?_ (stepsG_cons ?_ (stepsG_cons ?_ (stepsG_cons ?_ (stepsG_cons ?_ (stepsG_cons ?_ (stepsG_cons ?_ (stepsG_cons ?_ (stepsG_cons ?_ (stepsG_cons ?_ (stepsG_cons ?_ (stepsG_cons ?_ (stepsG_cons ?_ (stepsG_cons ?_ (stepsG_cons ?_ (stepsG_cons ?_ (stepsG_cons ?_ (stepsG_cons ?_ (stepsG_cons ?_ (stepsG_cons ?_ (stepsG_cons ?_ (stepsG_cons ?_ (stepsG_cons ?_ (stepsG_cons ?_ (stepsG_cons ?_ (stepsG_cons ?_ (stepsG_cons ?_ (stepsG_cons ?_ (stepsG_cons ?_ (stepsG_cons ?_ (stepsG_cons ?_ (stepsG_cons ?_ (stepsG_cons ?_ (stepsG_cons ?_ (stepsG_cons ?_ (stepsG_cons ?_ (stepsG_cons ?_ (stepsG_cons ?_ (stepsG_nil))))))))))))))))))))))))))))))))))))))))))))))
                                · intro ρ w' E
                                  have e25 : ρ (.tmp 25) = .int .i64 0 := E.out 25 rfl
                                  refine step_plain rfl ?_
                                  exact op_move (.inl rfl) e25 ⟨Below.refl _ _, rfl⟩
                                · intro ρ w' E
                                  have e232 : ρ (.tmp 232) = .int .i64 0 := E.pre 0 rfl rfl
                                  refine step_plain rfl ?_
                                  refine op_val (v := .bool false) (w' := w') ?_ ⟨Below.refl _ _, rfl⟩
                                  have hcon := E.con
                                  clear E
                                  go_simp
                                · intro ρ w' E
                                  have e233 : ρ (.tmp 233) = .bool false := E.pre 1 rfl rfl
                                  refine step_plain rfl ?_
                                  exact op_move (.inl rfl) e233 ⟨Below.refl _ _, rfl⟩
                                · intro ρ w' E
                                  have e24 : ρ (.tmp 24) = .slice (some ⟨xX, 0, none⟩) (13 + dl) cX := E.out 24 rfl
                                  refine step_yes rfl (E.pre 2 rfl rfl) ?_
                                  exact op_move (.inl rfl) e24 ⟨Below.refl _ _, rfl⟩
                                · intro ρ w' E
                                  have e235 : ρ (.tmp 235) = .slice (some ⟨xX, 0, none⟩) (13 + dl) cX := E.pre 3 rfl rfl
                                  refine step_yes rfl (E.pre 2 rfl rfl) ?_
                                  refine op_val (v := .int .i64 ((13 + dl : Nat) : Int)) (w' := w') ?_ ⟨Below.refl _ _, rfl⟩
                                  have hcon := E.con
                                  clear E
                                  go_simp
                                · intro ρ w' E
                                  have e12 : ρ (.tmp 12) = .slice (some ⟨gY, 0, none⟩) G cY := E.out 12 rfl
                                  refine step_yes rfl (E.pre 2 rfl rfl) ?_
                                  exact op_move (.inl rfl) e12 ⟨Below.refl _ _, rfl⟩
                                · intro ρ w' E
                                  have e18 : ρ (.tmp 18) = .int .i64 (i : Int) := E.out 18 rfl
                                  refine step_yes rfl (E.pre 2 rfl rfl) ?_
                                  exact op_move (.inl rfl) e18 ⟨Below.refl _ _, rfl⟩
                                · intro ρ w' E
                                  have e237 : ρ (.tmp 237) = .slice (some ⟨gY, 0, none⟩) G cY := E.pre 5 rfl rfl
                                  have e238 : ρ (.tmp 238) = .int .i64 (i : Int) := E.pre 6 rfl rfl
                                  refine step_yes rfl (E.pre 2 rfl rfl) ?_
                                  refine op_val (v := .pointer (some ⟨gY, i, none⟩)) (w' := w') ?_ ⟨Below.refl _ _, rfl⟩
                                  have hcon := E.con
                                  clear E
                                  go_simp
                                · intro ρ w' E
                                  have e239 : ρ (.tmp 239) = .pointer (some ⟨gY, i, none⟩) := E.pre 7 rfl rfl
                                  refine step_yes rfl (E.pre 2 rfl rfl) ?_
                                  refine op_val (v := .slice (some ⟨yb, yo, none⟩) M yc) (w' := w') ?_ ⟨Below.refl _ _, rfl⟩
                                  have hk := (World.cell?_of_block (w := wF1) (E.below.block _ hlY)).trans v1
                                  have hcon := E.con
                                  clear E v1 v2 v3 v4
                                  go_simp
                                · intro ρ w' E
                                  have e23 : ρ (.tmp 23) = .int .i64 (j : Int) := E.out 23 rfl
                                  refine step_yes rfl (E.pre 2 rfl rfl) ?_
                                  exact op_move (.inl rfl) e23 ⟨Below.refl _ _, rfl⟩
                                · intro ρ w' E
                                  have e240 : ρ (.tmp 240) = .slice (some ⟨yb, yo, none⟩) M yc := E.pre 8 rfl rfl
                                  have e241 : ρ (.tmp 241) = .int .i64 (j : Int) := E.pre 9 rfl rfl
                                  refine step_yes rfl (E.pre 2 rfl rfl) ?_
                                  refine op_val (v := .pointer (some ⟨yb, yo + j * 3, none⟩)) (w' := w') ?_ ⟨Below.refl _ _, rfl⟩
                                  have hcon := E.con
                                  clear E
                                  go_simp
                                · intro ρ w' E
                                  have e242 : ρ (.tmp 242) = .pointer (some ⟨yb, yo + j * 3, none⟩) := E.pre 10 rfl rfl
                                  refine step_yes rfl (E.pre 2 rfl rfl) ?_
                                  refine op_val (v := .pointer (some ⟨yb, yo + j * 3 + 2, none⟩)) (w' := w') ?_ ⟨Below.refl _ _, rfl⟩
                                  have hcon := E.con
                                  clear E
                                  go_simp
                                · intro ρ w' E
                                  have e243 : ρ (.tmp 243) = .pointer (some ⟨yb, yo + j * 3 + 2, none⟩) := E.pre 11 rfl rfl
                                  refine step_yes rfl (E.pre 2 rfl rfl) ?_
                                  refine op_val (v := .slice da dl dc) (w' := w') ?_ ⟨Below.refl _ _, rfl⟩
                                  have hk := (World.cell?_of_block (w := wF1) (E.below.block _ hlR)).trans v4
                                  have hcon := E.con
                                  clear E v1 v2 v3 v4
                                  go_simp
                                · intro ρ w' E
                                  have e244 : ρ (.tmp 244) = .slice da dl dc := E.pre 12 rfl rfl
                                  refine step_yes rfl (E.pre 2 rfl rfl) ?_
                                  refine op_val (v := .int .i64 (dl : Int)) (w' := w') ?_ ⟨Below.refl _ _, rfl⟩
                                  have hcon := E.con
                                  clear E
                                  go_simp
                                · intro ρ w' E
                                  have e245 : ρ (.tmp 245) = .int .i64 (dl : Int) := E.pre 13 rfl rfl
                                  refine step_yes rfl (E.pre 2 rfl rfl) ?_
                                  refine op_val (v := .int .i64 ((13 + dl : Nat) : Int)) (w' := w') ?_ ⟨Below.refl _ _, rfl⟩
                                  have hw := hwd
                                  have hcon := E.con
                                  clear E v1 v2 v3 v4
                                  go_simp
                                · intro ρ w' E
                                  have e236 : ρ (.tmp 236) = .int .i64 ((13 + dl : Nat) : Int) := E.pre 4 rfl rfl
                                  have e246 : ρ (.tmp 246) = .int .i64 ((13 + dl : Nat) : Int) := E.pre 14 rfl rfl
                                  refine step_yes rfl (E.pre 2 rfl rfl) ?_
                                  refine op_val (v := .bool false) (w' := w') ?_ ⟨Below.refl _ _, rfl⟩
                                  have hcon := E.con
                                  clear E
                                  go_simp
                                · intro ρ w' E
                                  have e234 : ρ (.tmp 234) = .bool false := E.pre 2 rfl rfl
                                  have e247 : ρ (.tmp 247) = .bool false := E.pre 15 rfl rfl
                                  refine step_plain rfl ?_
                                  exact op_pick (b := false) rfl e234 rfl ⟨Below.refl _ _, e247⟩
                                · intro ρ w' E
                                  have e248 : ρ (.tmp 248) = .bool false := E.pre 16 rfl rfl
                                  refine step_plain rfl ?_
                                  exact op_move (.inl rfl) e248 ⟨Below.refl _ _, rfl⟩
                                · intro ρ w' E
                                  have e24 : ρ (.tmp 24) = .slice (some ⟨xX, 0, none⟩) (13 + dl) cX := E.out 24 rfl
                                  refine step_yes rfl (E.pre 17 rfl rfl) ?_
                                  exact op_move (.inl rfl) e24 ⟨Below.refl _ _, rfl⟩
                                · intro ρ w' E
                                  have e250 : ρ (.tmp 250) = .slice (some ⟨xX, 0, none⟩) (13 + dl) cX := E.pre 18 rfl rfl
                                  refine step_yes rfl (E.pre 17 rfl rfl) ?_
                                  refine op_val (v := .slice aS dl (cX - 13)) (w' := w') ?_ ⟨Below.refl _ _, rfl⟩
                                  have hs := haS
                                  have hl13 := hlX13
                                  have hcon := E.con
                                  clear E v1 v2 v3 v4
                                  rw [hs]
                                  go_simp
                                  first | done | (intro h9; omega)
                                · intro ρ w' E
                                  have e12 : ρ (.tmp 12) = .slice (some ⟨gY, 0, none⟩) G cY := E.out 12 rfl
                                  refine step_yes rfl (E.pre 17 rfl rfl) ?_
                                  exact op_move (.inl rfl) e12 ⟨Below.refl _ _, rfl⟩
                                · intro ρ w' E
                                  have e18 : ρ (.tmp 18) = .int .i64 (i : Int) := E.out 18 rfl
                                  refine step_yes rfl (E.pre 17 rfl rfl) ?_
                                  exact op_move (.inl rfl) e18 ⟨Below.refl _ _, rfl⟩
                                · intro ρ w' E
                                  have e252 : ρ (.tmp 252) = .slice (some ⟨gY, 0, none⟩) G cY := E.pre 20 rfl rfl
                                  have e253 : ρ (.tmp 253) = .int .i64 (i : Int) := E.pre 21 rfl rfl
                                  refine step_yes rfl (E.pre 17 rfl rfl) ?_
                                  refine op_val (v := .pointer (some ⟨gY, i, none⟩)) (w' := w') ?_ ⟨Below.refl _ _, rfl⟩
                                  have hcon := E.con
                                  clear E
                                  go_simp
                                · intro ρ w' E
                                  have e254 : ρ (.tmp 254) = .pointer (some ⟨gY, i, none⟩) := E.pre 22 rfl rfl
                                  refine step_yes rfl (E.pre 17 rfl rfl) ?_
                                  refine op_val (v := .slice (some ⟨yb, yo, none⟩) M yc) (w' := w') ?_ ⟨Below.refl _ _, rfl⟩
                                  have hk := (World.cell?_of_block (w := wF1) (E.below.block _ hlY)).trans v1
                                  have hcon := E.con
                                  clear E v1 v2 v3 v4
                                  go_simp
                                · intro ρ w' E
                                  have e23 : ρ (.tmp 23) = .int .i64 (j : Int) := E.out 23 rfl
                                  refine step_yes rfl (E.pre 17 rfl rfl) ?_
                                  exact op_move (.inl rfl) e23 ⟨Below.refl _ _, rfl⟩
                                · intro ρ w' E
                                  have e255 : ρ (.tmp 255) = .slice (some ⟨yb, yo, none⟩) M yc := E.pre 23 rfl rfl
                                  have e256 : ρ (.tmp 256) = .int .i64 (j : Int) := E.pre 24 rfl rfl
                                  refine step_yes rfl (E.pre 17 rfl rfl) ?_
                                  refine op_val (v := .pointer (some ⟨yb, yo + j * 3, none⟩)) (w' := w') ?_ ⟨Below.refl _ _, rfl⟩
                                  have hcon := E.con
                                  clear E
                                  go_simp
                                · intro ρ w' E
                                  have e257 : ρ (.tmp 257) = .pointer (some ⟨yb, yo + j * 3, none⟩) := E.pre 25 rfl rfl
                                  refine step_yes rfl (E.pre 17 rfl rfl) ?_
                                  refine op_val (v := .pointer (some ⟨yb, yo + j * 3 + 2, none⟩)) (w' := w') ?_ ⟨Below.refl _ _, rfl⟩
                                  have hcon := E.con
                                  clear E
                                  go_simp
                                · intro ρ w' E
                                  have e258 : ρ (.tmp 258) = .pointer (some ⟨yb, yo + j * 3 + 2, none⟩) := E.pre 26 rfl rfl
                                  refine step_yes rfl (E.pre 17 rfl rfl) ?_
                                  refine op_val (v := .slice da dl dc) (w' := w') ?_ ⟨Below.refl _ _, rfl⟩
                                  have hk := (World.cell?_of_block (w := wF1) (E.below.block _ hlR)).trans v4
                                  have hcon := E.con
                                  clear E v1 v2 v3 v4
                                  go_simp
                                · intro ρ w' E
                                  have e251 : ρ (.tmp 251) = .slice aS dl (cX - 13) := E.pre 19 rfl rfl
                                  have e259 : ρ (.tmp 259) = .slice da dl dc := E.pre 27 rfl rfl
                                  refine step_yes rfl (E.pre 17 rfl rfl) ?_
                                  refine op_call (f := 17) (args := #[.slice aS dl (cX - 13), .slice da dl dc]) (w' := w') (by have hcon := E.con; have hfn := E.fn; clear E v1 v2 v3 v4; go_simp) ?_
                                  refine (bytes_at aS (cX - 13) dd da dc dd w' dl dl true (HSS.out.ext E.below) (HSD.out.ext E.below) HDL.out HDL.out (by omega) (by omega) (by simp)).mono ?_
                                  rintro e w6 ⟨rfl, nn, rfl⟩
                                  exact ⟨_, rfl, ext_drewN w' nn _, rfl⟩
                                · intro ρ w' E
                                  have e260 : ρ (.tmp 260) = .bool true := E.pre 28 rfl rfl
                                  refine step_yes rfl (E.pre 17 rfl rfl) ?_
                                  refine op_val (v := .bool false) (w' := w') ?_ ⟨Below.refl _ _, rfl⟩
                                  have hcon := E.con
                                  clear E
                                  go_simp
                                · intro ρ w' E
                                  have e249 : ρ (.tmp 249) = .bool false := E.pre 17 rfl rfl
                                  have e261 : ρ (.tmp 261) = .bool false := E.pre 29 rfl rfl
                                  refine step_plain rfl ?_
                                  exact op_pick (b := false) rfl e249 rfl ⟨Below.refl _ _, e261⟩
                                · intro ρ w' E
                                  have e262 : ρ (.tmp 262) = .bool false := E.pre 30 rfl rfl
                                  refine step_plain rfl ?_
                                  exact op_move (.inl rfl) e262 ⟨Below.refl _ _, rfl⟩
                                · intro ρ w' E
                                  have e24 : ρ (.tmp 24) = .slice (some ⟨xX, 0, none⟩) (13 + dl) cX := E.out 24 rfl
                                  refine step_yes rfl (E.pre 31 rfl rfl) ?_
                                  exact op_move (.inl rfl) e24 ⟨Below.refl _ _, rfl⟩
                                · intro ρ w' E
                                  have e264 : ρ (.tmp 264) = .slice (some ⟨xX, 0, none⟩) (13 + dl) cX := E.pre 32 rfl rfl
                                  refine step_yes rfl (E.pre 31 rfl rfl) ?_
                                  refine op_val (v := .pointer (some ⟨xX, 0, none⟩)) (w' := w') ?_ ⟨Below.refl _ _, rfl⟩
                                  have hcon := E.con
                                  clear E v1 v2 v3 v4
                                  go_simp
                                  first | done | (intro h9; omega)
                                · intro ρ w' E
                                  have e265 : ρ (.tmp 265) = .pointer (some ⟨xX, 0, none⟩) := E.pre 33 rfl rfl
                                  refine step_yes rfl (E.pre 31 rfl rfl) ?_
                                  refine op_val (v := .int .u8 (bz.toNat : Int)) (w' := w') ?_ ⟨Below.refl _ _, rfl⟩
                                  have hk := (World.cell?_of_block (w := wF1) (E.below.block _ hlX)).trans v3
                                  have hcon := E.con
                                  clear E v1 v2 v3 v4
                                  go_simp
                                · intro ρ w' E
                                  have e266 : ρ (.tmp 266) = .int .u8 (bz.toNat : Int) := E.pre 34 rfl rfl
                                  refine step_yes rfl (E.pre 31 rfl rfl) ?_
                                  refine op_val (v := .int .i64 kd) (w' := w') ?_ ⟨Below.refl _ _, rfl⟩
                                  have hw := hwz
                                  have hcon := E.con
                                  clear E v1 v2 v3 v4
                                  go_simp
                                · intro ρ w' E
                                  have e12 : ρ (.tmp 12) = .slice (some ⟨gY, 0, none⟩) G cY := E.out 12 rfl
                                  refine step_yes rfl (E.pre 31 rfl rfl) ?_
                                  exact op_move (.inl rfl) e12 ⟨Below.refl _ _, rfl⟩
                                · intro ρ w' E
                                  have e18 : ρ (.tmp 18) = .int .i64 (i : Int) := E.out 18 rfl
                                  refine step_yes rfl (E.pre 31 rfl rfl) ?_
                                  exact op_move (.inl rfl) e18 ⟨Below.refl _ _, rfl⟩
                                · intro ρ w' E
                                  have e268 : ρ (.tmp 268) = .slice (some ⟨gY, 0, none⟩) G cY := E.pre 36 rfl rfl
                                  have e269 : ρ (.tmp 269) = .int .i64 (i : Int) := E.pre 37 rfl rfl
                                  refine step_yes rfl (E.pre 31 rfl rfl) ?_
                                  refine op_val (v := .pointer (some ⟨gY, i, none⟩)) (w' := w') ?_ ⟨Below.refl _ _, rfl⟩
                                  have hcon := E.con
                                  clear E
                                  go_simp
                                · intro ρ w' E
                                  have e270 : ρ (.tmp 270) = .pointer (some ⟨gY, i, none⟩) := E.pre 38 rfl rfl
                                  refine step_yes rfl (E.pre 31 rfl rfl) ?_
                                  refine op_val (v := .slice (some ⟨yb, yo, none⟩) M yc) (w' := w') ?_ ⟨Below.refl _ _, rfl⟩
                                  have hk := (World.cell?_of_block (w := wF1) (E.below.block _ hlY)).trans v1
                                  have hcon := E.con
                                  clear E v1 v2 v3 v4
                                  go_simp
                                · intro ρ w' E
                                  have e23 : ρ (.tmp 23) = .int .i64 (j : Int) := E.out 23 rfl
                                  refine step_yes rfl (E.pre 31 rfl rfl) ?_
                                  exact op_move (.inl rfl) e23 ⟨Below.refl _ _, rfl⟩
                                · intro ρ w' E
                                  have e271 : ρ (.tmp 271) = .slice (some ⟨yb, yo, none⟩) M yc := E.pre 39 rfl rfl
                                  have e272 : ρ (.tmp 272) = .int .i64 (j : Int) := E.pre 40 rfl rfl
                                  refine step_yes rfl (E.pre 31 rfl rfl) ?_
                                  refine op_val (v := .pointer (some ⟨yb, yo + j * 3, none⟩)) (w' := w') ?_ ⟨Below.refl _ _, rfl⟩
                                  have hcon := E.con
                                  clear E
                                  go_simp
                                · intro ρ w' E
                                  have e273 : ρ (.tmp 273) = .pointer (some ⟨yb, yo + j * 3, none⟩) := E.pre 41 rfl rfl
                                  refine step_yes rfl (E.pre 31 rfl rfl) ?_
                                  refine op_val (v := .pointer (some ⟨yb, yo + j * 3, none⟩)) (w' := w') ?_ ⟨Below.refl _ _, rfl⟩
                                  have hcon := E.con
                                  clear E
                                  go_simp
                                · intro ρ w' E
                                  have e274 : ρ (.tmp 274) = .pointer (some ⟨yb, yo + j * 3, none⟩) := E.pre 42 rfl rfl
                                  refine step_yes rfl (E.pre 31 rfl rfl) ?_
                                  refine op_val (v := .int .i64 kd) (w' := w') ?_ ⟨Below.refl _ _, rfl⟩
                                  have hk := (World.cell?_of_block (w := wF1) (E.below.block _ hlR)).trans v2
                                  have hcon := E.con
                                  clear E v1 v2 v3 v4
                                  go_simp
                                · intro ρ w' E
                                  have e267 : ρ (.tmp 267) = .int .i64 kd := E.pre 35 rfl rfl
                                  have e275 : ρ (.tmp 275) = .int .i64 kd := E.pre 43 rfl rfl
                                  refine step_yes rfl (E.pre 31 rfl rfl) ?_
                                  refine op_val (v := .bool false) (w' := w') ?_ ⟨Below.refl _ _, rfl⟩
                                  have hcon := E.con
                                  clear E
                                  go_simp
                                · intro ρ w' E
                                  have e263 : ρ (.tmp 263) = .bool false := E.pre 31 rfl rfl
                                  have e276 : ρ (.tmp 276) = .bool false := E.pre 44 rfl rfl
                                  refine step_plain rfl ?_
                                  exact op_pick (b := false) rfl e263 rfl ⟨Below.refl _ _, e276⟩
                              · intro σF wF GF OF HF
                                have s277 : σF 277 = .bool false := HF 45 rfl rfl
                                clear OF
                                simp only [upd, updL, dstsOf', elemB, List.filterMap_cons, List.filterMap_nil, Nat.reduceAdd, Nat.reduceBEq, Bool.or_false, Bool.false_or, Bool.or_true, Bool.true_or, cond_true, cond_false, Nat.zero_add, s277]
                                have HDG := Lib.hid (HDF.out.ext GF)
                                have HVG := Lib.hid (HVF.out.ext GF)
                                have HEG := Lib.hid (HEF.out.ext GF)
                                have HBG := Lib.hid (bthen HBF.out GF (Nat.le_refl _))
                                clear GF HDF HVF HEF HBF s277 v1 v2 v3 v4 hlX hlY hlR haS
                                go_wp2_with fail
                                go_roundw
                                case rel => exact ⟨j + 1, pR, _, rfl, by omega, by go_num, HEG.out, HVG.out, HDG.out, HGR.out, HBG.out⟩
                                case measure => simp [intOf]; omega
                      · obtain rfl : nR = j := by omega
                        go_wp2_with fail
                        clear v0 v1 hlF hlY
                        go_roundw
                        case rel => exact ⟨i + 1, pt, _, rfl, by omega, by go_num, HE.out, HV.out, HD.out, HGP.out, HB.out⟩
                        case measure => simp [intOf]; omega
                  · exact absurd hiG hiq
                · obtain rfl : G = i := by omega
                  go_wp2_with fail
                  obtain ⟨pT, hT, hTG⟩ := vTrim_volG (at_ := pt) n (by rw [List.length_take, ← HGe.out]; omega) HOQ.out
                  have htt : ((entG es).take G).take n = (entG es).take n := by rw [List.take_take, Nat.min_eq_left hnG]
                  rw [htt] at hT hTG
                  have HT := Lib.hid hT
                  have HTG := Lib.hid hTG
                  clear hT hTG htt
                  refine (vol_trim (n : Int) 0 pT PS.new (volT 400 (lbytes 1 0 4) ((entG es).take n)) _ HV.out HD.out (Up.all HB.out.size) HOQ.out.ok (by omega) HT.out).mono ?_
                  rintro e w15 ⟨rfl, hd15, hm15⟩
                  have HD15 := Lib.hid hd15
                  have HV15 := Lib.hid (HV.out.vf hm15)
                  have HE15 := Lib.hid (HE.out.vf hm15)
                  have HB15 := Lib.hid (HB.out.trans (hm15.below (fun b T h => h.1) HB.out.size))
                  clear hd15 hm15 HD HV HE HB
                  go_wp2_with fail
                  go_roundw
                  case rel => exact ⟨kk + 1, n, pT, _, rfl, by omega, by go_num, .inr ⟨by omega, rfl⟩, HE15.out, HV15.out, HD15.out, HTG.out, HB15.out⟩
                  case measure => simp [intOf]; omega
          · obtain rfl : n = q := by rcases Hkq.out with ⟨h, _⟩ | ⟨_, h⟩; omega; exact h.symm
            have ek1 : ((kk : Int) == 1) = true := by simp; omega
            have ek0 : ((kk : Int) == 0) = false := by simp; omega
            clear Hkq hk1
            as_aux_lemma =>
              go_loopw [18] (fun iv wr => ∃ (i : Nat) (pt : Int) (wz : World), wz = wr ∧ i ≤ G ∧ iv = .int .i64 (i : Int) ∧ EntsAt wz w.heap.size aF G cF aY cY es ∧ VolAt wz vb d (sz : Int) ∧ DrvP w.heap.size AllK wz d g (volT 400 (lbytes 1 0 4) ((entG es).take n)) pt PS.new ∧ DGood (volT 400 (lbytes 1 0 4) ((entG es).take n)) pt ∧ Below w.heap.size w wz) (fun iv _ => G - (intOf iv).toNat)
              case atStart => exact ⟨0, pt, _, rfl, by omega, rfl, HE.out, HV.out, HD.out, HGP.out, HB.out⟩
              case round =>
                obtain ⟨i, pt, wz, hwz, hi, rfl, hE, hV, hD, hgp, hbz⟩ := hrel
                subst hwz
                clear HE HV HD HGP HB
                have HE := Lib.hid hE
                have HV := Lib.hid hV
                have HD := Lib.hid hD
                have HGP := Lib.hid hgp
                have HB := Lib.hid hbz
                clear hE hV hD hgp hbz
                by_cases hiG : i < G
                · have hwi : IntKind.i64.wrap ((i : Int) + 1) = (i : Int) + 1 := by rw [IntKind.wrap_i64]; omega
                  by_cases hiq : i < n
                  · have hie : i < es.length := by rw [← HEl.out]; exact hiG
                    have hok := Hall.out _ (List.getElem_mem hie)
                    have hgi : ((entG es).take n)[i]? = some es[i].rows := by rw [List.getElem?_take, if_pos hiq]; exact entG_get hie
                    have hints := fun (w' : World) (h : EntsAt w' w.heap.size aF G cF aY cY es) => h.ints _ (List.getElem_mem hie)
                    obtain ⟨gF, gY, rfl, rfl, hlF, hlY, v0, v1⟩ := HE.out.at hie
                    obtain ⟨en, hen⟩ : ∃ e, e = es[i] := ⟨_, rfl⟩
                    rw [← hen] at hok hgi hints v0 v1
                    have HIN := Lib.hid hints
                    have Hen := Lib.hid hen
                    have Hok := Lib.hid hok
                    have Hgi := Lib.hid hgi
                    obtain ⟨M, hM⟩ : ∃ m, m = en.y.rs.length := ⟨_, rfl⟩
                    have hMl : M ≤ 64 := by rw [hM]; exact hok.few
                    have HM := Lib.hid hM
                    unfold Ent.ov at v0
                    unfold Ent.yv at v1
                    rw [← hM] at v0 v1
                    have V0 := Lib.hid v0
                    have V1 := Lib.hid v1
                    clear hok hgi hints hen hM v0 v1
                    obtain ⟨pS, hS⟩ := vScan_vol (at_ := pt) HOQ.out Hgi.out Hok.out.pk
                    have HS := Lib.hid hS
                    have HGS : Hid (DGood (volT 400 (lbytes 1 0 4) ((entG es).take n)) pS) := Lib.hid (by have := vScan_good (s := PS.new) (file := (i : Int) + 1) HGP.out; rw [HS.out] at this; exact this)
                    have hcd : decide (n ≤ i) = false := by simp; omega
                    clear hS
                    go_wp2_with fail
                    refine (vol_scan ((i : Int) + 1) (recs en.y.rs) (offsP (recs en.y.rs)) true 0 pS _ HV.out HD.out HB.out.size HOQ.out.ok (by omega) HS.out).mono ?_
                    rintro e w20 ⟨aR, nR, cR, vs, aI, cI, rfl, hn1, hn2, hrec, hrl, hoff, hd20, hm20⟩
                    have hnm : nR = M := by
                      rw [hn2]
                      unfold offsP
                      rw [List.length_map, List.length_range, recs_length, HM.out]
                    subst hnm
                    have Hn1 := Lib.hid hn1
                    have HREC := Lib.hid hrec
                    have HRL := Lib.hid hrl
                    have HOFF := Lib.hid hoff
                    have HD20 := Lib.hid hd20
                    have HV20 := Lib.hid (HV.out.vf hm20)
                    have HE20 := Lib.hid (HE.out.vf hm20)
                    have HB20 := Lib.hid (HB.out.trans (hm20.below (fun b T h => h.1) HB.out.size))
                    obtain ⟨x9, y9, hx9, hy9, hlF2, hlY2, v0, v1⟩ := HE20.out.at (i := i) (by rw [← HEl.out]; exact hiG)
                    simp only [Option.some.injEq, Addr.mk.injEq, and_true] at hx9 hy9
                    subst hx9 hy9
                    rw [← Hen.out] at v0 v1
                    unfold Ent.ov at v0
                    unfold Ent.yv at v1
                    rw [← HM.out] at v0 v1
                    clear hn1 hn2 hrec hrl hoff hd20 hm20 HD HV HE HB HS V0 V1 hlF hlY
                    go_wp2_with fail
                    have Hsy := Lib.hid (Hok.out.row.1.ext HB20.out)
                    refine (records_at aR cR vs en.y.a en.y.c en.y.rs w20 nR nR true HREC.out.mat Hsy.out Hn1.out HM.out (by omega) (by omega) (by rw [HRL.out]; simp)).mono ?_
                    rintro e w21 ⟨rfl, hb21⟩
                    have HOFF21 := Lib.hid (HOFF.out.ext hb21)
                    have HD21 := Lib.hid (HD20.out.ext hb21)
                    have HV21 := Lib.hid (HV20.out.ext hb21)
                    have HE21 := Lib.hid (HE20.out.ext hb21)
                    have HB21 := Lib.hid (bthen HB20.out hb21 (Nat.le_refl _))
                    have w0 := (World.cell?_of_block (w := w20) (a := ⟨gF, i, none⟩) (hb21.block gF hlF2)).trans v0
                    have w1 := (World.cell?_of_block (w := w20) (a := ⟨gY, i, none⟩) (hb21.block gY hlY2)).trans v1
                    clear hb21 HOFF HD20 HV20 HE20 HB20 HREC Hsy v0 v1
                    go_wp2_with fail
                    have Hol : Hid (nR = (offsP (recs en.y.rs)).length) := Lib.hid (by
                      unfold offsP
                      rw [List.length_map, List.length_range, recs_length, HM.out])
                    refine (keepints_at aI cI (offsP (recs en.y.rs)) en.ao en.co (offsP (recs en.y.rs)) w21 nR nR true HOFF21.out.src (HIN.out _ HE21.out).src Hol.out Hol.out (by omega) (by omega) (by simp)).mono ?_
                    rintro e w22 ⟨rfl, hb22⟩
                    have HD22 := Lib.hid (HD21.out.ext hb22)
                    have HV22 := Lib.hid (HV21.out.ext hb22)
                    have HE22 := Lib.hid (HE21.out.ext hb22)
                    have HB22 := Lib.hid (bthen HB21.out hb22 (Nat.le_refl _))
                    clear hb22 HOFF21 HD21 HV21 HE21 HB21 w0 w1 hlF2 hlY2
                    go_wp2_with fail
                    go_loopw [23] (fun jv wr => ∃ (j : Nat) (pt : Int) (wx : World), wx = wr ∧ j ≤ nR ∧ jv = .int .i64 (j : Int) ∧ EntsAt wx w.heap.size (some ⟨gF, 0, none⟩) G cF (some ⟨gY, 0, none⟩) cY es ∧ VolAt wx vb d (sz : Int) ∧ DrvP w.heap.size AllK wx d g (volT 400 (lbytes 1 0 4) ((entG es).take n)) pt PS.new ∧ DGood (volT 400 (lbytes 1 0 4) ((entG es).take n)) pt ∧ Below w.heap.size w wx) (fun jv _ => nR - (intOf jv).toNat)
                    case atStart => exact ⟨0, pS, _, rfl, by omega, rfl, HE22.out, HV22.out, HD22.out, HGS.out, HB22.out⟩
                    case round =>
                      obtain ⟨j, pt, wx, hwx, hj, rfl, hE, hV, hD, hgp, hbx⟩ := hrel
                      subst hwx
                      clear HE22 HV22 HD22 HGS HB22 HGP
                      have HE := Lib.hid hE
                      have HV := Lib.hid hV
                      have HD := Lib.hid hD
                      have HGP := Lib.hid hgp
                      have HB := Lib.hid hbx
                      clear hE hV hD hgp hbx
                      obtain ⟨x9, y9, hx9, hy9, hlF, hlY, v0, v1⟩ := HE.out.at (i := i) (by rw [← HEl.out]; exact hiG)
                      simp only [Option.some.injEq, Addr.mk.injEq, and_true] at hx9 hy9
                      subst hx9 hy9
                      rw [← Hen.out] at v0 v1
                      unfold Ent.ov at v0
                      unfold Ent.yv at v1
                      rw [← HM.out] at v0 v1
                      by_cases hjn : j < nR
                      · as_aux_lemma =>
                          have hjl : j < en.y.rs.length := by rw [← HM.out]; exact hjn
                          have hjr : j < (recs en.y.rs).length := by rw [recs_length]; exact hjl
                          have hon := HIN.out _ HE.out
                          rw [← HM.out] at hon
                          obtain ⟨ob, hob, _, hlO, hato, _⟩ := hon.at (i := j) hjn
                          obtain ⟨yb, yo, hyb, hlR0, hatr⟩ := Hok.out.row.1.at hjl
                          obtain ⟨q0, _, q2⟩ := hatr j hjl
                          have hok_d := Hok.out.row.1.row _ (List.getElem_mem hjl)
                          obtain ⟨rr, hrr⟩ : ∃ r, r = en.y.rs[j] := ⟨_, rfl⟩
                          rw [← hrr] at q0 q2 hok_d
                          have hrp : (recs en.y.rs)[j] = rr.pl := by rw [hrr]; simp [recs]
                          obtain ⟨oj, hoj⟩ : ∃ n, n = offP (recs en.y.rs) j := ⟨_, rfl⟩
                          have hvl : j < (ivs en.of).length := by rw [ivs_length]; unfold Ent.of offsP; rw [List.length_map, List.length_range]; exact hjr
                          have v2 := hato j hvl
                          have hve : (ivs en.of)[j] = .int .i64 (oj : Int) := by rw [hoj]; unfold ivs Ent.of offsP; simp
                          rw [hve] at v2
                          have hfr := frame_at Hok.out.pk.ok hjr
                          rw [hrp, ← hoj] at hfr
                          obtain ⟨da, dc, dd, hdd⟩ : ∃ da dc dd, rr.d = (⟨da, dc, dd⟩ : Bsl) := ⟨_, _, _, rfl⟩
                          obtain ⟨dl, hdl⟩ : ∃ n, n = dd.length := ⟨_, rfl⟩
                          have hpd : rr.pl.d = dd := by show rr.d.l = dd; rw [hdd]
                          rw [hdd] at q2 hok_d
                          dsimp only at q2
                          rw [hpd, ← hdl] at hfr
                          rw [← hdl] at q2
                          obtain ⟨fr, hfrr⟩ : ∃ f, f = frameOf rr.pl := ⟨_, rfl⟩
                          rw [← hfrr] at hfr
                          have hfl : fr.length = 13 + dl := by rw [hfrr, frameOf_length, hpd, hdl]
                          obtain ⟨bz, tz, hbz, hbk⟩ := frame_kind (r := rr.pl) (by rw [← hrp]; exact (Hok.out.pk.ok.ok _ (List.getElem_mem hjr)).1)
                          obtain ⟨kd, hkd⟩ : ∃ k, k = rr.kind := ⟨_, rfl⟩
                          have hdrop : fr.drop 13 = dd := by rw [hfrr, frame_drop, hpd]
                          rw [← hfrr] at hbz
                          have hbk2 : ((bz.toNat : Nat) : Int) = kd := by rw [hkd]; exact hbk
                          rw [← hkd] at q0
                          have hWl : (joinB (aggrL (recs en.y.rs))).length ≤ 102400 := by
                            have := HOQ.out.bytes (List.mem_of_getElem? Hgi.out)
                            rw [Hok.out.pk.flat] at this
                            exact this
                          have hrows : en.rows = rowsC (joinB (aggrL (recs en.y.rs))) sz := by have := Hok.out.pk.eq; rw [Int.toNat_natCast] at this; exact this
                          obtain ⟨pR, hR⟩ := vRead_vol (off := oj) (n := 13 + dl) (at_ := pt) (sz := sz) (by have := Hgi.out; rw [hrows] at this; exact this) (by omega) (by omega)
                          have hpc : pieceP (joinB (aggrL (recs en.y.rs))) oj (13 + dl) = (fr, 0) := by
                            unfold pieceP
                            rw [if_neg (by omega), if_pos hfr.2, hfr.1]
                          rw [hpc] at hR
                          have HRD := Lib.hid hR
                          have HGR : Hid (DGood (volT 400 (lbytes 1 0 4) ((entG es).take n)) pR) := Lib.hid (by have := vRead_good (s := PS.new) (sz := sz) (file := (i : Int) + 1) (off := (oj : Int)) (n := ((13 + dl : Nat) : Int)) HGP.out; rw [HRD.out] at this; exact this)
                          have HFL : Hid (fr.length = 13 + dl) := Lib.hid hfl
                          have HBZ : Hid (fr = bz :: tz ∧ fr.drop 13 = dd) := Lib.hid ⟨hbz, hdrop⟩
                          have HDL : Hid (dl = dd.length) := Lib.hid hdl
                          have HDO : Hid (Src w da (bvs dd)) := Lib.hid hok_d.1
                          have Q2 := Lib.hid q2
                          have Q0 := Lib.hid q0
                          have hoj2 : oj ≤ 102400 ∧ dl ≤ 102400 := by have := hfr.2; omega
                          have hwd : IntKind.i64.wrap (13 + (dl : Int)) = ((13 + dl : Nat) : Int) := by rw [IntKind.wrap_i64]; omega
                          have hwz : IntKind.i64.wrap ((bz.toNat : Nat) : Int) = kd := by rw [← hbk2, IntKind.wrap_i64]; have := bz.isLt; omega
                          have HLR0 := Lib.hid hlR0
                          obtain ⟨M, hMn⟩ : ∃ m, m = nR := ⟨_, rfl⟩
                          obtain ⟨ya, hya⟩ : ∃ a, a = en.y.a := ⟨_, rfl⟩
                          obtain ⟨yc, hyc⟩ : ∃ a, a = en.y.c := ⟨_, rfl⟩
                          obtain ⟨oc, hoc⟩ : ∃ a, a = en.co := ⟨_, rfl⟩
                          rw [← hya] at hyb v1
                          rw [← hyc] at v1
                          rw [← hoc, hob] at v0
                          subst hyb
                          rw [← hMn] at v0 v1
                          have v4 := (World.cell?_of_block (w := w) (a := ⟨yb, yo + j * 3 + 2, none⟩) (HB.out.block yb hlR0)).trans q2
                          have hlR : yb < wx.heap.size := Nat.lt_of_lt_of_le hlR0 HB.out.size
                          have hjM : j < M := by rw [hMn]; exact hjn
                          have HYA := Lib.hid hya
                          have HYC := Lib.hid hyc
                          clear hon hatr hato hob q0 q2 hok_d hrr hrp hoj hvl hve hfr hdd hdl hpd hfrr hfl hbz hbk hkd hdrop hbk2 hWl hrows hR hpc hya hyc hoc
                          go_wp2_with fail
                          refine wp_region_phase (by kernel_rfl) [20] (by kernel_rfl) (by kernel_rfl) ?_
                          refine stage_more [Sp.eq (.pointer (some ⟨vb, 0, none⟩)), Sp.eq (.int .i64 (i : Int)), Sp.eq (.int .i64 ((i : Int) + 1)), Sp.eq (.slice (some ⟨gF, 0, none⟩) G cF), Sp.eq (.int .i64 (i : Int)), Sp.eq (.pointer (some ⟨gF, i, none⟩)), Sp.eq (.slice (some ⟨ob, 0, none⟩) M oc), Sp.eq (.int .i64 (j : Int)), Sp.eq (.pointer (some ⟨ob, j, none⟩)), Sp.eq (.int .i64 (oj : Int)), Sp.eq (.slice (some ⟨gY, 0, none⟩) G cY), Sp.eq (.int .i64 (i : Int)), Sp.eq (.pointer (some ⟨gY, i, none⟩)), Sp.eq (.slice (some ⟨yb, yo, none⟩) M yc), Sp.eq (.int .i64 (j : Int)), Sp.eq (.pointer (some ⟨yb, yo + j * 3, none⟩)), Sp.eq (.pointer (some ⟨yb, yo + j * 3 + 2, none⟩)), Sp.eq (.slice da dl dc), Sp.eq (.int .i64 (dl : Int)), Sp.eq (.int .i64 ((13 + dl : Nat) : Int))] rfl ?_ ?_
                          · refine stepsG_cons ?_ (stepsG_cons ?_ (stepsG_cons ?_ (stepsG_cons ?_ (stepsG_cons ?_ (stepsG_cons ?_ (stepsG_cons ?_ (stepsG_cons ?_ (stepsG_cons ?_ (stepsG_cons ?_ (stepsG_cons ?_ (stepsG_cons ?_ (stepsG_cons ?_ (stepsG_cons ?_ (stepsG_cons ?_ (stepsG_cons ?_ (stepsG_cons ?_ (stepsG_cons ?_ (stepsG_cons ?_ (stepsG_cons ?_ (stepsG_nil))))))))))))))))))))
                            · intro ρ w' E
                              have e10 : ρ (.tmp 10) = .pointer (some ⟨vb, 0, none⟩) := E.out 10 rfl
                              refine step_plain rfl ?_
                              exact op_move (.inl rfl) e10 ⟨Below.refl _ _, rfl⟩
                            · intro ρ w' E
                              have e18 : ρ (.tmp 18) = .int .i64 (i : Int) := E.out 18 rfl
                              refine step_plain rfl ?_
                              exact op_move (.inl rfl) e18 ⟨Below.refl _ _, rfl⟩
                            · intro ρ w' E
                              have e210 : ρ (.tmp 210) = .int .i64 (i : Int) := E.pre 1 rfl rfl
                              refine step_plain rfl ?_
                              refine op_val (v := .int .i64 ((i : Int) + 1)) (w' := w') ?_ ⟨Below.refl _ _, rfl⟩
                              have hw := hwi
                              have hcon := E.con
                              clear E v0 v1 v2 v4
                              go_simp
                            · intro ρ w' E
                              have e11 : ρ (.tmp 11) = .slice (some ⟨gF, 0, none⟩) G cF := E.out 11 rfl
                              refine step_plain rfl ?_
                              exact op_move (.inl rfl) e11 ⟨Below.refl _ _, rfl⟩
                            · intro ρ w' E
                              have e18 : ρ (.tmp 18) = .int .i64 (i : Int) := E.out 18 rfl
                              refine step_plain rfl ?_
                              exact op_move (.inl rfl) e18 ⟨Below.refl _ _, rfl⟩
                            · intro ρ w' E
                              have e212 : ρ (.tmp 212) = .slice (some ⟨gF, 0, none⟩) G cF := E.pre 3 rfl rfl
                              have e213 : ρ (.tmp 213) = .int .i64 (i : Int) := E.pre 4 rfl rfl
                              refine step_plain rfl ?_
                              refine op_val (v := .pointer (some ⟨gF, i, none⟩)) (w' := w') ?_ ⟨Below.refl _ _, rfl⟩
                              have hcon := E.con
                              clear E
                              go_simp
                            · intro ρ w' E
                              have e214 : ρ (.tmp 214) = .pointer (some ⟨gF, i, none⟩) := E.pre 5 rfl rfl
                              refine step_plain rfl ?_
                              refine op_val (v := .slice (some ⟨ob, 0, none⟩) M oc) (w' := w') ?_ ⟨Below.refl _ _, rfl⟩
                              have hk := (World.cell?_of_block (w := wx) (E.below.block _ hlF)).trans v0
                              have hcon := E.con
                              clear E v0 v1 v2 v4
                              go_simp
                            · intro ρ w' E
                              have e23 : ρ (.tmp 23) = .int .i64 (j : Int) := E.out 23 rfl
                              refine step_plain rfl ?_
                              exact op_move (.inl rfl) e23 ⟨Below.refl _ _, rfl⟩
                            · intro ρ w' E
                              have e215 : ρ (.tmp 215) = .slice (some ⟨ob, 0, none⟩) M oc := E.pre 6 rfl rfl
                              have e216 : ρ (.tmp 216) = .int .i64 (j : Int) := E.pre 7 rfl rfl
                              refine step_plain rfl ?_
                              refine op_val (v := .pointer (some ⟨ob, j, none⟩)) (w' := w') ?_ ⟨Below.refl _ _, rfl⟩
                              have hcon := E.con
                              clear E
                              go_simp
                            · intro ρ w' E
                              have e217 : ρ (.tmp 217) = .pointer (some ⟨ob, j, none⟩) := E.pre 8 rfl rfl
                              refine step_plain rfl ?_
                              refine op_val (v := .int .i64 (oj : Int)) (w' := w') ?_ ⟨Below.refl _ _, rfl⟩
                              have hk := (World.cell?_of_block (w := wx) (E.below.block _ hlO)).trans v2
                              have hcon := E.con
                              clear E v0 v1 v2 v4
                              go_simp
                            · intro ρ w' E
                              have e12 : ρ (.tmp 12) = .slice (some ⟨gY, 0, none⟩) G cY := E.out 12 rfl
                              refine step_plain rfl ?_
                              exact op_move (.inl rfl) e12 ⟨Below.refl _ _, rfl⟩
                            · intro ρ w' E
                              have e18 : ρ (.tmp 18) = .int .i64 (i : Int) := E.out 18 rfl
                              refine step_plain rfl ?_
                              exact op_move (.inl rfl) e18 ⟨Below.refl _ _, rfl⟩
                            · intro ρ w' E
                              have e219 : ρ (.tmp 219) = .slice (some ⟨gY, 0, none⟩) G cY := E.pre 10 rfl rfl
                              have e220 : ρ (.tmp 220) = .int .i64 (i : Int) := E.pre 11 rfl rfl
                              refine step_plain rfl ?_
                              refine op_val (v := .pointer (some ⟨gY, i, none⟩)) (w' := w') ?_ ⟨Below.refl _ _, rfl⟩
                              have hcon := E.con
                              clear E
                              go_simp
                            · intro ρ w' E
                              have e221 : ρ (.tmp 221) = .pointer (some ⟨gY, i, none⟩) := E.pre 12 rfl rfl
                              refine step_plain rfl ?_
                              refine op_val (v := .slice (some ⟨yb, yo, none⟩) M yc) (w' := w') ?_ ⟨Below.refl _ _, rfl⟩
                              have hk := (World.cell?_of_block (w := wx) (E.below.block _ hlY)).trans v1
                              have hcon := E.con
                              clear E v0 v1 v2 v4
                              go_simp
                            · intro ρ w' E
                              have e23 : ρ (.tmp 23) = .int .i64 (j : Int) := E.out 23 rfl
                              refine step_plain rfl ?_
                              exact op_move (.inl rfl) e23 ⟨Below.refl _ _, rfl⟩
                            · intro ρ w' E
                              have e222 : ρ (.tmp 222) = .slice (some ⟨yb, yo, none⟩) M yc := E.pre 13 rfl rfl
                              have e223 : ρ (.tmp 223) = .int .i64 (j : Int) := E.pre 14 rfl rfl
                              refine step_plain rfl ?_
                              refine op_val (v := .pointer (some ⟨yb, yo + j * 3, none⟩)) (w' := w') ?_ ⟨Below.refl _ _, rfl⟩
                              have hcon := E.con
                              clear E
                              go_simp
                            · intro ρ w' E
                              have e224 : ρ (.tmp 224) = .pointer (some ⟨yb, yo + j * 3, none⟩) := E.pre 15 rfl rfl
                              refine step_plain rfl ?_
                              refine op_val (v := .pointer (some ⟨yb, yo + j * 3 + 2, none⟩)) (w' := w') ?_ ⟨Below.refl _ _, rfl⟩
                              have hcon := E.con
                              clear E
                              go_simp
                            · intro ρ w' E
                              have e225 : ρ (.tmp 225) = .pointer (some ⟨yb, yo + j * 3 + 2, none⟩) := E.pre 16 rfl rfl
                              refine step_plain rfl ?_
                              refine op_val (v := .slice da dl dc) (w' := w') ?_ ⟨Below.refl _ _, rfl⟩
                              have hk := (World.cell?_of_block (w := wx) (E.below.block _ hlR)).trans v4
                              have hcon := E.con
                              clear E v0 v1 v2 v4
                              go_simp
                            · intro ρ w' E
                              have e226 : ρ (.tmp 226) = .slice da dl dc := E.pre 17 rfl rfl
                              refine step_plain rfl ?_
                              refine op_val (v := .int .i64 (dl : Int)) (w' := w') ?_ ⟨Below.refl _ _, rfl⟩
                              have hcon := E.con
                              clear E
                              go_simp
                            · intro ρ w' E
                              have e227 : ρ (.tmp 227) = .int .i64 (dl : Int) := E.pre 18 rfl rfl
                              refine step_plain rfl ?_
                              refine op_val (v := .int .i64 ((13 + dl : Nat) : Int)) (w' := w') ?_ ⟨Below.refl _ _, rfl⟩
                              have hw := hwd
                              have hcon := E.con
                              clear E v0 v1 v2 v4
                              go_simp
                          · intro σ1 ρ1 w1c E1 O1 H1
                            have e209 : ρ1 (.tmp 209) = .pointer (some ⟨vb, 0, none⟩) := E1.pre 0 rfl rfl
                            have e211 : ρ1 (.tmp 211) = .int .i64 ((i : Int) + 1) := E1.pre 2 rfl rfl
                            have e218 : ρ1 (.tmp 218) = .int .i64 (oj : Int) := E1.pre 9 rfl rfl
                            have e228 : ρ1 (.tmp 228) = .int .i64 ((13 + dl : Nat) : Int) := E1.pre 19 rfl rfl
                            refine step_plain rfl ?_
                            refine op_call (f := 16) (args := #[.pointer (some ⟨vb, 0, none⟩), .int .i64 ((i : Int) + 1), .int .i64 (oj : Int), .int .i64 ((13 + dl : Nat) : Int)]) (w' := w1c) (by have hcon := E1.con; have hfn := E1.fn; clear E1 v0 v1 v2 v4; go_simp) ?_
                            have hbe := bthen HB.out E1.below (Nat.le_refl _)
                            refine (vol_read ((i : Int) + 1) (oj : Int) ((13 + dl : Nat) : Int) sz fr 0 pR w1c (HV.out.ext E1.below) (HD.out.ext E1.below) hbe.size HGP.out hsz (by omega) (by omega) HRD.out).mono ?_
                            rintro e wR ⟨aX, mX, cX, rfl, hmX, hX, hdR, hmR⟩
                            obtain rfl : mX = 13 + dl := hmX.trans HFL.out
                            clear hmX
                            have HX := Lib.hid hX
                            have HDR := Lib.hid hdR
                            have HVR := Lib.hid ((HV.out.ext E1.below).vf hmR)
                            have HBR := Lib.hid (hbe.trans (hmR.below (fun b T h => h.1) hbe.size))
                            have HER := Lib.hid ((HE.out.ext E1.below).vf hmR)
                            clear hX hdR hmR hbe
                            refine ⟨_, rfl, ?_⟩
                            refine stage_last [Sp.eq (.tuple #[.slice aX (13 + dl) cX, .int .i64 0]), Sp.eq (.slice aX (13 + dl) cX), Sp.eq (.int .i64 0), Sp.eq (.slice aX (13 + dl) cX), Sp.eq (.int .i64 0)] ?_ ?_
                            · refine stepsG_cons ?_ (stepsG_cons ?_ (stepsG_cons ?_ (stepsG_cons ?_ (stepsG_cons ?_ (stepsG_nil)))))
                              · intro ρ w' E
                                have e229 : ρ (.tmp 229) = .tuple #[.slice aX (13 + dl) cX, .int .i64 0] := (E.old 20 229 rfl rfl).trans rfl
                                refine step_plain rfl ?_
                                exact op_move (.inl rfl) e229 ⟨Below.refl _ _, rfl⟩
                              · intro ρ w' E
                                have e208 : ρ (.tmp 208) = .tuple #[.slice aX (13 + dl) cX, .int .i64 0] := E.pre 21 rfl rfl
                                refine step_plain rfl ?_
                                refine op_val (v := .slice aX (13 + dl) cX) (w' := w') ?_ ⟨Below.refl _ _, rfl⟩
                                have hcon := E.con
                                clear E
                                go_simp
                              · intro ρ w' E
                                have e208 : ρ (.tmp 208) = .tuple #[.slice aX (13 + dl) cX, .int .i64 0] := E.pre 21 rfl rfl
                                refine step_plain rfl ?_
                                refine op_val (v := .int .i64 0) (w' := w') ?_ ⟨Below.refl _ _, rfl⟩
                                have hcon := E.con
                                clear E
                                go_simp
                              · intro ρ w' E
                                have e230 : ρ (.tmp 230) = .slice aX (13 + dl) cX := E.pre 22 rfl rfl
                                refine step_plain rfl ?_
                                exact op_move (.inr rfl) e230 ⟨Below.refl _ _, rfl⟩
                              · intro ρ w' E
                                have e231 : ρ (.tmp 231) = .int .i64 0 := E.pre 23 rfl rfl
                                refine step_plain rfl ?_
                                exact op_move (.inr rfl) e231 ⟨Below.refl _ _, rfl⟩
                            · intro σF wF GF OF HF
                              have s24 : σF 24 = .slice aX (13 + dl) cX := HF 24 rfl rfl
                              have s25 : σF 25 = .int .i64 0 := HF 25 rfl rfl
                              clear H1 O1 OF HF E1
                              simp only [upd, updL, dstsOf', elemB, List.filterMap_cons, List.filterMap_nil, Nat.reduceAdd, Nat.reduceBEq, Bool.or_false, Bool.false_or, Bool.or_true, Bool.true_or, cond_true, cond_false, Nat.zero_add, s24, s25]
                              have HXF := Lib.hid (HX.out.ext GF)
                              have HDF := Lib.hid (HDR.out.ext GF)
                              have HVF := Lib.hid (HVR.out.ext GF)
                              have HEF := Lib.hid (HER.out.ext GF)
                              have HBF := Lib.hid (bthen HBR.out GF (Nat.le_refl _))
                              clear GF HX HDR HVR HER HBR HE HV HD HB v0 v1 v2 v4 hlF hlY hlO hlR s24 s25 HRD HGP
                              generalize wF = wF1 at *
                              obtain ⟨x9, y9, hx9, hy9, _, hlY, _, v1⟩ := HEF.out.at (i := i) (by rw [← HEl.out]; exact hiG)
                              simp only [Option.some.injEq, Addr.mk.injEq, and_true] at hx9 hy9
                              subst hx9 hy9
                              rw [← Hen.out] at v1
                              unfold Ent.yv at v1
                              rw [← HM.out] at v1
                              obtain ⟨xX, hxX, _, hlX, hatx, _⟩ := HXF.out.at (i := 0) (by omega)
                              subst hxX
                              have hcX := HXF.out.len.1
                              have v3 : wF1.cell? ⟨xX, 0, none⟩ = some (.int .u8 (bz.toNat : Int)) := by
                                have h := hatx 0 (by rw [bvs_length, HFL.out]; omega)
                                have h2 : (bvs fr)[0]? = some (.int .u8 (bz.toNat : Int)) := by rw [HBZ.out.1]; rfl
                                rw [h, ← h2, List.getElem?_eq_getElem]
                              have v2 := (World.cell?_of_block (w := w) (a := ⟨yb, yo + j * 3, none⟩) (HBF.out.block yb HLR0.out)).trans Q0.out
                              have v4 := (World.cell?_of_block (w := w) (a := ⟨yb, yo + j * 3 + 2, none⟩) (HBF.out.block yb HLR0.out)).trans Q2.out
                              have hlR : yb < wF1.heap.size := Nat.lt_of_lt_of_le HLR0.out HBF.out.size
                              obtain ⟨aS, haS⟩ : ∃ a : Option Addr, a = if cX = 13 then some ⟨xX, 0, none⟩ else some ⟨xX, 13, none⟩ := ⟨_, rfl⟩
                              have hlX13 : 13 + dl ≤ cX := hcX
                              have HSS : Hid (Src wF1 aS (bvs dd)) := Lib.hid (by
                                have h := src_drop HXF.out.src cX 13 (by rw [bvs_length, HFL.out]; exact hcX)
                                rw [← HBZ.out.2, bvs_drop, haS]
                                have e13 : (⟨xX, 0, none⟩ : Addr).add 13 = ⟨xX, 13, none⟩ := by simp [Addr.add]
                                simpa [e13] using h)
                              have HSD : Hid (Src wF1 da (bvs dd)) := Lib.hid (HDO.out.ext HBF.out)
                              rw [← hMn, ← HYA.out, ← HYC.out] at v1
                              clear hatx
                              go_wp2_with fail
                              refine wp_region_phase (by kernel_rfl) [] (by kernel_rfl) (by kernel_rfl) ?_
                              refine stage_last [Sp.eq (.int .i64 0), Sp.eq (.bool false), Sp.eq (.bool false), Sp.eq (.slice (some ⟨xX, 0, none⟩) (13 + dl) cX), Sp.eq (.int .i64 ((13 + dl : Nat) : Int)), Sp.eq (.slice (some ⟨gY, 0, none⟩) G cY), Sp.eq (.int .i64 (i : Int)), Sp.eq (.pointer (some ⟨gY, i, none⟩)), Sp.eq (.slice (some ⟨yb, yo, none⟩) M yc), Sp.eq (.int .i64 (j : Int)), Sp.eq (.pointer (some ⟨yb, yo + j * 3, none⟩)), Sp.eq (.pointer (some ⟨yb, yo + j * 3 + 2, none⟩)), Sp.eq (.slice da dl dc), Sp.eq (.int .i64 (dl : Int)), Sp.eq (.int .i64 ((13 + dl : Nat) : Int)), Sp.eq (.bool false), Sp.eq (.bool false), Sp.eq (.bool false), Sp.eq (.slice (some ⟨xX, 0, none⟩) (13 + dl) cX), Sp.eq (.slice aS dl (cX - 13)), Sp.eq (.slice (some ⟨gY, 0, none⟩) G cY), Sp.eq (.int .i64 (i : Int)), Sp.eq (.pointer (some ⟨gY, i, none⟩)), Sp.eq (.slice (some ⟨yb, yo, none⟩) M yc), Sp.eq (.int .i64 (j : Int)), Sp.eq (.pointer (some ⟨yb, yo + j * 3, none⟩)), Sp.eq (.pointer (some ⟨yb, yo + j * 3 + 2, none⟩)), Sp.eq (.slice da dl dc), Sp.eq (.bool true), Sp.eq (.bool false), Sp.eq (.bool false), Sp.eq (.bool false), Sp.eq (.slice (some ⟨xX, 0, none⟩) (13 + dl) cX), Sp.eq (.pointer (some ⟨xX, 0, none⟩)), Sp.eq (.int .u8 (bz.toNat : Int)), Sp.eq (.int .i64 kd), Sp.eq (.slice (some ⟨gY, 0, none⟩) G cY), Sp.eq (.int .i64 (i : Int)), Sp.eq (.pointer (some ⟨gY, i, none⟩)), Sp.eq (.slice (some ⟨yb, yo, none⟩) M yc), Sp.eq (.int .i64 (j : Int)), Sp.eq (.pointer (some ⟨yb, yo + j * 3, none⟩)), Sp.eq (.pointer (some ⟨yb, yo + j * 3, none⟩)), Sp.eq (.int .i64 kd), Sp.eq (.bool false), Sp.eq (.bool false)] ?_ ?_
                              · refine stepsG_cons ?_ (stepsG_cons ?_ (stepsG_cons ?_ (stepsG_cons ?_ (stepsG_cons ?_ (stepsG_cons ?_ (stepsG_cons ?_ (stepsG_cons ?_ (stepsG_cons ?_ (stepsG_cons ?_ (stepsG_cons ?_ (stepsG_cons ?_ (stepsG_cons ?_ (stepsG_cons ?_ (stepsG_cons ?_ (stepsG_cons ?_ (stepsG_cons ?_ (stepsG_cons ?_ (stepsG_cons ?_ (stepsG_cons ?_ (stepsG_cons ?_ (stepsG_cons ?_ (stepsG_cons ?_ (stepsG_cons ?_ (stepsG_cons ?_ (stepsG_cons ?_ (stepsG_cons ?_ (stepsG_cons ?_ (stepsG_cons ?_ (stepsG_cons ?_ (stepsG_cons ?_ (stepsG_cons ?_ (stepsG_cons ?_ (stepsG_cons ?_ (stepsG_cons ?_ (stepsG_cons ?_ (stepsG_cons ?_ (stepsG_cons ?_ (stepsG_cons ?_ (stepsG_cons ?_ (stepsG_cons ?_ (stepsG_cons ?_ (stepsG_cons ?_ (stepsG_cons ?_ (stepsG_cons ?_ (stepsG_cons ?_ (stepsG_nil))))))))))))))))))))))))))))))))))))))))))))))
                                · intro ρ w' E
                                  have e25 : ρ (.tmp 25) = .int .i64 0 := E.out 25 rfl
                                  refine step_plain rfl ?_
                                  exact op_move (.inl rfl) e25 ⟨Below.refl _ _, rfl⟩
                                · intro ρ w' E
                                  have e232 : ρ (.tmp 232) = .int .i64 0 := E.pre 0 rfl rfl
                                  refine step_plain rfl ?_
                                  refine op_val (v := .bool false) (w' := w') ?_ ⟨Below.refl _ _, rfl⟩
                                  have hcon := E.con
                                  clear E
                                  go_simp
                                · intro ρ w' E
                                  have e233 : ρ (.tmp 233) = .bool false := E.pre 1 rfl rfl
                                  refine step_plain rfl ?_
                                  exact op_move (.inl rfl) e233 ⟨Below.refl _ _, rfl⟩
                                · intro ρ w' E
                                  have e24 : ρ (.tmp 24) = .slice (some ⟨xX, 0, none⟩) (13 + dl) cX := E.out 24 rfl
                                  refine step_yes rfl (E.pre 2 rfl rfl) ?_
                                  exact op_move (.inl rfl) e24 ⟨Below.refl _ _, rfl⟩
                                · intro ρ w' E
                                  have e235 : ρ (.tmp 235) = .slice (some ⟨xX, 0, none⟩) (13 + dl) cX := E.pre 3 rfl rfl
                                  refine step_yes rfl (E.pre 2 rfl rfl) ?_
                                  refine op_val (v := .int .i64 ((13 + dl : Nat) : Int)) (w' := w') ?_ ⟨Below.refl _ _, rfl⟩
                                  have hcon := E.con
                                  clear E
                                  go_simp
                                · intro ρ w' E
                                  have e12 : ρ (.tmp 12) = .slice (some ⟨gY, 0, none⟩) G cY := E.out 12 rfl
                                  refine step_yes rfl (E.pre 2 rfl rfl) ?_
                                  exact op_move (.inl rfl) e12 ⟨Below.refl _ _, rfl⟩
                                · intro ρ w' E
                                  have e18 : ρ (.tmp 18) = .int .i64 (i : Int) := E.out 18 rfl
                                  refine step_yes rfl (E.pre 2 rfl rfl) ?_
                                  exact op_move (.inl rfl) e18 ⟨Below.refl _ _, rfl⟩
                                · intro ρ w' E
                                  have e237 : ρ (.tmp 237) = .slice (some ⟨gY, 0, none⟩) G cY := E.pre 5 rfl rfl
                                  have e238 : ρ (.tmp 238) = .int .i64 (i : Int) := E.pre 6 rfl rfl
                                  refine step_yes rfl (E.pre 2 rfl rfl) ?_
                                  refine op_val (v := .pointer (some ⟨gY, i, none⟩)) (w' := w') ?_ ⟨Below.refl _ _, rfl⟩
                                  have hcon := E.con
                                  clear E
                                  go_simp
                                · intro ρ w' E
                                  have e239 : ρ (.tmp 239) = .pointer (some ⟨gY, i, none⟩) := E.pre 7 rfl rfl
                                  refine step_yes rfl (E.pre 2 rfl rfl) ?_
                                  refine op_val (v := .slice (some ⟨yb, yo, none⟩) M yc) (w' := w') ?_ ⟨Below.refl _ _, rfl⟩
                                  have hk := (World.cell?_of_block (w := wF1) (E.below.block _ hlY)).trans v1
                                  have hcon := E.con
                                  clear E v1 v2 v3 v4
                                  go_simp
                                · intro ρ w' E
                                  have e23 : ρ (.tmp 23) = .int .i64 (j : Int) := E.out 23 rfl
                                  refine step_yes rfl (E.pre 2 rfl rfl) ?_
                                  exact op_move (.inl rfl) e23 ⟨Below.refl _ _, rfl⟩
                                · intro ρ w' E
                                  have e240 : ρ (.tmp 240) = .slice (some ⟨yb, yo, none⟩) M yc := E.pre 8 rfl rfl
                                  have e241 : ρ (.tmp 241) = .int .i64 (j : Int) := E.pre 9 rfl rfl
                                  refine step_yes rfl (E.pre 2 rfl rfl) ?_
                                  refine op_val (v := .pointer (some ⟨yb, yo + j * 3, none⟩)) (w' := w') ?_ ⟨Below.refl _ _, rfl⟩
                                  have hcon := E.con
                                  clear E
                                  go_simp
                                · intro ρ w' E
                                  have e242 : ρ (.tmp 242) = .pointer (some ⟨yb, yo + j * 3, none⟩) := E.pre 10 rfl rfl
                                  refine step_yes rfl (E.pre 2 rfl rfl) ?_
                                  refine op_val (v := .pointer (some ⟨yb, yo + j * 3 + 2, none⟩)) (w' := w') ?_ ⟨Below.refl _ _, rfl⟩
                                  have hcon := E.con
                                  clear E
                                  go_simp
                                · intro ρ w' E
                                  have e243 : ρ (.tmp 243) = .pointer (some ⟨yb, yo + j * 3 + 2, none⟩) := E.pre 11 rfl rfl
                                  refine step_yes rfl (E.pre 2 rfl rfl) ?_
                                  refine op_val (v := .slice da dl dc) (w' := w') ?_ ⟨Below.refl _ _, rfl⟩
                                  have hk := (World.cell?_of_block (w := wF1) (E.below.block _ hlR)).trans v4
                                  have hcon := E.con
                                  clear E v1 v2 v3 v4
                                  go_simp
                                · intro ρ w' E
                                  have e244 : ρ (.tmp 244) = .slice da dl dc := E.pre 12 rfl rfl
                                  refine step_yes rfl (E.pre 2 rfl rfl) ?_
                                  refine op_val (v := .int .i64 (dl : Int)) (w' := w') ?_ ⟨Below.refl _ _, rfl⟩
                                  have hcon := E.con
                                  clear E
                                  go_simp
                                · intro ρ w' E
                                  have e245 : ρ (.tmp 245) = .int .i64 (dl : Int) := E.pre 13 rfl rfl
                                  refine step_yes rfl (E.pre 2 rfl rfl) ?_
                                  refine op_val (v := .int .i64 ((13 + dl : Nat) : Int)) (w' := w') ?_ ⟨Below.refl _ _, rfl⟩
                                  have hw := hwd
                                  have hcon := E.con
                                  clear E v1 v2 v3 v4
                                  go_simp
                                · intro ρ w' E
                                  have e236 : ρ (.tmp 236) = .int .i64 ((13 + dl : Nat) : Int) := E.pre 4 rfl rfl
                                  have e246 : ρ (.tmp 246) = .int .i64 ((13 + dl : Nat) : Int) := E.pre 14 rfl rfl
                                  refine step_yes rfl (E.pre 2 rfl rfl) ?_
                                  refine op_val (v := .bool false) (w' := w') ?_ ⟨Below.refl _ _, rfl⟩
                                  have hcon := E.con
                                  clear E
                                  go_simp
                                · intro ρ w' E
                                  have e234 : ρ (.tmp 234) = .bool false := E.pre 2 rfl rfl
                                  have e247 : ρ (.tmp 247) = .bool false := E.pre 15 rfl rfl
                                  refine step_plain rfl ?_
                                  exact op_pick (b := false) rfl e234 rfl ⟨Below.refl _ _, e247⟩
                                · intro ρ w' E
                                  have e248 : ρ (.tmp 248) = .bool false := E.pre 16 rfl rfl
                                  refine step_plain rfl ?_
                                  exact op_move (.inl rfl) e248 ⟨Below.refl _ _, rfl⟩
                                · intro ρ w' E
                                  have e24 : ρ (.tmp 24) = .slice (some ⟨xX, 0, none⟩) (13 + dl) cX := E.out 24 rfl
                                  refine step_yes rfl (E.pre 17 rfl rfl) ?_
                                  exact op_move (.inl rfl) e24 ⟨Below.refl _ _, rfl⟩
                                · intro ρ w' E
                                  have e250 : ρ (.tmp 250) = .slice (some ⟨xX, 0, none⟩) (13 + dl) cX := E.pre 18 rfl rfl
                                  refine step_yes rfl (E.pre 17 rfl rfl) ?_
                                  refine op_val (v := .slice aS dl (cX - 13)) (w' := w') ?_ ⟨Below.refl _ _, rfl⟩
                                  have hs := haS
                                  have hl13 := hlX13
                                  have hcon := E.con
                                  clear E v1 v2 v3 v4
                                  rw [hs]
                                  go_simp
                                  first | done | (intro h9; omega)
                                · intro ρ w' E
                                  have e12 : ρ (.tmp 12) = .slice (some ⟨gY, 0, none⟩) G cY := E.out 12 rfl
                                  refine step_yes rfl (E.pre 17 rfl rfl) ?_
                                  exact op_move (.inl rfl) e12 ⟨Below.refl _ _, rfl⟩
                                · intro ρ w' E
                                  have e18 : ρ (.tmp 18) = .int .i64 (i : Int) := E.out 18 rfl
                                  refine step_yes rfl (E.pre 17 rfl rfl) ?_
                                  exact op_move (.inl rfl) e18 ⟨Below.refl _ _, rfl⟩
                                · intro ρ w' E
                                  have e252 : ρ (.tmp 252) = .slice (some ⟨gY, 0, none⟩) G cY := E.pre 20 rfl rfl
                                  have e253 : ρ (.tmp 253) = .int .i64 (i : Int) := E.pre 21 rfl rfl
                                  refine step_yes rfl (E.pre 17 rfl rfl) ?_
                                  refine op_val (v := .pointer (some ⟨gY, i, none⟩)) (w' := w') ?_ ⟨Below.refl _ _, rfl⟩
                                  have hcon := E.con
                                  clear E
                                  go_simp
                                · intro ρ w' E
                                  have e254 : ρ (.tmp 254) = .pointer (some ⟨gY, i, none⟩) := E.pre 22 rfl rfl
                                  refine step_yes rfl (E.pre 17 rfl rfl) ?_
                                  refine op_val (v := .slice (some ⟨yb, yo, none⟩) M yc) (w' := w') ?_ ⟨Below.refl _ _, rfl⟩
                                  have hk := (World.cell?_of_block (w := wF1) (E.below.block _ hlY)).trans v1
                                  have hcon := E.con
                                  clear E v1 v2 v3 v4
                                  go_simp
                                · intro ρ w' E
                                  have e23 : ρ (.tmp 23) = .int .i64 (j : Int) := E.out 23 rfl
                                  refine step_yes rfl (E.pre 17 rfl rfl) ?_
                                  exact op_move (.inl rfl) e23 ⟨Below.refl _ _, rfl⟩
                                · intro ρ w' E
                                  have e255 : ρ (.tmp 255) = .slice (some ⟨yb, yo, none⟩) M yc := E.pre 23 rfl rfl
                                  have e256 : ρ (.tmp 256) = .int .i64 (j : Int) := E.pre 24 rfl rfl
                                  refine step_yes rfl (E.pre 17 rfl rfl) ?_
                                  refine op_val (v := .pointer (some ⟨yb, yo + j * 3, none⟩)) (w' := w') ?_ ⟨Below.refl _ _, rfl⟩
                                  have hcon := E.con
                                  clear E
                                  go_simp
                                · intro ρ w' E
                                  have e257 : ρ (.tmp 257) = .pointer (some ⟨yb, yo + j * 3, none⟩) := E.pre 25 rfl rfl
                                  refine step_yes rfl (E.pre 17 rfl rfl) ?_
                                  refine op_val (v := .pointer (some ⟨yb, yo + j * 3 + 2, none⟩)) (w' := w') ?_ ⟨Below.refl _ _, rfl⟩
                                  have hcon := E.con
                                  clear E
                                  go_simp
                                · intro ρ w' E
                                  have e258 : ρ (.tmp 258) = .pointer (some ⟨yb, yo + j * 3 + 2, none⟩) := E.pre 26 rfl rfl
                                  refine step_yes rfl (E.pre 17 rfl rfl) ?_
                                  refine op_val (v := .slice da dl dc) (w' := w') ?_ ⟨Below.refl _ _, rfl⟩
                                  have hk := (World.cell?_of_block (w := wF1) (E.below.block _ hlR)).trans v4
                                  have hcon := E.con
                                  clear E v1 v2 v3 v4
                                  go_simp
                                · intro ρ w' E
                                  have e251 : ρ (.tmp 251) = .slice aS dl (cX - 13) := E.pre 19 rfl rfl
                                  have e259 : ρ (.tmp 259) = .slice da dl dc := E.pre 27 rfl rfl
                                  refine step_yes rfl (E.pre 17 rfl rfl) ?_
                                  refine op_call (f := 17) (args := #[.slice aS dl (cX - 13), .slice da dl dc]) (w' := w') (by have hcon := E.con; have hfn := E.fn; clear E v1 v2 v3 v4; go_simp) ?_
                                  refine (bytes_at aS (cX - 13) dd da dc dd w' dl dl true (HSS.out.ext E.below) (HSD.out.ext E.below) HDL.out HDL.out (by omega) (by omega) (by simp)).mono ?_
                                  rintro e w6 ⟨rfl, nn, rfl⟩
                                  exact ⟨_, rfl, ext_drewN w' nn _, rfl⟩
                                · intro ρ w' E
                                  have e260 : ρ (.tmp 260) = .bool true := E.pre 28 rfl rfl
                                  refine step_yes rfl (E.pre 17 rfl rfl) ?_
                                  refine op_val (v := .bool false) (w' := w') ?_ ⟨Below.refl _ _, rfl⟩
                                  have hcon := E.con
                                  clear E
                                  go_simp
                                · intro ρ w' E
                                  have e249 : ρ (.tmp 249) = .bool false := E.pre 17 rfl rfl
                                  have e261 : ρ (.tmp 261) = .bool false := E.pre 29 rfl rfl
                                  refine step_plain rfl ?_
                                  exact op_pick (b := false) rfl e249 rfl ⟨Below.refl _ _, e261⟩
                                · intro ρ w' E
                                  have e262 : ρ (.tmp 262) = .bool false := E.pre 30 rfl rfl
                                  refine step_plain rfl ?_
                                  exact op_move (.inl rfl) e262 ⟨Below.refl _ _, rfl⟩
                                · intro ρ w' E
                                  have e24 : ρ (.tmp 24) = .slice (some ⟨xX, 0, none⟩) (13 + dl) cX := E.out 24 rfl
                                  refine step_yes rfl (E.pre 31 rfl rfl) ?_
                                  exact op_move (.inl rfl) e24 ⟨Below.refl _ _, rfl⟩
                                · intro ρ w' E
                                  have e264 : ρ (.tmp 264) = .slice (some ⟨xX, 0, none⟩) (13 + dl) cX := E.pre 32 rfl rfl
                                  refine step_yes rfl (E.pre 31 rfl rfl) ?_
                                  refine op_val (v := .pointer (some ⟨xX, 0, none⟩)) (w' := w') ?_ ⟨Below.refl _ _, rfl⟩
                                  have hcon := E.con
                                  clear E v1 v2 v3 v4
                                  go_simp
                                  first | done | (intro h9; omega)
                                · intro ρ w' E
                                  have e265 : ρ (.tmp 265) = .pointer (some ⟨xX, 0, none⟩) := E.pre 33 rfl rfl
                                  refine step_yes rfl (E.pre 31 rfl rfl) ?_
                                  refine op_val (v := .int .u8 (bz.toNat : Int)) (w' := w') ?_ ⟨Below.refl _ _, rfl⟩
                                  have hk := (World.cell?_of_block (w := wF1) (E.below.block _ hlX)).trans v3
                                  have hcon := E.con
                                  clear E v1 v2 v3 v4
                                  go_simp
                                · intro ρ w' E
                                  have e266 : ρ (.tmp 266) = .int .u8 (bz.toNat : Int) := E.pre 34 rfl rfl
                                  refine step_yes rfl (E.pre 31 rfl rfl) ?_
                                  refine op_val (v := .int .i64 kd) (w' := w') ?_ ⟨Below.refl _ _, rfl⟩
                                  have hw := hwz
                                  have hcon := E.con
                                  clear E v1 v2 v3 v4
                                  go_simp
                                · intro ρ w' E
                                  have e12 : ρ (.tmp 12) = .slice (some ⟨gY, 0, none⟩) G cY := E.out 12 rfl
                                  refine step_yes rfl (E.pre 31 rfl rfl) ?_
                                  exact op_move (.inl rfl) e12 ⟨Below.refl _ _, rfl⟩
                                · intro ρ w' E
                                  have e18 : ρ (.tmp 18) = .int .i64 (i : Int) := E.out 18 rfl
                                  refine step_yes rfl (E.pre 31 rfl rfl) ?_
                                  exact op_move (.inl rfl) e18 ⟨Below.refl _ _, rfl⟩
                                · intro ρ w' E
                                  have e268 : ρ (.tmp 268) = .slice (some ⟨gY, 0, none⟩) G cY := E.pre 36 rfl rfl
                                  have e269 : ρ (.tmp 269) = .int .i64 (i : Int) := E.pre 37 rfl rfl
                                  refine step_yes rfl (E.pre 31 rfl rfl) ?_
                                  refine op_val (v := .pointer (some ⟨gY, i, none⟩)) (w' := w') ?_ ⟨Below.refl _ _, rfl⟩
                                  have hcon := E.con
                                  clear E
                                  go_simp
                                · intro ρ w' E
                                  have e270 : ρ (.tmp 270) = .pointer (some ⟨gY, i, none⟩) := E.pre 38 rfl rfl
                                  refine step_yes rfl (E.pre 31 rfl rfl) ?_
                                  refine op_val (v := .slice (some ⟨yb, yo, none⟩) M yc) (w' := w') ?_ ⟨Below.refl _ _, rfl⟩
                                  have hk := (World.cell?_of_block (w := wF1) (E.below.block _ hlY)).trans v1
                                  have hcon := E.con
                                  clear E v1 v2 v3 v4
                                  go_simp
                                · intro ρ w' E
                                  have e23 : ρ (.tmp 23) = .int .i64 (j : Int) := E.out 23 rfl
                                  refine step_yes rfl (E.pre 31 rfl rfl) ?_
                                  exact op_move (.inl rfl) e23 ⟨Below.refl _ _, rfl⟩
                                · intro ρ w' E
                                  have e271 : ρ (.tmp 271) = .slice (some ⟨yb, yo, none⟩) M yc := E.pre 39 rfl rfl
                                  have e272 : ρ (.tmp 272) = .int .i64 (j : Int) := E.pre 40 rfl rfl
                                  refine step_yes rfl (E.pre 31 rfl rfl) ?_
                                  refine op_val (v := .pointer (some ⟨yb, yo + j * 3, none⟩)) (w' := w') ?_ ⟨Below.refl _ _, rfl⟩
                                  have hcon := E.con
                                  clear E
                                  go_simp
                                · intro ρ w' E
                                  have e273 : ρ (.tmp 273) = .pointer (some ⟨yb, yo + j * 3, none⟩) := E.pre 41 rfl rfl
                                  refine step_yes rfl (E.pre 31 rfl rfl) ?_
                                  refine op_val (v := .pointer (some ⟨yb, yo + j * 3, none⟩)) (w' := w') ?_ ⟨Below.refl _ _, rfl⟩
                                  have hcon := E.con
                                  clear E
                                  go_simp
                                · intro ρ w' E
                                  have e274 : ρ (.tmp 274) = .pointer (some ⟨yb, yo + j * 3, none⟩) := E.pre 42 rfl rfl
                                  refine step_yes rfl (E.pre 31 rfl rfl) ?_
                                  refine op_val (v := .int .i64 kd) (w' := w') ?_ ⟨Below.refl _ _, rfl⟩
                                  have hk := (World.cell?_of_block (w := wF1) (E.below.block _ hlR)).trans v2
                                  have hcon := E.con
                                  clear E v1 v2 v3 v4
                                  go_simp
                                · intro ρ w' E
                                  have e267 : ρ (.tmp 267) = .int .i64 kd := E.pre 35 rfl rfl
                                  have e275 : ρ (.tmp 275) = .int .i64 kd := E.pre 43 rfl rfl
                                  refine step_yes rfl (E.pre 31 rfl rfl) ?_
                                  refine op_val (v := .bool false) (w' := w') ?_ ⟨Below.refl _ _, rfl⟩
                                  have hcon := E.con
                                  clear E
                                  go_simp
                                · intro ρ w' E
                                  have e263 : ρ (.tmp 263) = .bool false := E.pre 31 rfl rfl
                                  have e276 : ρ (.tmp 276) = .bool false := E.pre 44 rfl rfl
                                  refine step_plain rfl ?_
                                  exact op_pick (b := false) rfl e263 rfl ⟨Below.refl _ _, e276⟩
                              · intro σF wF GF OF HF
                                have s277 : σF 277 = .bool false := HF 45 rfl rfl
                                clear OF
                                simp only [upd, updL, dstsOf', elemB, List.filterMap_cons, List.filterMap_nil, Nat.reduceAdd, Nat.reduceBEq, Bool.or_false, Bool.false_or, Bool.or_true, Bool.true_or, cond_true, cond_false, Nat.zero_add, s277]
                                have HDG := Lib.hid (HDF.out.ext GF)
                                have HVG := Lib.hid (HVF.out.ext GF)
                                have HEG := Lib.hid (HEF.out.ext GF)
                                have HBG := Lib.hid (bthen HBF.out GF (Nat.le_refl _))
                                clear GF HDF HVF HEF HBF s277 v1 v2 v3 v4 hlX hlY hlR haS
                                go_wp2_with fail
                                go_roundw
                                case rel => exact ⟨j + 1, pR, _, rfl, by omega, by go_num, HEG.out, HVG.out, HDG.out, HGR.out, HBG.out⟩
                                case measure => simp [intOf]; omega
                      · obtain rfl : nR = j := by omega
                        go_wp2_with fail
                        clear v0 v1 hlF hlY
                        go_roundw
                        case rel => exact ⟨i + 1, pt, _, rfl, by omega, by go_num, HE.out, HV.out, HD.out, HGP.out, HB.out⟩
                        case measure => simp [intOf]; omega
                  · have hcd : decide (n ≤ i) = true := by simp; omega
                    have HSN := Lib.hid (vScan_none (at_ := pt) HOQ.out (file := (i : Int) + 1) (by rw [List.length_take, ← HGe.out]; omega))
                    go_wp2_with fail
                    refine (vol_scan ((i : Int) + 1) [] [] false 8 0 _ HV.out HD.out HB.out.size HOQ.out.ok (by omega) HSN.out).mono ?_
                    rintro e w20 ⟨aR, nR, cR, vs, aI, cI, rfl, hn1, hn2, hrec, hrl, hoff, hd20, hm20⟩
                    have HD20 := Lib.hid hd20
                    have HV20 := Lib.hid (HV.out.vf hm20)
                    have HE20 := Lib.hid (HE.out.vf hm20)
                    have HB20 := Lib.hid (HB.out.trans (hm20.below (fun b T h => h.1) HB.out.size))
                    have HG0 : Hid (DGood (volT 400 (lbytes 1 0 4) ((entG es).take n)) 0) := Lib.hid HOQ.out.good
                    clear hn1 hn2 hrec hrl hoff hd20 hm20 HD HV HE HB HGP
                    go_wp2_with fail
                    go_roundw
                    case rel => exact ⟨i + 1, 0, _, rfl, by omega, by go_num, HE20.out, HV20.out, HD20.out, HG0.out, HB20.out⟩
                    case measure => simp [intOf]; omega
                · obtain rfl : G = i := by omega
                  go_wp2_with fail
                  go_roundw
                  case rel => exact ⟨kk + 1, n, pt, _, rfl, by omega, by go_num, .inr ⟨by omega, rfl⟩, HE.out, HV.out, HD.out, HGP.out, HB.out⟩
                  case measure => simp [intOf]; omega
        · obtain rfl : n = q := by rcases Hkq.out with ⟨h, _⟩ | ⟨_, h⟩; omega; exact h.symm
          obtain rfl : kk = 2 := by omega
          clear Hkq
          have HLB := Lib.hid (vLabel_vol (cap := 400) (gs := (entG es).take n) (at_ := pt) (show okL 1 0 4 = true by decide))
          go_wp2_with fail
          refine (vol_label 1 0 4 0 (1 + 1) _ HV.out HD.out HB.out.size HOQ.out.ok HLB.out).mono ?_
          rintro r w7 ⟨rfl, hd7, hm7⟩
          unfold labV
          have hb8 := below_put w7 1 0 4
          have hL8 := LabAt.put w7 1 0 4
          have hz7 := heap_alloc_new w7 (.cells #[.int .i64 0, .int .i64 0, .int .i64 0] 37)
          have HD8 := Lib.hid (hd7.ext hb8)
          have HV8 := Lib.hid ((HV.out.vf hm7).ext hb8)
          have HB8 := Lib.hid (bthen (HB.out.trans (hm7.below (fun b T h => h.1) HB.out.size)) hb8 (Nat.le_refl _))
          clear hd7 hm7 HD HV HB hb8
          go_wp2_with (refine wpList_store_row rfl rfl 37 (.tmp 26) (.tmp 289) rfl w7.heap.size rfl 37 #[.int .i64 0, .int .i64 0, .int .i64 0] #[.int .i64 1, .int .i64 0, .int .i64 4] rfl hz7 rfl (by kernel_rfl) (by simp [Value.oneCell']) ?_
                       clear hz7
                       generalize (w7.alloc (.cells #[.int .i64 0, .int .i64 0, .int .i64 0] 37)).setRow w7.heap.size #[.int .i64 1, .int .i64 0, .int .i64 4] = wY at *
                       generalize w7.heap.size = GZ at *
                       have z0 := cell_of_row wY GZ 0 _ _ _ hL8
                       have z1 := cell_of_row wY GZ 1 _ _ _ hL8
                       have z2 := cell_of_row wY GZ 2 _ _ _ hL8)
          clear z0 z1 z2 hL8
          refine (vol_files (n : Int) wY HV8.out HD8.out HOQ.out.ok (by rw [HOQ.out.files, List.length_take, ← HGe.out, Nat.min_eq_left hnG])).mono ?_
          rintro e w9 ⟨rfl, hb9⟩
          have HB9 := Lib.hid (bthen HB8.out hb9 (Nat.le_refl _))
          clear hb9 HD8 HV8 HB8
          go_wp2_with fail
          refine (wakes16_any w9).mono ?_
          rintro r w10 ⟨rfl, hb10⟩
          have HB10 := bthen HB9.out hb10 (Nat.le_refl _)
          clear hb10
          go_wp2
          go_ret
          exact ⟨rfl, HB10⟩
end Go.Proofs.Ytclkkhpnnbkfmaa
