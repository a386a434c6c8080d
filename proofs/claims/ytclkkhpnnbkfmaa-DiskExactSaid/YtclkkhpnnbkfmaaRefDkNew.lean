/- The page's disk: NewDisk. -/
import Derived.Test.YtclkkhpnnbkfmaaRefDkSync
import Derived.Test.YtclkkhpnnbkfmaaRegionChain
namespace Go.Proofs.Ytclkkhpnnbkfmaa
open Go.RowKit
variable {R : Nat}

theorem infoU8s : (Try.prog.info? 50).map (fun i => (i.zero, i.size, i.bytes)) = some (some (.slice none 0 0), 1, 24) := by kernel_rfl
set_option maxRecDepth 100000 in
set_option maxHeartbeats 8000000 in
theorem rdk_new (q : Nat) (p : PS) (n B0 : Nat) (w : World) (hp : RPow R B0 w q p) (h1 : 1 ≤ n) (hn : n ≤ 600) :
    Calls Try.prog 59 #[.pointer (some ⟨q, 0, none⟩), .int .i64 (n : Int)] w fun e w' => ∃ r tb, e = .returned (.pointer (some ⟨r, 0, none⟩)) ∧ w.heap.size ≤ tb ∧ tb < w'.heap.size ∧ RDk (fun b => w.heap.size ≤ b) w.heap.size w' r q tb (RS.new p.life n) ∧ Below w.heap.size w w' := by
  obtain ⟨i0, hi, hz0, hz1, hz2⟩ := info_parts infoBoolR
  obtain ⟨i1, hj, hy0, hy1, hy2⟩ := info_parts infoU8s
  obtain ⟨i8, hi8, hz80, hz81, hz82⟩ := info_parts info8
  obtain ⟨p0, p1, p6, hlq⟩ := rpow_cells hp
  clear hp
  go_enter Try.func59, Try.ntmps59
  go_wp2_with fail
  refine wp_region_chain (by kernel_rfl) [6, 7, 8, 9] (Keeps.rel (fun _ => True)) [SpT.eq (.pointer (some ⟨q, 0, none⟩)), SpT.eq (.pointer (some ⟨q, 0, none⟩)), SpT.eq (.pointer (some ⟨q, 0, none⟩)), SpT.eq (.pointer (some ⟨q, 1, none⟩)), SpT.eq (.int .i64 p.life), SpT.eq (.int .i64 (n : Int)), SpT.top, SpT.top, SpT.top, SpT.top] (by kernel_rfl) (by kernel_rfl) (by kernel_rfl) ?_ ?_
  · refine stepsF_free rfl ?_ (stepsF_free rfl ?_ (stepsF_free rfl ?_ (stepsF_free rfl ?_ (stepsF_free rfl ?_ (stepsF_free rfl ?_ (stepsF_chain rfl (stepsF_chain rfl (stepsF_chain rfl (stepsF_chain rfl (stepsF_nil))))))))))
    · intro ρ w' E
      have e0 : ρ (.tmp 0) = .pointer (some ⟨q, 0, none⟩) := E.out 0 rfl
      refine step_plain rfl ?_
      exact op_move (.inl rfl) e0 ⟨Below.refl _ _, rfl⟩
    · intro ρ w' E
      have e0 : ρ (.tmp 0) = .pointer (some ⟨q, 0, none⟩) := E.out 0 rfl
      refine step_plain rfl ?_
      exact op_move (.inl rfl) e0 ⟨Below.refl _ _, rfl⟩
    · intro ρ w' E
      have e8 : ρ (.tmp 8) = .pointer (some ⟨q, 0, none⟩) := E.pre 1 rfl
      refine step_plain rfl ?_
      refine op_val (v := .pointer (some ⟨q, 0, none⟩)) (w' := w') ?_ ⟨Below.refl _ _, rfl⟩
      have hcon := E.con
      clear E
      go_simp
    · intro ρ w' E
      have e9 : ρ (.tmp 9) = .pointer (some ⟨q, 0, none⟩) := E.pre 2 rfl
      refine step_plain rfl ?_
      refine op_val (v := .pointer (some ⟨q, 1, none⟩)) (w' := w') ?_ ⟨Below.refl _ _, rfl⟩
      have hcon := E.con
      clear E
      go_simp
    · intro ρ w' E
      have e10 : ρ (.tmp 10) = .pointer (some ⟨q, 1, none⟩) := E.pre 3 rfl
      refine step_plain rfl ?_
      refine op_val (v := .int .i64 p.life) (w' := w') ?_ ⟨Below.refl _ _, rfl⟩
      have hk := (World.cell?_of_block (w := w) (E.t.block q trivial hlq)).trans p1
      have hcon := E.con
      clear E p0 p1 p6
      go_simp
    · intro ρ w' E
      have e1 : ρ (.tmp 1) = .int .i64 (n : Int) := E.out 1 rfl
      refine step_plain rfl ?_
      exact op_move (.inl rfl) e1 ⟨Below.refl _ _, rfl⟩
  · intro ρ1 w1c G1 E1
    have e12 : ρ1 (.tmp 12) = .int .i64 (n : Int) := E1.pre 5 rfl rfl
    refine step_plain rfl ?_
    refine op_makeF rfl 4 i0 (.bool false) (fun b : Bool => [Value.bool b]) 1 (fun _ => rfl) (by decide) false rfl Try.underlying110 hi hz0 hz1 n e12 e12 (by rw [hz2]; omega) (by unfold maxLen; omega) ?_
    intro wm hom hbm
    refine ⟨(Keeps.rel (fun _ => True)).of hbm, ?_⟩
    intro ρ2 w2c G2 E2
    have e7 : ρ2 (.tmp 7) = .pointer (some ⟨q, 0, none⟩) := E2.pre 0 rfl rfl
    have e11 : ρ2 (.tmp 11) = .int .i64 p.life := E2.pre 4 rfl rfl
    have e13 : ρ2 (.tmp 13) = .slice (some ⟨w1c.heap.size, 0, none⟩) n n := E2.chn 6 13 rfl rfl rfl
    refine step_plain rfl ?_
    refine op_val (v := .agg #[.pointer (some ⟨q, 0, none⟩), .int .i64 p.life, .slice none 0 0, .slice (some ⟨w1c.heap.size, 0, none⟩) n n, .slice none 0 0]) (w' := w2c) (by have hcon := E2.con; clear E2 p0 p1 p6; go_simp) ⟨(Keeps.rel (fun _ => True)).of (Below.refl _ _), ?_⟩
    intro ρ3 w3c G3 E3
    have e14 : ρ3 (.tmp 14) = .agg #[.pointer (some ⟨q, 0, none⟩), .int .i64 p.life, .slice none 0 0, .slice (some ⟨w1c.heap.size, 0, none⟩) n n, .slice none 0 0] := E3.chn 7 14 rfl rfl rfl
    refine step_plain rfl ?_
    refine op_val (v := .pointer (some ⟨w3c.heap.size, 0, none⟩)) (w' := w3c.alloc (.cells #[.pointer (some ⟨q, 0, none⟩), .int .i64 p.life, .slice none 0 0, .slice (some ⟨w1c.heap.size, 0, none⟩) n n, .slice none 0 0] 165)) (by have hcon := E3.con; clear E3 p0 p1 p6; go_simp) ⟨(Keeps.rel (fun _ => True)).of (ext_alloc _ _), ?_⟩
    intro ρ4 w4c G4 E4
    have e15 : ρ4 (.tmp 15) = .pointer (some ⟨w3c.heap.size, 0, none⟩) := E4.chn 8 15 rfl rfl rfl
    refine step_plain rfl ?_
    refine op_move (.inr rfl) e15 ⟨(Keeps.rel (fun _ => True)).of (Below.refl _ _), ?_⟩
    intro σ wF GF TF hκ
    have h5 : σ 5 = .pointer (some ⟨w3c.heap.size, 0, none⟩) := hκ 9 5 rfl rfl
    clear hκ
    simp only [upd, updL, dstsOf', elemB, List.filterMap_cons, List.filterMap_nil, Nat.reduceAdd, Nat.reduceBEq, Bool.or_false, Bool.false_or, Bool.or_true, Bool.true_or, cond_true, cond_false, Nat.zero_add, h5]
    have hb01 := G1
    have hb13 := bthen (bthen hbm G2 (Nat.le_refl _)) G3 (Nat.le_refl _)
    have hb03 := bthen hb01 hb13 (Nat.le_refl _)
    have hb3F := bthen (bthen (ext_alloc w3c (.cells #[.pointer (some ⟨q, 0, none⟩), .int .i64 p.life, .slice none 0 0, .slice (some ⟨w1c.heap.size, 0, none⟩) n n, .slice none 0 0] 165)) G4 (Nat.le_refl _)) GF (Nat.le_refl _)
    have hobj := ((bthen G4 GF (Nat.le_refl _)).block w3c.heap.size (by rw [World.size_alloc]; omega)).trans (heap_alloc_at w3c (.cells #[.pointer (some ⟨q, 0, none⟩), .int .i64 p.life, .slice none 0 0, .slice (some ⟨w1c.heap.size, 0, none⟩) n n, .slice none 0 0] 165))
    have hto := (hom.ext (bthen (bthen G2 G3 (Nat.le_refl _)) hb3F (Nat.le_refl _)))
    have htb : w.heap.size ≤ w1c.heap.size := hb01.size
    have htr : w.heap.size ≤ w3c.heap.size := hb03.size
    have hbF := bthen hb03 hb3F (Nat.le_refl _)
    have htl : w1c.heap.size < wF.heap.size := by have := (hom.blk (by omega)).2.1; have := (bthen (bthen G2 G3 (Nat.le_refl _)) hb3F (Nat.le_refl _)).size; omega
    generalize w1c.heap.size = tb at *
    generalize w3c.heap.size = r at *
    have hC : RDkC (fun b => w.heap.size ≤ b) w.heap.size wF r q tb p.life none 0 [] n (List.replicate n false) none 0 [] :=
      ⟨htr, by simp only [List.length_replicate, List.length_nil]; exact hobj, Own.nil _ _ _ _ _, by
        rw [List.length_replicate]
        have := hto.mono htb
        simpa [bovs, flt] using this, Own.nil _ _ _ _ _, by simp, by simp, fun _ => rfl⟩
    have HC := Lib.hid hC
    have HB := Lib.hid hbF
    have HtL := Lib.hid htl
    clear hC hbF hto hobj hb3F hb03 hb13 hb01 hbm hom G1 G2 G3 G4 GF TF E1 E2 E3 E4 htr h5 e12 e13 e14 e15 p0 p1 p6 hlq htl
    obtain ⟨B, hBe⟩ : ∃ B, B = w.heap.size := ⟨_, rfl⟩
    rw [← hBe] at HC
    have HBe := Lib.hid hBe
    clear hBe
    go_wp2_with fail
    go_loopw [6] (fun i wx => ∃ (k : Nat) (sk : List Bsl) (sa : Option Addr) (sc : Nat) (wr : World), wr = wx ∧ k ≤ n ∧ i = .int .i64 (k : Int) ∧ sk.length = k ∧ RDkC (fun b => B ≤ b) B wr r q tb p.life sa sc sk n (List.replicate n false) none 0 [] ∧ sk.map Bsl.l = List.replicate k zeros256 ∧ tb < wr.heap.size ∧ Below w.heap.size w wr) (fun i _ => n - (intOf i).toNat)
    case atStart => exact ⟨0, [], none, 0, _, rfl, by omega, rfl, rfl, HC.out, rfl, HtL.out, HB.out⟩
    case round =>
      obtain ⟨k, sk, sa, sc, wr, hwr, hk, rfl, hsk, hck, hap, htl, hbr⟩ := hrel
      subst hwr
      clear HC HB HtL
      have Hck := Lib.hid hck
      have Hap := Lib.hid hap
      have Hsk := Lib.hid hsk
      have Htl := Lib.hid htl
      have Hbr := Lib.hid hbr
      obtain ⟨c0, c1, c2, c3, c4, hfg, hlg⟩ := hck.cells
      rw [hsk] at c2
      have hBk : B ≤ wr.heap.size := by rw [HBe.out]; exact hbr.size
      clear hck hap hsk htl hbr
      by_cases hlt : k < n
      · have hob := Hck.out.obj
        have hob7 := no_rf7_disk B tb r
        go_wp2_with fail
        refine wp_region_chainL (by kernel_rfl) [5, 6, 7, 10] (Mod.rel (RF7 B tb)) [SpT.eq (.pointer (some ⟨r, 0, none⟩)), SpT.eq (.pointer (some ⟨r, 0, none⟩)), SpT.eq (.pointer (some ⟨r, 0, none⟩)), SpT.eq (.pointer (some ⟨r, 2, none⟩)), SpT.eq (.slice sa k sc), SpT.top, SpT.top, SpT.top, SpT.eq (.pointer (some ⟨r, 0, none⟩)), SpT.eq (.pointer (some ⟨r, 2, none⟩)), SpT.top] (by kernel_rfl) (by kernel_rfl) (by kernel_rfl) (by kernel_rfl) ?_ ?_
        · refine stepsL_free rfl ?_ (stepsL_free rfl ?_ (stepsL_free rfl ?_ (stepsL_free rfl ?_ (stepsL_free rfl ?_ (stepsL_chain rfl (stepsL_chain rfl (stepsL_chain rfl (stepsL_free rfl ?_ (stepsL_free rfl ?_ (stepsL_chain rfl (stepsL_nil)))))))))))
          · intro ρ w' E
            have e5 : ρ (.tmp 5) = .pointer (some ⟨r, 0, none⟩) := E.out 5 rfl
            refine step_plain rfl ?_
            exact op_move (.inl rfl) e5 ⟨Below.refl _ _, rfl⟩
          · intro ρ w' E
            have e5 : ρ (.tmp 5) = .pointer (some ⟨r, 0, none⟩) := E.out 5 rfl
            refine step_plain rfl ?_
            exact op_move (.inl rfl) e5 ⟨Below.refl _ _, rfl⟩
          · intro ρ w' E
            have e22 : ρ (.tmp 22) = .pointer (some ⟨r, 0, none⟩) := E.pre 1 rfl rfl
            refine step_plain rfl ?_
            refine op_val (v := .pointer (some ⟨r, 0, none⟩)) (w' := w') ?_ ⟨Below.refl _ _, rfl⟩
            have hcon := E.con
            clear E
            go_simp
          · intro ρ w' E
            have e23 : ρ (.tmp 23) = .pointer (some ⟨r, 0, none⟩) := E.pre 2 rfl rfl
            refine step_plain rfl ?_
            refine op_val (v := .pointer (some ⟨r, 2, none⟩)) (w' := w') ?_ ⟨Below.refl _ _, rfl⟩
            have hcon := E.con
            clear E
            go_simp
          · intro ρ w' E
            have e24 : ρ (.tmp 24) = .pointer (some ⟨r, 2, none⟩) := E.pre 3 rfl rfl
            refine step_plain rfl ?_
            refine op_val (v := .slice sa k sc) (w' := w') ?_ ⟨Below.refl _ _, rfl⟩
            have hk : w'.cell? ⟨r, 2, none⟩ = some (.slice sa k sc) := (World.cell?_of_block (w := wr) ((E.t.keep hob hob7).trans hob.symm)).trans c2
            have hcon := E.con
            clear E c0 c1 c2 c3 c4
            go_simp
          · intro ρ w' E
            have e21 : ρ (.tmp 21) = .pointer (some ⟨r, 0, none⟩) := E.pre 0 rfl rfl
            refine step_plain rfl ?_
            refine op_val (v := .pointer (some ⟨r, 0, none⟩)) (w' := w') ?_ ⟨Below.refl _ _, rfl⟩
            have hcon := E.con
            clear E
            go_simp
          · intro ρ w' E
            have e29 : ρ (.tmp 29) = .pointer (some ⟨r, 0, none⟩) := E.pre 8 rfl rfl
            refine step_plain rfl ?_
            refine op_val (v := .pointer (some ⟨r, 2, none⟩)) (w' := w') ?_ ⟨Below.refl _ _, rfl⟩
            have hcon := E.con
            clear E
            go_simp
        · intro ρ1 w1c G1 E1
          refine step_plain rfl ?_
          refine op_makeF rfl 5 i8 (.int .u8 0) u8c 1 (fun _ => rfl) (by decide) 0#8 rfl Try.underlying50 hi8 hz80 hz81 256 (E1.con _) (E1.con _) (by rw [hz82]; decide) (by unfold maxLen; decide) ?_
          intro wm hom hbm
          rw [flt_u8] at hom
          refine ⟨(Mod.rel (RF7 B tb)).of hbm, ?_⟩
          intro ρ2 w2c G2 E2
          have e26 : ρ2 (.tmp 26) = .slice (some ⟨w1c.heap.size, 0, none⟩) 256 256 := E2.chn 5 26 rfl rfl rfl
          refine step_plain rfl ?_
          refine op_val (v := .slice (some ⟨w2c.heap.size, 0, none⟩) 1 1) (w' := w2c.alloc (.cells #[.slice (some ⟨w1c.heap.size, 0, none⟩) 256 256] 50)) (by have hcon := E2.con; clear E2 c0 c1 c2 c3 c4; go_simp) ⟨(Mod.rel (RF7 B tb)).of (ext_alloc _ _), ?_⟩
          intro ρ3 w3c G3 E3
          have e25 : ρ3 (.tmp 25) = .slice sa k sc := E3.pre 4 rfl rfl
          have e27 : ρ3 (.tmp 27) = .slice (some ⟨w2c.heap.size, 0, none⟩) 1 1 := E3.chn 6 27 rfl rfl rfl
          refine step_plain rfl ?_
          have hb02 := bthen (bthen G1 hbm (Nat.le_refl _)) G2 (Nat.le_refl _)
          have hb23 := bthen (ext_alloc w2c (.cells #[.slice (some ⟨w1c.heap.size, 0, none⟩) 256 256] 50)) G3 (Nat.le_refl _)
          have hb03 := bthen hb02 hb23 (Nat.le_refl _)
          have hnew := (G3.block w2c.heap.size (by rw [World.size_alloc]; omega)).trans (heap_alloc_at w2c (.cells #[.slice (some ⟨w1c.heap.size, 0, none⟩) 256 256] 50))
          have ho3 := hom.ext (bthen G2 hb23 (Nat.le_refl _))
          refine op_appm (s := .tmp 25) (x := .tmp 27) (t := 125) rfl B 50 i1 (.slice none 0 0) 1 24 Try.underlying125 hj hy0 hy1 hy2 rfl (by decide) sa k sc (sk.map Bsl.val) e25 (by have := (Hck.out.ext hb03).safe; rw [Hsk.out] at this; exact this) (some ⟨w2c.heap.size, 0, none⟩) 1 1 [Bsl.val ⟨some ⟨w1c.heap.size, 0, none⟩, 256, zb 256⟩] e27 rfl (Or.inr ⟨w2c.heap.size, 0, _, _, _, rfl, hnew, rfl⟩) (by intro u hu; simp only [List.mem_singleton] at hu; subst hu; rfl) (by unfold maxLen; omega) (by omega) (Nat.le_trans hBk hb03.size) ?_
          intro a5 c5 wx5 hA5
          refine ⟨hA5.mod (RF7 B tb) fun g _ _ hb => ⟨hb, .inl rfl⟩, ?_⟩
          intro ρ4 w4c G4 E4
          have e30 : ρ4 (.tmp 30) = .pointer (some ⟨r, 2, none⟩) := E4.pre 9 rfl rfl
          have e28 : ρ4 (.tmp 28) = .slice a5 (k + 1) c5 := E4.chn 7 28 rfl rfl rfl
          refine step_plain rfl ?_
          have hm5 : Mod (RF7 B tb) wr w4c := ((bmod hb03 _).trans (hA5.mod (RF7 B tb) fun g _ _ hb => ⟨hb, .inl rfl⟩)).trans (bmod G4 _)
          have hgo := hm5.keep hob hob7
          have hco : w4c.cell? ⟨r, 2, none⟩ = some _ := cell_of_row w4c r 2 _ _ _ hgo
          refine op_store rfl e30 e28 rfl hco (frozen_of_row w4c r 2 _ _ hgo) (by kernel_rfl) ⟨trivial, ?_⟩
          intro σ wF GF hκ
          simp only [upd, updL, dstsOf', elemB, List.filterMap_cons, List.filterMap_nil, Nat.reduceAdd, Nat.reduceBEq, Bool.or_false, Bool.false_or, Bool.or_true, Bool.true_or, cond_true, cond_false, Nat.zero_add]
          have hq := (Hck.out.ext hb03).appendSafe (y := ⟨some ⟨w1c.heap.size, 0, none⟩, 256, zb 256⟩) Hsk.out.symm hA5 G4 (Held.of ho3 rfl fun b hb => Nat.le_trans hBk (Nat.le_trans G1.size hb))
          have hof : Mod (OF7 r) w4c (w4c.setCell ⟨r, 2, none⟩ (.slice a5 (k + 1) c5)) := (Mod.refl _ _).setCell hgo ⟨rfl, rfl⟩ _ _
          have HCF := Lib.hid (hq.ext GF)
          have hmF := (hm5.below (B := B) (fun b T h => h.1) hBk).trans ((hof.below (B := B) (fun b T h => by rw [h.1]; exact Hck.out.low) (Nat.le_trans hBk hm5.size)).trans (GF.mono (Nat.le_trans (Nat.le_trans hBk hm5.size) hof.size)))
          have HBF : Hid (Below w.heap.size w wF) := Lib.hid (Hbr.out.trans (by rw [← HBe.out]; exact hmF))
          have HLF : Hid (tb < wF.heap.size) := Lib.hid (Nat.lt_of_lt_of_le Htl.out (by have := hm5.size; have := hof.size; have := GF.size; omega))
          clear hq hof hmF hm5 hgo hco hob hob7 hA5 hnew ho3 hom hbm hb02 hb23 hb03 G1 G2 G3 G4 GF E1 E2 E3 E4 hκ e25 e26 e27 e28 e30 c0 c1 c2 c3 c4 hfg hlg
          go_wp2_with fail
          go_roundw
          case rel => exact ⟨k + 1, _, a5, c5, _, rfl, by omega, by go_num, by rw [List.length_append, Hsk.out]; rfl, HCF.out, by rw [List.map_append, Hap.out, List.replicate_succ']; rfl, HLF.out, HBF.out⟩
          case measure => simp [intOf]; omega
      · have hkn : n = k := by omega
        subst hkn
        have HCk : Hid (RDkC (fun b => w.heap.size ≤ b) w.heap.size wr r q tb p.life sa sc sk n (List.replicate n false) none 0 []) := Lib.hid (by rw [← HBe.out]; exact Hck.out)
        go_wp2
        go_ret
        exact ⟨r, tb, rfl, htb, Htl.out, ⟨sa, sc, sk, n, none, 0, [], HCk.out, Hap.out, rfl⟩, Hbr.out⟩
end Go.Proofs.Ytclkkhpnnbkfmaa
