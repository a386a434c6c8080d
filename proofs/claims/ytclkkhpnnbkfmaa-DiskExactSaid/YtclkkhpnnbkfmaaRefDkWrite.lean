/- The page's disk: Write. -/
import Derived.Test.YtclkkhpnnbkfmaaRefDkWake
import Derived.Test.YtclkkhpnnbkfmaaKeep
namespace Go.Proofs.Ytclkkhpnnbkfmaa
open Go.RowKit
variable {R : Nat}

theorem infoW7 : (Try.prog.info? 169).map (fun i => (i.zero, i.size, i.bytes)) = some (some (.agg #[.int .i64 0, .slice none 0 0]), 2, 32) := by kernel_rfl
theorem no_rdf_u8 {B tb : Nat} (b : Nat) : ¬ RDF B tb b 5 := by rintro ⟨_, h | ⟨_, h⟩⟩ <;> revert h <;> decide
abbrev WB7 (B : Nat) : Nat → TypeId → Prop := fun b T => B ≤ b ∧ T = 169
theorem no_wf7_disk (B r : Nat) : ¬ WB7 B r 165 := fun h => absurd h.2 (by decide)
theorem WB7.no_pow (B : Nat) : ∀ b T, WB7 B b T → T ≠ 138 ∧ T ≠ 4 := by
  rintro b T ⟨_, rfl⟩; decide
set_option maxRecDepth 100000 in
set_option maxHeartbeats 8000000 in
theorem rdk_write (K : Nat → Prop) (B r q tb n : Nat) (d : RS) (p : PS) (i : Int) (a : Option Addr) (c m0 : Nat) (l : List Byte) (w : World) (hd : RDk K B w r q tb d) (hp : RPow R B w q p) (hok : d.ok n) (hn : n ≤ 100000) (hB : max B R ≤ w.heap.size) (hm : d.loose.length ≤ 100000) (htR : tb < R)
    (hs : ∀ w', Mod (RDF B tb) w w' → Src w' a (bvs l)) (hl : m0 = l.length) (hl2 : m0 ≤ 9223372036854775807) {E : Int} {d' : RS} {p' : PS} (hr : d.write p i l = (E, d', p')) :
    Calls Try.prog 69 #[.pointer (some ⟨r, 0, none⟩), .int .i64 i, .slice a m0 c] w fun e w' => e = .returned (.int .i64 E) ∧ RDk (fun b => K b ∨ w.heap.size ≤ b) B w' r q tb d' ∧ RPow R B w' q p' ∧ Mod (RDF B tb) w w' := by
  have HA := Lib.hid (rdk_wake K B r q tb n d p w hd hp hok hn (by omega) hm htR)
  obtain ⟨i1, hj, hy0, hy1, hy2⟩ := info_parts infoW7
  have HR := Lib.hid hr
  have Hok := Lib.hid (hok.wake p)
  have hml : (d.wake p).loose.length ≤ 100000 := by unfold RS.wake; split; exact hm; simp
  have hsl : d.safe.length = n := hok.safe
  have HS := Lib.hid hs
  have HL := Lib.hid hl
  have HtR := Lib.hid htR
  have Hd0 : Hid (d.write p i l = if p.off then (5, d, p) else if 0 ≤ i ∧ i < (n : Int) then (if l.length ≠ 256 then (2, d.wake p, p) else (if p.spend.1 then 0 else 5, { d.wake p with loose := (d.wake p).loose ++ [(i.toNat, l)] }, p.spend.2)) else (1, d.wake p, p)) := Lib.hid (by unfold RS.write; rw [hsl])
  have Hw0 : Hid (p.off = true → d.wake p = d) := Lib.hid fun h => by unfold RS.wake; rw [if_pos (.inl h)]
  clear hd hp hok hr hm htR hs hl hsl
  generalize d.wake p = d1 at *
  go_enter Try.func69, Try.ntmps69
  go_wp2_with fail
  refine HA.out.mono ?_
  rintro e w1 ⟨rfl, hd1, hp1, hm1⟩
  have HD1 := Lib.hid hd1
  have HP1 := Lib.hid hp1
  have Hb1 := Lib.hid hm1
  obtain ⟨sa, sc, ss, tc, la, lc, ls, hc, hss, hls⟩ := hd1
  have Hc := Lib.hid hc
  have Hss := Lib.hid hss
  have Hls := Lib.hid hls
  have Hsn := Lib.hid (show ss.length = n by rw [← Hok.out.safe, ← hss, List.length_map])
  obtain ⟨m, hmm⟩ : ∃ m, m = ls.length := ⟨_, rfl⟩
  have Hpm := Lib.hid hmm.symm
  have hm1 : m ≤ 100000 := by have h : ls.length = d1.loose.length := by rw [← hls, List.length_map]
                              omega
  obtain ⟨c0, c1, c2, c3, c4, hfg, hlg⟩ := hc.cells
  obtain ⟨p0, p1, p6, hlq⟩ := rpow_cells hp1
  have hB1 : B ≤ w1.heap.size := Nat.le_trans (by omega) Hb1.out.size
  have hR1 : max B R ≤ w1.heap.size := Nat.le_trans hB Hb1.out.size
  rw [Hsn.out] at c2
  rw [← hmm] at c4
  clear hc hss hls hp1 HA hmm hml
  cases hoff : p.off with
  | true =>
    have hR := HR.out
    rw [Hd0.out, hoff, if_pos rfl] at hR
    simp only [Prod.mk.injEq] at hR
    obtain ⟨rfl, rfl, rfl⟩ := hR
    rw [hoff] at p0
    have hw := Hw0.out hoff
    have HD2 : Hid (RDk (fun b => K b ∨ w.heap.size ≤ b) B w1 r q tb d) := Lib.hid (by rw [← hw]; exact HD1.out.mono fun _ _ h => .inl h)
    clear hoff HR Hd0 hw
    go_wp2
    go_ret
    exact ⟨rfl, HD2.out, HP1.out, Hb1.out⟩
  | false =>
    have hR := HR.out
    rw [Hd0.out, hoff, if_neg (by decide)] at hR
    have HR := Lib.hid hR
    rw [hoff] at p0
    clear hoff hR Hd0 Hw0
    by_cases hin : 0 ≤ i ∧ i < (n : Int)
    · have hR := HR.out
      rw [if_pos hin] at hR
      have HR := Lib.hid hR
      obtain ⟨k, rfl⟩ := Int.eq_ofNat_of_zero_le hin.1
      have hkn : k < n := by omega
      have hkn2 : ¬ n ≤ k := by omega
      have hk0 : (0 : Int) ≤ (k : Int) := by omega
      clear hin hR
      by_cases h256 : m0 = 256
      · subst h256
        have Hl := Lib.hid HL.out.symm
        have hR := HR.out
        rw [if_neg (by rw [← HL.out]; decide), Int.toNat_natCast] at hR
        cases hsp : p.spend with
        | mk b p2 =>
        rw [hsp] at hR
        simp only [Prod.mk.injEq] at hR
        obtain ⟨hE, rfl, rfl⟩ := hR
        have HE := Lib.hid hE
        have Hsp := Lib.hid hsp
        have HSrc := Lib.hid (HS.out w1 Hb1.out)
        have hob := Hc.out.obj
        have hobw := no_wf7_disk B r
        clear hsp hE HR HS HL
        go_wp2_with fail
        clear p0 p1 p6
        refine wp_region_chainL (by kernel_rfl) [7, 8, 9, 10, 13] (Mod.rel (WB7 B)) [SpT.eq (.pointer (some ⟨r, 0, none⟩)), SpT.eq (.pointer (some ⟨r, 0, none⟩)), SpT.eq (.pointer (some ⟨r, 0, none⟩)), SpT.eq (.pointer (some ⟨r, 4, none⟩)), SpT.eq (.slice la m lc), SpT.eq (.int .i64 (k : Int)), SpT.eq (.slice a 256 c), SpT.top, SpT.top, SpT.top, SpT.top, SpT.eq (.pointer (some ⟨r, 0, none⟩)), SpT.eq (.pointer (some ⟨r, 4, none⟩)), SpT.top] (by kernel_rfl) (by kernel_rfl) (by kernel_rfl) (by kernel_rfl) ?_ ?_
        · refine stepsL_free rfl ?_ (stepsL_free rfl ?_ (stepsL_free rfl ?_ (stepsL_free rfl ?_ (stepsL_free rfl ?_ (stepsL_free rfl ?_ (stepsL_free rfl ?_ (stepsL_chain rfl (stepsL_chain rfl (stepsL_chain rfl (stepsL_chain rfl (stepsL_free rfl ?_ (stepsL_free rfl ?_ (stepsL_chain rfl (stepsL_nil))))))))))))))
          · intro ρ w' E
            have e0 : ρ (.tmp 0) = .pointer (some ⟨r, 0, none⟩) := E.out 0 rfl
            refine step_plain rfl ?_
            exact op_move (.inl rfl) e0 ⟨Below.refl _ _, rfl⟩
          · intro ρ w' E
            have e0 : ρ (.tmp 0) = .pointer (some ⟨r, 0, none⟩) := E.out 0 rfl
            refine step_plain rfl ?_
            refine op_val (v := .pointer (some ⟨r, 0, none⟩)) (w' := w') ?_ ⟨Below.refl _ _, rfl⟩
            have hcon := E.con
            clear E
            go_simp
          · intro ρ w' E
            have e31 : ρ (.tmp 31) = .pointer (some ⟨r, 0, none⟩) := E.pre 1 rfl rfl
            refine step_plain rfl ?_
            refine op_val (v := .pointer (some ⟨r, 0, none⟩)) (w' := w') ?_ ⟨Below.refl _ _, rfl⟩
            have hcon := E.con
            clear E
            go_simp
          · intro ρ w' E
            have e32 : ρ (.tmp 32) = .pointer (some ⟨r, 0, none⟩) := E.pre 2 rfl rfl
            refine step_plain rfl ?_
            refine op_val (v := .pointer (some ⟨r, 4, none⟩)) (w' := w') ?_ ⟨Below.refl _ _, rfl⟩
            have hcon := E.con
            clear E
            go_simp
          · intro ρ w' E
            have e33 : ρ (.tmp 33) = .pointer (some ⟨r, 4, none⟩) := E.pre 3 rfl rfl
            refine step_plain rfl ?_
            refine op_val (v := .slice la m lc) (w' := w') ?_ ⟨Below.refl _ _, rfl⟩
            have hk : w'.cell? ⟨r, 4, none⟩ = some (.slice la m lc) := (World.cell?_of_block (w := w1) ((E.t.keep hob hobw).trans hob.symm)).trans c4
            have hcon := E.con
            clear E c0 c1 c2 c3 c4
            go_simp
          · intro ρ w' E
            have e1 : ρ (.tmp 1) = .int .i64 (k : Int) := E.out 1 rfl
            refine step_plain rfl ?_
            exact op_move (.inl rfl) e1 ⟨Below.refl _ _, rfl⟩
          · intro ρ w' E
            have e2 : ρ (.tmp 2) = .slice a 256 c := E.out 2 rfl
            refine step_plain rfl ?_
            exact op_move (.inl rfl) e2 ⟨Below.refl _ _, rfl⟩
          · intro ρ w' E
            have e30 : ρ (.tmp 30) = .pointer (some ⟨r, 0, none⟩) := E.pre 0 rfl rfl
            refine step_plain rfl ?_
            refine op_val (v := .pointer (some ⟨r, 0, none⟩)) (w' := w') ?_ ⟨Below.refl _ _, rfl⟩
            have hcon := E.con
            clear E
            go_simp
          · intro ρ w' E
            have e41 : ρ (.tmp 41) = .pointer (some ⟨r, 0, none⟩) := E.pre 11 rfl rfl
            refine step_plain rfl ?_
            refine op_val (v := .pointer (some ⟨r, 4, none⟩)) (w' := w') ?_ ⟨Below.refl _ _, rfl⟩
            have hcon := E.con
            clear E
            go_simp
        · intro ρ1 w1c G1 E1
          have e36 : ρ1 (.tmp 36) = .slice a 256 c := E1.pre 6 rfl rfl
          refine step_plain rfl ?_
          refine op_call (f := 28) (args := #[.slice a 256 c]) (w' := w1c) (by have hcon := E1.con; have hfn := E1.fn; clear E1 c0 c1 c2 c3 c4; go_simp) ?_
          refine (twin_at a c 256 l w1c (HSrc.out.ext G1) Hl.out.symm (by decide)).mono ?_
          rintro e wx1 ⟨a3, c3', rfl, ho3, hb3⟩
          refine ⟨_, rfl, (Mod.rel (WB7 B)).of hb3, ?_⟩
          intro ρ2 w2c G2 E2
          have e35 : ρ2 (.tmp 35) = .int .i64 (k : Int) := E2.pre 5 rfl rfl
          have e37 : ρ2 (.tmp 37) = .slice a3 256 c3' := E2.chn 7 37 rfl rfl rfl
          refine step_plain rfl ?_
          refine op_val (v := .agg #[.int .i64 (k : Int), .slice a3 256 c3']) (w' := w2c) (by have hcon := E2.con; clear E2 c0 c1 c2 c3 c4; go_simp) ⟨(Mod.rel (WB7 B)).of (Below.refl _ _), ?_⟩
          intro ρ3 w3c G3 E3
          have e38 : ρ3 (.tmp 38) = .agg #[.int .i64 (k : Int), .slice a3 256 c3'] := E3.chn 8 38 rfl rfl rfl
          refine step_plain rfl ?_
          refine op_val (v := .slice (some ⟨w3c.heap.size, 0, none⟩) 1 1) (w' := w3c.alloc (.cells #[.int .i64 (k : Int), .slice a3 256 c3'] 169)) (by have hcon := E3.con; clear E3 c0 c1 c2 c3 c4; go_simp) ⟨(Mod.rel (WB7 B)).of (ext_alloc _ _), ?_⟩
          intro ρ4 w4c G4 E4
          have e34 : ρ4 (.tmp 34) = .slice la m lc := E4.pre 4 rfl rfl
          have e39 : ρ4 (.tmp 39) = .slice (some ⟨w3c.heap.size, 0, none⟩) 1 1 := E4.chn 9 39 rfl rfl rfl
          refine step_plain rfl ?_
          have hb13 := bthen G1 hb3 (Nat.le_refl _)
          have hb33 := bthen (bthen hb13 G2 (Nat.le_refl _)) G3 (Nat.le_refl _)
          have hb34 := bthen (ext_alloc w3c (.cells #[.int .i64 (k : Int), .slice a3 256 c3'] 169)) G4 (Nat.le_refl _)
          have hb04 := bthen hb33 hb34 (Nat.le_refl _)
          have hnew := (G4.block w3c.heap.size (by rw [World.size_alloc]; omega)).trans (heap_alloc_at w3c (.cells #[.int .i64 (k : Int), .slice a3 256 c3'] 169))
          have hx4 := ho3.ext (bthen (bthen G2 G3 (Nat.le_refl _)) hb34 (Nat.le_refl _))
          refine op_appm (s := .tmp 34) (x := .tmp 39) (t := 163) rfl B 169 i1 (.agg #[.int .i64 0, .slice none 0 0]) 2 32 Try.underlying163 hj hy0 hy1 hy2 rfl (by decide) la m lc (wvs ls) e34 (by have := (Hc.out.ext hb04).loose; rw [Hpm.out] at this; exact this) (some ⟨w3c.heap.size, 0, none⟩) 1 1 (WrV.cells ⟨k, a3, c3', l⟩) e39 rfl (Or.inr ⟨w3c.heap.size, 0, _, _, _, rfl, hnew, by rw [List.drop_zero]; unfold WrV.cells; rw [Hl.out]; rfl⟩) (WrV.one _) (by unfold maxLen; omega) (by omega) (Nat.le_trans hB1 hb04.size) ?_
          intro a5 c5 wx5 hA5
          refine ⟨hA5.mod (WB7 B) fun g _ _ hb => ⟨hb, rfl⟩, ?_⟩
          intro ρ5 w5c G5 E5
          have e42 : ρ5 (.tmp 42) = .pointer (some ⟨r, 4, none⟩) := E5.pre 12 rfl rfl
          have e40 : ρ5 (.tmp 40) = .slice a5 (m + 1) c5 := E5.chn 10 40 rfl rfl rfl
          refine step_plain rfl ?_
          have hk5 : Held w4c (fun b => K b ∨ w.heap.size ≤ b) a3 c3' l := Held.of hx4 Hl.out.symm fun b hb => .inr (Nat.le_trans Hb1.out.size (Nat.le_trans G1.size hb))
          have hq := ((Hc.out.ext hb04).mono (K' := fun b => K b ∨ w.heap.size ≤ b) fun _ _ h => .inl h).append Hpm.out.symm hA5 G5 (x := ⟨k, a3, c3', l⟩) hk5
          have hm5 : Mod (WB7 B) w1 w5c := ((bmod hb04 (WB7 B)).trans (hA5.mod (WB7 B) fun g _ _ hb => ⟨hb, rfl⟩)).trans (bmod G5 _)
          have hgo := hm5.keep hob hobw
          have hco : w5c.cell? ⟨r, 4, none⟩ = some _ := cell_of_row w5c r 4 _ _ _ hgo
          refine op_store rfl e42 e40 rfl hco (frozen_of_row w5c r 4 _ _ hgo) (by kernel_rfl) ⟨trivial, ?_⟩
          intro σ wF GF hκ
          simp only [upd, updL, dstsOf', elemB, List.filterMap_cons, List.filterMap_nil, Nat.reduceAdd, Nat.reduceBEq, Bool.or_false, Bool.false_or, Bool.or_true, Bool.true_or, cond_true, cond_false, Nat.zero_add]
          have hof : Mod (OF7 r) w5c (w5c.setCell ⟨r, 4, none⟩ (.slice a5 (m + 1) c5)) := (Mod.refl _ _).setCell hgo ⟨rfl, rfl⟩ _ _
          have hmF : Mod (RDF B tb) w wF := ((Hb1.out.trans (hm5.mono fun b T _ hf => ⟨hf.1, .inl (by rw [hf.2]; decide)⟩)).trans (OF7_rdf hof Hc.out.low)).trans (bmod GF _)
          have hpF : RPow R B wF q p := (((HP1.out.mod hm5 (WB7.no_pow B)).mod hof (OF7_no_pow r)).ext GF)
          have hBF : max B R ≤ wF.heap.size := Nat.le_trans hB hmF.size
          have HCF := Lib.hid (hq.ext GF)
          have HPF := Lib.hid hpF
          have HMF := Lib.hid hmF
          clear hq hof hmF hpF hm5 hgo hco hob hobw hx4 hnew hk5 hA5 ho3 hb3 hb13 hb33 hb34 hb04 G1 G2 G3 G4 G5 GF E1 E2 E3 E4 E5 hκ e34 e36 e35 e37 e38 e39 e40 e42 c0 c1 c2 c3 c4 hfg hlg hlq
          obtain ⟨d0, _, _, _, _, hfg, hlg⟩ := HCF.out.cells
          go_wp2_with fail
          refine (rpow_spend B q p wF hBF HPF.out Hsp.out).mono ?_
          rintro e w7 ⟨rfl, hp7, hm7⟩
          have HC7 := Lib.hid (HCF.out.rpf hm7)
          have HP7 := Lib.hid hp7
          have HM7 := Lib.hid (HMF.out.trans (RPF.rdf hm7))
          have hfin : Hid (RDk (fun b => K b ∨ w.heap.size ≤ b) B w7 r q tb { d1 with loose := d1.loose ++ [(k, l)] }) := Lib.hid ⟨sa, sc, ss, tc, a5, c5, _, HC7.out, Hss.out, by rw [List.map_append, Hls.out]; rfl⟩
          clear hp7 hm7 d0 hfg hlg
          cases b with
          | false =>
            have hE := HE.out
            rw [if_neg (by decide)] at hE
            subst hE
            go_wp2
            go_ret
            exact ⟨rfl, hfin.out, HP7.out, HM7.out⟩
          | true =>
            have hE := HE.out
            rw [if_pos rfl] at hE
            subst hE
            go_wp2
            go_ret
            exact ⟨rfl, hfin.out, HP7.out, HM7.out⟩
      · have hR := HR.out
        rw [if_pos (by rw [← HL.out]; exact h256)] at hR
        simp only [Prod.mk.injEq] at hR
        obtain ⟨rfl, rfl, rfl⟩ := hR
        have hne : ((m0 : Int) != 256) = true := by simp; omega
        have hne2 : ((m0 : Int) == 256) = false := by simp; omega
        have HD2 := Lib.hid (HD1.out.mono (K' := fun b => K b ∨ w.heap.size ≤ b) fun _ _ h => .inl h)
        clear h256 HR HL
        go_wp2
        go_ret
        exact ⟨rfl, HD2.out, HP1.out, Hb1.out⟩
    · have hR := HR.out
      rw [if_neg hin] at hR
      simp only [Prod.mk.injEq] at hR
      obtain ⟨rfl, rfl, rfl⟩ := hR
      have HD2 := Lib.hid (HD1.out.mono (K' := fun b => K b ∨ w.heap.size ≤ b) fun _ _ h => .inl h)
      clear HR
      by_cases hi0 : i < 0
      · have hz0 : (i < 0) := hi0
        clear hin
        go_wp2
        go_ret
        exact ⟨rfl, HD2.out, HP1.out, Hb1.out⟩
      · have hin2 : (n : Int) ≤ i := by omega
        clear hin
        go_wp2
        go_ret
        exact ⟨rfl, HD2.out, HP1.out, Hb1.out⟩
end Go.Proofs.Ytclkkhpnnbkfmaa
