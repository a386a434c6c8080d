/- disk.Write. -/
import Derived.Test.YtclkkhpnnbkfmaaDiskR
namespace Go.Proofs.Ytclkkhpnnbkfmaa
open Go.RowKit
variable {R : Nat}

set_option maxRecDepth 100000 in
set_option maxHeartbeats 4000000 in
theorem disk_write (K : Nat → Prop) (B g pg n : Nat) (d : DS) (p : PS) (i : Int) (a : Option Addr) (c m0 : Nat) (l : List Byte) (w : World) (hd : DiskAt K B w g pg d) (hp : Pow R B w pg p) (hok : d.ok n) (hn : n ≤ 100000) (hnpos : 0 < n) (hB : max B R ≤ w.heap.size) (hm : d.pend.length ≤ 100000)
    (hs : ∀ w', Mod (DF B) w w' → Src w' a (bvs l)) (hl : m0 = l.length) (hl2 : m0 ≤ 140737488355328) :
    Calls Try.prog 68 #[.pointer (some ⟨g, 0, none⟩), .int .i64 i, .slice a m0 c] w fun e w' => e = .returned (.int .i64 (d.write p i l).1) ∧ DiskAt (fun b => K b ∨ w.heap.size ≤ b) B w' g pg (d.write p i l).2.1 ∧ Pow R B w' pg (d.write p i l).2.2 ∧ Mod (DF B) w w' := by
  have HA := Lib.hid (disk_awake K B g pg n d p w hd hp hok hn hnpos (by omega) hm)
  obtain ⟨i0, hi, hz0, hz1, hz2⟩ := info_parts info8
  obtain ⟨i1, hj, hy0, hy1, hy2⟩ := info_parts infoWrite
  obtain ⟨r, hr⟩ : ∃ r, r = d.write p i l := ⟨_, rfl⟩
  rw [← hr]
  have HR := Lib.hid hr
  have HS := Lib.hid hs
  have HL := Lib.hid hl
  clear hr hs hl
  cases hoff : p.off with
  | true =>
    have hr : r = (5, d, p) := by rw [HR.out]; unfold DS.write; rw [hoff]; rfl
    have hw : d.wake p = d := by unfold DS.wake; rw [if_pos (.inl hoff)]
    rw [hr]
    rw [hoff, hw] at HA
    clear hd hp hok hm hoff hr hw HR
    go_enter Try.func68, Try.ntmps68
    go_wp2_with fail
    refine HA.out.mono ?_
    rintro e w1 ⟨rfl, hd1, hp1, hb1⟩
    have Hd1 := Lib.hid hd1
    clear hd1
    go_wp2
    go_ret
    exact ⟨rfl, Hd1.out.mono fun _ _ h => .inl h, hp1, hb1⟩
  | false =>
    rw [hoff] at HA
    have hw := hok.wake p
    have Hwk := Lib.hid (show (d.wake p).pend.length ≤ 100000 by unfold DS.wake; split; exact hm; simp)
    have HR2 := Lib.hid (show r = (if (d.wake p).inB i = false then (1, d.wake p, p) else if l.length ≠ 256 then (2, d.wake p, p) else if p.spend.1 then (0, { d.wake p with pend := (d.wake p).pend ++ [(i.toNat, l)], now := (d.wake p).now.set i.toNat ⟨l, false⟩ }, p.spend.2)
        else (5, { d.wake p with pend := (d.wake p).pend ++ [(i.toNat, l)] }, p.spend.2)) by rw [HR.out]; unfold DS.write; rw [hoff]; rfl)
    clear hd hp hok hm hoff HR
    generalize hdw : d.wake p = d1 at *
    have Hok := Lib.hid hw
    clear hw hdw
    go_enter Try.func68, Try.ntmps68
    go_wp2_with fail
    refine HA.out.mono ?_
    rintro e w1 ⟨rfl, hd1, hp1, hb1⟩
    have Hd1 := Lib.hid hd1
    have Hp1 := Lib.hid hp1
    have Hb1 := Lib.hid hb1
    have hB1 : B ≤ w1.heap.size := Nat.le_trans (by omega) hb1.size
    obtain ⟨sa, sc, ss, na, nc, ns, pa, pc, ps, hc, hss, hns, hps⟩ := hd1
    have Hss := Lib.hid hss
    have Hns := Lib.hid hns
    have Hps := Lib.hid hps
    have Hnn := Lib.hid (show ns.length = n by rw [← Hok.out.now, ← hns, List.length_map])
    have Hpp := Lib.hid (show ps.length = d1.pend.length by rw [← hps, List.length_map])
    have Hc := Lib.hid hc
    obtain ⟨c0, c1, c2, c3, c4, hfg, hlg⟩ := hc.cells
    rw [Hnn.out] at c3
    clear hc hss hns hps hp1 hb1 HA
    by_cases hin : 0 ≤ i ∧ i < (n : Int)
    · obtain ⟨k, rfl⟩ := Int.eq_ofNat_of_zero_le hin.1
      have hkn : k < n := by omega
      have hkn2 : ¬ n ≤ k := by omega
      have hk0 : (0 : Int) ≤ (k : Int) := by omega
      have hkl : k < ns.length := by rw [Hnn.out]; exact hkn
      have hinB : d1.inB (k : Int) = true := by unfold DS.inB; rw [Hok.out.now]; simpa using hkn
      have HR3 := HR2.out
      rw [hinB, if_neg (by decide), Int.toNat_natCast] at HR3
      have HR := Lib.hid HR3
      clear hin hinB HR2 HR3
      by_cases h256 : m0 = 256
      · subst h256
        have hl := HL.out.symm
        have Hl := Lib.hid hl
        have HR3 := HR.out
        rw [if_neg (by rw [hl]; decide)] at HR3
        have HR2 := Lib.hid HR3
        clear hl HR3 HR
        cases hsp : p.spend with
        | mk b p2 =>
        have Hsp := Lib.hid hsp
        rw [hsp] at HR2
        clear hsp
        go_wp2_with fail
        refine (clone_at a c 256 l w1 (HS.out w1 Hb1.out) HL.out hl2).mono ?_
        rintro e w2 ⟨a3, c3', rfl, ho2, hb2⟩
        have hput := setRow_heap (w2.alloc (.cells #[.int .i64 0, .slice none 0 0] 172)) w2.heap.size _ #[.int .i64 (k : Int), .slice a3 256 c3'] _ _ (heap_alloc_new w2 _)
        have hbp : Below w2.heap.size w2 ((w2.alloc (.cells #[.int .i64 0, .slice none 0 0] 172)).setRow w2.heap.size #[.int .i64 (k : Int), .slice a3 256 c3']) := bsetRow (ext_alloc w2 _) (Nat.le_refl _) _
        have hb13 := bthen hb2 hbp (Nat.le_refl _)
        go_wp2_with (refine wpList_store_row rfl rfl 172 (.tmp 7) (.tmp 31) rfl w2.heap.size rfl 172 #[.int .i64 0, .slice none 0 0] #[.int .i64 (k : Int), .slice a3 256 c3'] rfl (heap_alloc_new w2 _) rfl (by kernel_rfl) (by simp [Value.oneCell']) ?_)
        generalize hws : World.setRow _ _ _ = w3 at *
        obtain ⟨m, hmm⟩ : ∃ m, m = ps.length := ⟨_, rfl⟩
        have Hpm := Lib.hid hmm.symm
        have hm1 : m ≤ 100000 := by have := Hpp.out; have := Hwk.out; omega
        have Hc3 := Lib.hid ((Hc.out.ext hb13).mono (K' := fun b => K b ∨ w.heap.size ≤ b) fun _ _ h => .inl h)
        have Hp3 := Lib.hid (Hp1.out.ext hb13)
        have Hb3 := Lib.hid (Hb1.out.ext hb13)
        have hB3 : B ≤ w3.heap.size := Nat.le_trans hB1 hb13.size
        have Hx3 : Held w3 (fun b => K b ∨ w.heap.size ≤ b) a3 c3' l := Held.of ((ho2.ext hbp)) Hl.out.symm fun b hb => .inr (Nat.le_trans Hb1.out.size hb)
        have HX3 := Lib.hid Hx3
        have hzG : w1.heap.size ≤ w2.heap.size := hb2.size
        clear hws c0 c1 c2 c3 c4 hmm Hx3 ho2 hb2 hbp
        generalize w2.heap.size = G7 at *
        have hpb : ∀ x o, pa = some ⟨x, o, none⟩ → x < w1.heap.size ∧ ∃ cur, w1.heap[x]? = some (.cells cur 172 (0, 0)) := by
          intro x o h
          by_cases h0 : ps.length = 0
          · rw [Hc.out.pnil h0] at h; cases h
          · have := Hc.out.pend
            rw [h] at this
            exact (this.blk h0).2
        have hGpa : ∀ o, pa ≠ some ⟨G7, o, none⟩ := fun o h => by have := (hpb _ _ h).1; omega
        have hgpa : ∀ o, pa ≠ some ⟨g, o, none⟩ := fun o h => by
          obtain ⟨_, cur, hcur⟩ := hpb _ _ h
          rw [Hc.out.obj] at hcur
          simp at hcur
        have hpalt : ∀ x o, pa = some ⟨x, o, none⟩ → w3.heap.size ≤ x → False := fun x o h hx => by have := (hpb _ _ h).1; have := hb13.size; omega
        obtain ⟨c0, c1, c2, c3, c4, _, _⟩ := Hc3.out.cells
        rw [Hnn.out] at c3
        rw [Hpm.out] at c4
        have hlg := heap_lt Hc3.out.obj
        have hl7 := heap_lt hput
        have m0 : w3.cell? ⟨G7, 0, none⟩ = some (.int .i64 (k : Int)) := cell_of_row w3 _ 0 _ _ _ hput
        have m1 : w3.cell? ⟨G7, 1, none⟩ = some (.slice a3 256 c3') := cell_of_row w3 _ 1 _ _ _ hput
        have Hput := Lib.hid hput
        clear hb13 hput
        refine wp_region_chainL (by kernel_rfl) [7, 10] (Keeps.rel (fun b => ∀ o, pa ≠ some ⟨b, o, none⟩)) [SpT.eq (.pointer (some ⟨g, 0, none⟩)), SpT.eq (.pointer (some ⟨g, 0, none⟩)), SpT.eq (.pointer (some ⟨g, 0, none⟩)), SpT.eq (.pointer (some ⟨g, 4, none⟩)), SpT.eq (.slice pa m pc), SpT.eq (.agg #[.int .i64 (k : Int), .slice a3 256 c3']), ⟨fun w v => ∃ x, v = .slice (some ⟨x, 0, none⟩) 1 1 ∧ (∀ o, pa ≠ some ⟨x, o, none⟩) ∧ w.heap[x]? = some (.cells #[.int .i64 (k : Int), .slice a3 256 c3'] 172 (0, 0)), fun _ _ _ ⟨x, h, hx, hg⟩ ht => ⟨x, h, hx, (ht.block x hx (heap_lt hg)).trans hg⟩⟩, SpT.top, SpT.eq (.pointer (some ⟨g, 0, none⟩)), SpT.eq (.pointer (some ⟨g, 4, none⟩)), SpT.top] (by kernel_rfl) (by kernel_rfl) (by kernel_rfl) (by kernel_rfl) ?_ ?_
        · refine stepsL_free rfl ?_ (stepsL_free rfl ?_ (stepsL_free rfl ?_ (stepsL_free rfl ?_ (stepsL_free rfl ?_ (stepsL_free rfl ?_ (stepsL_free rfl ?_ (stepsL_chain rfl (stepsL_free rfl ?_ (stepsL_free rfl ?_ (stepsL_chain rfl (stepsL_nil)))))))))))
          · intro ρ w' E
            have e0 : ρ (.tmp 0) = .pointer (some ⟨g, 0, none⟩) := E.out 0 rfl
            refine step_plain rfl ?_
            exact op_move (.inl rfl) e0 ⟨Below.refl _ _, rfl⟩
          · intro ρ w' E
            have e0 : ρ (.tmp 0) = .pointer (some ⟨g, 0, none⟩) := E.out 0 rfl
            refine step_plain rfl ?_
            exact op_move (.inl rfl) e0 ⟨Below.refl _ _, rfl⟩
          · intro ρ w' E
            have e33 : ρ (.tmp 33) = .pointer (some ⟨g, 0, none⟩) := E.pre 1 rfl rfl
            refine step_plain rfl ?_
            refine op_val (v := .pointer (some ⟨g, 0, none⟩)) (w' := w') ?_ ⟨Below.refl _ _, rfl⟩
            have hcon := E.con
            clear E
            go_simp
          · intro ρ w' E
            have e34 : ρ (.tmp 34) = .pointer (some ⟨g, 0, none⟩) := E.pre 2 rfl rfl
            refine step_plain rfl ?_
            refine op_val (v := .pointer (some ⟨g, 4, none⟩)) (w' := w') ?_ ⟨Below.refl _ _, rfl⟩
            have hcon := E.con
            clear E
            go_simp
          · intro ρ w' E
            have e35 : ρ (.tmp 35) = .pointer (some ⟨g, 4, none⟩) := E.pre 3 rfl rfl
            refine step_plain rfl ?_
            refine op_val (v := .slice pa m pc) (w' := w') ?_ ⟨Below.refl _ _, rfl⟩
            have hk : w'.cell? ⟨g, 4, none⟩ = some (.slice pa m pc) := (World.cell?_of_block (w := w3) (E.t.block g hgpa hlg)).trans c4
            have hcon := E.con
            clear E c0 c1 c2 c3 c4 m0 m1
            go_simp
          · intro ρ w' E
            have e7 : ρ (.tmp 7) = .pointer (some ⟨G7, 0, none⟩) := E.out 7 rfl
            refine step_plain rfl ?_
            refine op_val (v := .agg #[.int .i64 (k : Int), .slice a3 256 c3']) (w' := w') ?_ ⟨Below.refl _ _, rfl⟩
            have hk0 : w'.cell? ⟨G7, 0, none⟩ = _ := (World.cell?_of_block (w := w3) (E.t.block G7 hGpa hl7)).trans m0
            have hk1 : w'.cell? ⟨G7, 1, none⟩ = _ := (World.cell?_of_block (w := w3) (E.t.block G7 hGpa hl7)).trans m1
            have hcon := E.con
            clear E c0 c1 c2 c3 c4 m0 m1
            go_simp
          · intro ρ w' E
            have e37 : ρ (.tmp 37) = .agg #[.int .i64 (k : Int), .slice a3 256 c3'] := E.pre 5 rfl rfl
            refine step_plain rfl ?_
            refine op_val (v := .slice (some ⟨w'.heap.size, 0, none⟩) 1 1) (w' := w'.alloc (.cells #[.int .i64 (k : Int), .slice a3 256 c3'] 172)) (by have hcon := E.con; clear E c0 c1 c2 c3 c4 m0 m1; go_simp) ⟨ext_alloc _ _, _, rfl, fun o h => ?_, heap_alloc_new _ _⟩
            exact hpalt _ _ h E.t.size
          · intro ρ w' E
            have e32 : ρ (.tmp 32) = .pointer (some ⟨g, 0, none⟩) := E.pre 0 rfl rfl
            refine step_plain rfl ?_
            refine op_val (v := .pointer (some ⟨g, 0, none⟩)) (w' := w') ?_ ⟨Below.refl _ _, rfl⟩
            have hcon := E.con
            clear E
            go_simp
          · intro ρ w' E
            have e40 : ρ (.tmp 40) = .pointer (some ⟨g, 0, none⟩) := E.pre 8 rfl rfl
            refine step_plain rfl ?_
            refine op_val (v := .pointer (some ⟨g, 4, none⟩)) (w' := w') ?_ ⟨Below.refl _ _, rfl⟩
            have hcon := E.con
            clear E
            go_simp
        · intro ρ1 w1c G1 E1
          have e36 : ρ1 (.tmp 36) = .slice pa m pc := E1.pre 4 rfl rfl
          have p38 : (fun w v => ∃ x, v = .slice (some ⟨x, 0, none⟩) 1 1 ∧ (∀ o, pa ≠ some ⟨x, o, none⟩) ∧ w.heap[x]? = some (.cells #[.int .i64 (k : Int), .slice a3 256 c3'] 172 (0, 0))) w1c (ρ1 (.tmp 38)) := E1.pre 6 rfl rfl
          refine step_plain rfl ?_
          obtain ⟨xb, e38, _, hgx⟩ := p38
          refine op_appm (s := .tmp 36) (x := .tmp 38) (t := 159) rfl B 172 i1 (.agg #[.int .i64 0, .slice none 0 0]) 2 32 Try.underlying159 hj hy0 hy1 hy2 rfl (by decide) pa m pc (wvs ps) e36 (by have := (Hc3.out.ext G1).pend; rw [Hpm.out] at this; exact this) (some ⟨xb, 0, none⟩) 1 1 (WrV.cells ⟨k, a3, c3', l⟩) e38 rfl (Or.inr ⟨xb, 0, _, _, _, rfl, hgx, by rw [List.drop_zero]; unfold WrV.cells; rw [Hl.out]; rfl⟩) (WrV.one _) (by unfold maxLen; omega) (by omega) (Nat.le_trans hB3 G1.size) ?_
          intro a5 c5 wx5 hA5
          refine ⟨⟨hA5.below.size, fun b hb hl => hA5.rest b hl (.inr hb)⟩, ?_⟩
          intro ρ2 w2c G2 E2
          have e41 : ρ2 (.tmp 41) = .pointer (some ⟨g, 4, none⟩) := E2.pre 9 rfl rfl
          have e39 : ρ2 (.tmp 39) = .slice a5 (m + 1) c5 := E2.chn 7 39 rfl rfl rfl
          refine step_plain rfl ?_
          have hq := (Hc3.out.ext G1).append Hpm.out.symm hA5 G2 (x := ⟨k, a3, c3', l⟩) (HX3.out.mod (bmod G1 fun _ _ => False) fun _ _ _ h => h)
          have hgo : w2c.heap[g]? = _ := (G2.block g (Nat.lt_of_lt_of_le hlg (Nat.le_trans G1.size hA5.below.size))).trans ((hA5.rest g (Nat.lt_of_lt_of_le hlg G1.size) (.inr hgpa)).trans ((G1.block g hlg).trans Hc3.out.obj))
          have hco : w2c.cell? ⟨g, 4, none⟩ = some _ := cell_of_row w2c g 4 _ _ _ hgo
          refine op_store rfl e41 e39 rfl hco (frozen_of_row w2c g 4 _ _ hgo) (by kernel_rfl) ⟨trivial, ?_⟩
          intro σ wF GF hκ
          simp only [upd, updL, dstsOf', elemB, List.filterMap_cons, List.filterMap_nil, Nat.reduceAdd, Nat.reduceBEq, Bool.or_false, Bool.false_or, Bool.or_true, Bool.true_or, cond_true, cond_false, Nat.zero_add]
          have hmq := (Mod.refl (OF g) w2c).setCell hgo ⟨rfl, rfl⟩ 4 (.slice a5 (m + 1) c5)
          have hlow := Hc3.out.low
          have HC4 := Lib.hid (hq.ext GF)
          have HP4 := Lib.hid (((((Hp3.out.ext G1).mod (hA5.mod WF fun _ _ _ _ => rfl) (fun _ _ h => by subst h; decide)).ext G2).mod hmq (OF_no_pow _)).ext GF)
          have HM4 := Lib.hid (((((Hb3.out.ext G1).trans (hA5.mod (DF B) fun _ _ _ h => DF_w h)).ext G2).trans (OF_df hmq hlow)).ext GF)
          have hput : wF.heap[G7]? = some (.cells #[.int .i64 (k : Int), .slice a3 256 c3'] 172 (0, 0)) := by
            have h1 : w2c.heap[G7]? = _ := (G2.block G7 (Nat.lt_of_lt_of_le hl7 (Nat.le_trans G1.size hA5.below.size))).trans ((hA5.rest G7 (Nat.lt_of_lt_of_le hl7 G1.size) (.inr hGpa)).trans ((G1.block G7 hl7).trans Hput.out))
            exact (GF.block G7 (heap_lt (hmq.keep h1 (by rintro ⟨_, h⟩; revert h; decide)))).trans (hmq.keep h1 (by rintro ⟨_, h⟩; revert h; decide))
          have Hput4 := Lib.hid hput
          have hB4 : max B R ≤ wF.heap.size := Nat.le_trans hB HM4.out.size
          clear hq hmq hA5 hgo hco G1 G2 GF E1 E2 e36 e38 e39 e41 hgx hκ c0 c1 c2 c3 c4 m0 m1 hput hlg hl7
          obtain ⟨c0, c1, c2, c3, c4, _, hlg⟩ := HC4.out.cells
          clear c1 c2 c3 c4
          go_wp2_with fail
          refine (spend_at hB4 HP4.out Hsp.out).mono ?_
          rintro e w5 ⟨rfl, hp5, hb5⟩
          have HC5 := Lib.hid (HC4.out.pf hb5)
          have HP5 := Lib.hid hp5
          have HM5 := Lib.hid (HM4.out.trans (PF.df hb5))
          have hput : w5.heap[G7]? = some (.cells #[.int .i64 (k : Int), .slice a3 256 c3'] 172 (0, 0)) := hb5.keep Hput4.out (by rintro ⟨_, h⟩; revert h; decide)
          have Hps2 := Lib.hid (show (ps ++ ([⟨k, a3, c3', l⟩] : List WrV)).map WrV.pl = d1.pend ++ [(k, l)] by rw [List.map_append, Hps.out]; rfl)
          clear c0 hp5 hb5
          cases b with
          | false =>
            have HR3 := Lib.hid (HR2.out.trans (if_neg (by decide)))
            go_wp2
            go_ret
            rw [HR3.out]
            exact ⟨rfl, ⟨_, _, _, _, _, _, _, _, _, HC5.out, Hss.out, Hns.out, Hps2.out⟩, HP5.out, HM5.out⟩
          | true =>
            have HR3 := Lib.hid (HR2.out.trans (if_pos rfl))
            obtain ⟨nx, hnx, hBn, _, _, _⟩ := HC5.out.now.elem SecV.len (by omega) (i := k) hkl
            subst hnx
            obtain ⟨c0, c1, c2, c3, c4, _, hlg⟩ := HC5.out.cells
            rw [Hnn.out] at c3
            have hl7 := heap_lt hput
            have m0 : w5.cell? ⟨G7, 0, none⟩ = some (.int .i64 (k : Int)) := cell_of_row w5 _ 0 _ _ _ hput
            have m1 : w5.cell? ⟨G7, 1, none⟩ = some (.slice a3 256 c3') := cell_of_row w5 _ 1 _ _ _ hput
            clear hput
            go_wp2_with fail
            refine wp_region_last2 _ _ (by simp only [lastSplit, Option.map_some]; rfl) (by kernel_rfl) [Sp.eq (.pointer (some ⟨g, 0, none⟩)), Sp.eq (.pointer (some ⟨g, 0, none⟩)), Sp.eq (.pointer (some ⟨g, 3, none⟩)), Sp.eq (.slice (some ⟨nx, 0, none⟩) n nc), Sp.eq (.int .i64 (k : Int)), Sp.eq (.pointer (some ⟨G7, 1, none⟩)), Sp.eq (.slice a3 256 c3'), Sp.eq (.agg #[.slice a3 256 c3', .bool false]), Sp.eq (.pointer (some ⟨nx, k * 2, none⟩))] (by kernel_rfl) (by kernel_rfl) ?_ ?_
            · refine stepsOk_cons ?_ (stepsOk_cons ?_ (stepsOk_cons ?_ (stepsOk_cons ?_ (stepsOk_cons ?_ (stepsOk_cons ?_ (stepsOk_cons ?_ (stepsOk_cons ?_ (stepsOk_cons ?_ (stepsOk_nil)))))))))
              · intro ρ w' E
                have e0 : ρ (.tmp 0) = .pointer (some ⟨g, 0, none⟩) := E.out 0 rfl
                refine step_plain rfl ?_
                exact op_move (.inl rfl) e0 ⟨Below.refl _ _, rfl⟩
              · intro ρ w' E
                have e48 : ρ (.tmp 48) = .pointer (some ⟨g, 0, none⟩) := E.pre 0 rfl
                refine step_plain rfl ?_
                refine op_val (v := .pointer (some ⟨g, 0, none⟩)) (w' := w') ?_ ⟨Below.refl _ _, rfl⟩
                have hcon := E.con
                clear E
                go_simp
              · intro ρ w' E
                have e49 : ρ (.tmp 49) = .pointer (some ⟨g, 0, none⟩) := E.pre 1 rfl
                refine step_plain rfl ?_
                refine op_val (v := .pointer (some ⟨g, 3, none⟩)) (w' := w') ?_ ⟨Below.refl _ _, rfl⟩
                have hcon := E.con
                clear E
                go_simp
              · intro ρ w' E
                have e50 : ρ (.tmp 50) = .pointer (some ⟨g, 3, none⟩) := E.pre 2 rfl
                refine step_plain rfl ?_
                refine op_val (v := .slice (some ⟨nx, 0, none⟩) n nc) (w' := w') ?_ ⟨Below.refl _ _, rfl⟩
                have hk := (World.cell?_of_block (w := w5) (E.below.block _ hlg)).trans c3
                have hcon := E.con
                clear E c0 c1 c2 c3 c4 m0 m1
                go_simp
              · intro ρ w' E
                have e1 : ρ (.tmp 1) = .int .i64 (k : Int) := E.out 1 rfl
                refine step_plain rfl ?_
                exact op_move (.inl rfl) e1 ⟨Below.refl _ _, rfl⟩
              · intro ρ w' E
                have e7 : ρ (.tmp 7) = .pointer (some ⟨G7, 0, none⟩) := E.out 7 rfl
                refine step_plain rfl ?_
                refine op_val (v := .pointer (some ⟨G7, 1, none⟩)) (w' := w') ?_ ⟨Below.refl _ _, rfl⟩
                have hcon := E.con
                clear E
                go_simp
              · intro ρ w' E
                have e53 : ρ (.tmp 53) = .pointer (some ⟨G7, 1, none⟩) := E.pre 5 rfl
                refine step_plain rfl ?_
                refine op_val (v := .slice a3 256 c3') (w' := w') ?_ ⟨Below.refl _ _, rfl⟩
                have hk := (World.cell?_of_block (w := w5) (E.below.block _ hl7)).trans m1
                have hcon := E.con
                clear E c0 c1 c2 c3 c4 m0 m1
                go_simp
              · intro ρ w' E
                have e54 : ρ (.tmp 54) = .slice a3 256 c3' := E.pre 6 rfl
                refine step_plain rfl ?_
                refine op_val (v := .agg #[.slice a3 256 c3', .bool false]) (w' := w') ?_ ⟨Below.refl _ _, rfl⟩
                have hcon := E.con
                clear E
                go_simp
              · intro ρ w' E
                have e51 : ρ (.tmp 51) = .slice (some ⟨nx, 0, none⟩) n nc := E.pre 3 rfl
                have e52 : ρ (.tmp 52) = .int .i64 (k : Int) := E.pre 4 rfl
                refine step_plain rfl ?_
                refine op_val (v := .pointer (some ⟨nx, k * 2, none⟩)) (w' := w') ?_ ⟨Below.refl _ _, rfl⟩
                have hcon := E.con
                clear E
                go_simp
            · intro σ w6 hb6 hall
              obtain ⟨_, _, _, _, _, _, _, h55, h56, _⟩ := hall
              have h55 : σ 55 = .agg #[.slice a3 256 c3', .bool false] := h55
              have h56 : σ 56 = .pointer (some ⟨nx, k * 2, none⟩) := h56
              simp only [upd, updL, dstsOf', elemB, List.filterMap_cons, List.filterMap_nil, Nat.reduceAdd, Nat.reduceBEq, Bool.or_false, Bool.false_or, Bool.or_true, Bool.true_or, cond_true, cond_false, Nat.zero_add, h55, h56]
              have hown := HC5.out.now.ext hb6
              have hlc : l.length = 256 := Hl.out
              have hxh : Held w6 (fun b => K b ∨ w.heap.size ≤ b) a3 c3' l := ((HC5.out.ext hb6).wrs ⟨k, a3, c3', l⟩ (by simp))
              clear c0 c1 c2 c3 c4 m0 m1 hlg hl7
              go_wp2_with (refine wpList_store_elem rfl rfl 167 (.tmp 56) (.tmp 55) rfl SecV.cells 2 SecV.len (by decide) hown k ⟨a3, c3', ⟨l, false⟩⟩ hkl rfl (by unfold SecV.cells; rw [Hl.out]; rfl) (by kernel_rfl) (SecV.one _) ?_; intro w7 ho7 hbe7 hot7 hm7 hz7)
              have hm7 := hm7 (SF nx) ⟨rfl, rfl⟩
              have HC7 := Lib.hid ((HC5.out.ext hb6).putNow hm7 ho7 hxh)
              have HP7 := Lib.hid ((HP5.out.ext hb6).mod hm7 (SF_no_pow _))
              have HM7 := Lib.hid ((HM5.out.ext hb6).trans (SF_df hm7 hBn))
              clear ho7 hbe7 hot7 hm7 hz7 hb6 hown hxh h55 h56 hlc
              go_wp2
              go_ret
              rw [HR3.out]
              exact ⟨rfl, ⟨_, _, _, _, _, _, _, _, _, HC7.out, Hss.out, by rw [List.map_set, Hns.out], Hps2.out⟩, HP7.out, HM7.out⟩
      · have hl := HL.out
        have HR3 := HR.out
        rw [if_pos (by omega)] at HR3
        have HR2 := Lib.hid HR3
        have h1 : (((m0 : Nat) : Int) != 256) = true := by simp; omega
        clear hl HR3 HR
        go_wp2
        go_ret
        rw [HR2.out]
        exact ⟨rfl, Hd1.out.mono fun _ _ h => .inl h, Hp1.out, Hb1.out⟩
    · have HR3 := HR2.out
      rw [if_pos (by unfold DS.inB; rw [Hok.out.now]; simpa using hin)] at HR3
      have HR := Lib.hid HR3
      clear HR2 HR3
      by_cases hneg : i < 0
      · clear hin
        go_wp2
        go_ret
        rw [HR.out]
        exact ⟨rfl, Hd1.out.mono fun _ _ h => .inl h, Hp1.out, Hb1.out⟩
      · have h1 : (n : Int) ≤ i := by omega
        clear hin
        go_wp2
        go_ret
        rw [HR.out]
        exact ⟨rfl, Hd1.out.mono fun _ _ h => .inl h, Hp1.out, Hb1.out⟩
end Go.Proofs.Ytclkkhpnnbkfmaa
