/- disk.Disk: what its methods do, over a plain state. -/
import Derived.Test.YtclkkhpnnbkfmaaDiskAwakeR
import Derived.Test.YtclkkhpnnbkfmaaMake
import Derived.Test.YtclkkhpnnbkfmaaKeep
namespace Go.Proofs.Ytclkkhpnnbkfmaa
open Go.RowKit
variable {R : Nat}

set_option maxRecDepth 100000 in
set_option maxHeartbeats 2000000 in
theorem disk_awake (K : Nat → Prop) (B g pg n : Nat) (d : DS) (p : PS) (w : World) (hd : DiskAt K B w g pg d) (hp : Pow R B w pg p) (hok : d.ok n) (hn : n ≤ 100000) (hnpos : 0 < n) (hB : B ≤ w.heap.size) (hm : d.pend.length ≤ 100000) :
    Calls Try.prog 105 #[.pointer (some ⟨g, 0, none⟩)] w fun e w' => e = .returned (.bool (!p.off)) ∧ DiskAt K B w' g pg (d.wake p) ∧ Pow R B w' pg p ∧ Mod (DF B) w w' := by
  cases hoff : p.off with
  | true =>
    have hw : d.wake p = d := by unfold DS.wake; rw [if_pos (.inl hoff)]
    rw [hw]
    have Hd := Lib.hid hd
    have Hp := Lib.hid hp
    obtain ⟨sa, sc, ss, na, nc, ns, pa, pc, ps, hc, hss, hns, hps⟩ := hd
    obtain ⟨c0, c1, c2, c3, c4, hfg, hlg⟩ := hc.cells
    clear hc hss hns hps hw hok hm
    go_enter Try.func105, Try.ntmps105
    go_wp2_with fail
    refine (off_at Hp.out hoff).mono ?_
    rintro e w' ⟨rfl, rfl⟩
    clear hp hoff
    go_wp2
    go_ret
    exact ⟨rfl, Hd.out, Hp.out, Mod.refl _ _⟩
  | false =>
    cases hl : (d.life == p.life) with
    | false =>
      have hw : d.wake p = ⟨p.life, applyP p 0 d.pend d.safe, applyP p 0 d.pend d.safe, []⟩ := by unfold DS.wake; rw [if_neg (by rw [hoff]; simpa using hl)]
      rw [hw]
      exact awake_slow K B g pg n d p w hd hp hok hn hnpos hB hm hoff hl
    | true =>
      have hw : d.wake p = d := by unfold DS.wake; rw [if_pos (.inr (by simpa using hl))]
      rw [hw]
      have Hd := Lib.hid hd
      have Hp := Lib.hid hp
      obtain ⟨sa, sc, ss, na, nc, ns, pa, pc, ps, hc, hss, hns, hps⟩ := hd
      obtain ⟨c0, c1, c2, c3, c4, hfg, hlg⟩ := hc.cells
      clear hc hss hns hps hw hok hm
      go_enter Try.func105, Try.ntmps105
      go_wp2_with fail
      refine (off_at Hp.out hoff).mono ?_
      rintro e w' ⟨rfl, rfl⟩
      clear hp hoff
      go_wp2_with fail
      refine wp_region_sp (by kernel_rfl) [Sp.eq (.pointer (some ⟨g, 0, none⟩)), Sp.eq (.pointer (some ⟨g, 0, none⟩)), Sp.eq (.pointer (some ⟨g, 1, none⟩)), Sp.eq (.int .i64 d.life), Sp.eq (.pointer (some ⟨g, 0, none⟩)), Sp.eq (.pointer (some ⟨g, 0, none⟩)), Sp.eq (.pointer (some ⟨g, 0, none⟩)), Sp.eq (.pointer (some ⟨pg, 0, none⟩)), Sp.eq (.int .i64 p.life), Sp.eq (.bool true)] (by kernel_rfl) ?_ ?_
      · refine stepsOk_cons ?_ (stepsOk_cons ?_ (stepsOk_cons ?_ (stepsOk_cons ?_ (stepsOk_cons ?_ (stepsOk_cons ?_ (stepsOk_cons ?_ (stepsOk_cons ?_ (stepsOk_cons ?_ (stepsOk_cons ?_ (stepsOk_nil))))))))))
        · intro ρ w' E
          have e0 : ρ (.tmp 0) = .pointer (some ⟨g, 0, none⟩) := E.out 0 rfl
          refine step_plain rfl ?_
          exact op_move (.inl rfl) e0 ⟨Below.refl _ _, rfl⟩
        · intro ρ w' E
          have e10 : ρ (.tmp 10) = .pointer (some ⟨g, 0, none⟩) := E.pre 0 rfl
          refine step_plain rfl ?_
          refine op_val (v := .pointer (some ⟨g, 0, none⟩)) (w' := w') ?_ ⟨Below.refl _ _, rfl⟩
          have hcon := E.con
          clear E
          go_simp
        · intro ρ w' E
          have e11 : ρ (.tmp 11) = .pointer (some ⟨g, 0, none⟩) := E.pre 1 rfl
          refine step_plain rfl ?_
          refine op_val (v := .pointer (some ⟨g, 1, none⟩)) (w' := w') ?_ ⟨Below.refl _ _, rfl⟩
          have hcon := E.con
          clear E
          go_simp
        · intro ρ w' E
          have e12 : ρ (.tmp 12) = .pointer (some ⟨g, 1, none⟩) := E.pre 2 rfl
          refine step_plain rfl ?_
          refine op_val (v := .int .i64 d.life) (w' := w') ?_ ⟨Below.refl _ _, rfl⟩
          have hk := (World.cell?_of_block (w := w) (E.below.block _ hlg)).trans c1
          have hcon := E.con
          clear E c0 c1 c2 c3 c4
          go_simp
        · intro ρ w' E
          have e0 : ρ (.tmp 0) = .pointer (some ⟨g, 0, none⟩) := E.out 0 rfl
          refine step_plain rfl ?_
          exact op_move (.inl rfl) e0 ⟨Below.refl _ _, rfl⟩
        · intro ρ w' E
          have e14 : ρ (.tmp 14) = .pointer (some ⟨g, 0, none⟩) := E.pre 4 rfl
          refine step_plain rfl ?_
          refine op_val (v := .pointer (some ⟨g, 0, none⟩)) (w' := w') ?_ ⟨Below.refl _ _, rfl⟩
          have hcon := E.con
          clear E
          go_simp
        · intro ρ w' E
          have e15 : ρ (.tmp 15) = .pointer (some ⟨g, 0, none⟩) := E.pre 5 rfl
          refine step_plain rfl ?_
          refine op_val (v := .pointer (some ⟨g, 0, none⟩)) (w' := w') ?_ ⟨Below.refl _ _, rfl⟩
          have hcon := E.con
          clear E
          go_simp
        · intro ρ w' E
          have e16 : ρ (.tmp 16) = .pointer (some ⟨g, 0, none⟩) := E.pre 6 rfl
          refine step_plain rfl ?_
          refine op_val (v := .pointer (some ⟨pg, 0, none⟩)) (w' := w') ?_ ⟨Below.refl _ _, rfl⟩
          have hk := (World.cell?_of_block (w := w) (E.below.block _ hlg)).trans c0
          have hcon := E.con
          clear E c0 c1 c2 c3 c4
          go_simp
        · intro ρ w' E
          have e17 : ρ (.tmp 17) = .pointer (some ⟨pg, 0, none⟩) := E.pre 7 rfl
          refine step_plain rfl ?_
          refine op_call (f := 103) (args := #[.pointer (some ⟨pg, 0, none⟩)]) (w' := w') (by have hcon := E.con; have hfn := E.fn; clear E; go_simp) ?_
          refine (life_at (Hp.out.ext E.below) rfl).mono ?_
          rintro e w2 ⟨rfl, rfl⟩
          exact ⟨_, rfl, Below.refl _ _, rfl⟩
        · intro ρ w' E
          have e13 : ρ (.tmp 13) = .int .i64 d.life := E.pre 3 rfl
          have e18 : ρ (.tmp 18) = .int .i64 p.life := E.pre 8 rfl
          refine step_plain rfl ?_
          refine op_val (v := .bool true) (w' := w') ?_ ⟨Below.refl _ _, rfl⟩
          have hcon := E.con
          clear E
          go_simp
      · intro σ w0 hb0 hall
        have h19 : σ 19 = .bool true := by obtain ⟨_, _, _, _, _, _, _, _, _, h, _⟩ := hall; exact h
        clear hall c0 c1 c2 c3 c4
        simp only [upd, updL, dstsOf', elemB, List.filterMap_cons, List.filterMap_nil, Nat.reduceAdd, Nat.reduceBEq, Bool.or_false, Bool.false_or, Bool.or_true, Bool.true_or, cond_true, cond_false, Nat.zero_add, h19]
        have Hd0 := Lib.hid (Hd.out.ext hb0)
        have Hp0 := Lib.hid (Hp.out.ext hb0)
        have Hb0 := Lib.hid (bmod hb0 (DF B))
        clear hb0 h19
        go_wp2
        go_ret
        exact ⟨rfl, Hd0.out, Hp0.out, Hb0.out⟩
theorem disk_sectors (K : Nat → Prop) (B g pg n : Nat) (d : DS) (w : World) (hd : DiskAt K B w g pg d) (hok : d.ok n) :
    Calls Try.prog 58 #[.pointer (some ⟨g, 0, none⟩)] w fun e w' => e = .returned (.int .i64 (n : Int)) ∧ w = w' := by
  obtain ⟨sa, sc, ss, na, nc, ns, pa, pc, ps, hc, hss, hns, hps⟩ := hd
  obtain ⟨c0, c1, c2, c3, c4, hfg, hlg⟩ := hc.cells
  have hsn : ss.length = n := by rw [← hok.safe, ← hss, List.length_map]
  rw [hsn] at c2
  clear hc hss hns hps hok hsn
  go_enter Try.func58, Try.ntmps58
  go_wp2
  go_ret
  exact ⟨rfl, rfl⟩

theorem Held.src {w : World} {K : Nat → Prop} {a : Option Addr} {c : Nat} {l : List Byte} (h : Held w K a c l) : Src w a (bvs l) := h.1.src
set_option maxRecDepth 100000 in
set_option maxHeartbeats 2000000 in
theorem disk_read (K : Nat → Prop) (B g pg n : Nat) (d : DS) (p : PS) (i : Int) (w : World) (hd : DiskAt K B w g pg d) (hp : Pow R B w pg p) (hok : d.ok n) (hn : n ≤ 100000) (hnpos : 0 < n) (hB : B ≤ w.heap.size) (hm : d.pend.length ≤ 100000) :
    Calls Try.prog 60 #[.pointer (some ⟨g, 0, none⟩), .int .i64 i] w fun e w' => ∃ a c m, e = .returned (.tuple #[.slice a m c, .int .i64 (d.read p i).2]) ∧ m = (d.read p i).1.length ∧ Own w' w.heap.size 5 1 a m c (bvs (d.read p i).1) ∧ DiskAt K B w' g pg (d.wake p) ∧ Pow R B w' pg p ∧ Mod (DF B) w w' := by
  have HA := Lib.hid (disk_awake K B g pg n d p w hd hp hok hn hnpos hB hm)
  obtain ⟨i0, hi, hz0, hz1, hz2⟩ := info_parts info8
  cases hoff : p.off with
  | true =>
    have hr : d.read p i = ([], 5) := by unfold DS.read; rw [hoff]; rfl
    rw [hr]
    rw [hoff] at HA
    clear hd hp hok hm hoff hr
    go_enter Try.func60, Try.ntmps60
    go_wp2_with fail
    refine HA.out.mono ?_
    rintro e w1 ⟨rfl, hd1, hp1, hb1⟩
    have Hd1 := Lib.hid hd1
    clear hd1
    go_wp2
    go_ret2
    exact ⟨none, 0, 0, rfl, rfl, Own.nil _ _ _ _ _, Hd1.out, hp1, hb1⟩
  | false =>
    rw [hoff] at HA
    have hw := hok.wake p
    have HR := Lib.hid (show d.read p i = (d.wake p).get i by unfold DS.read; rw [hoff]; rfl)
    clear hd hp hok hm hoff
    generalize d.wake p = d1 at *
    have Hok := Lib.hid hw
    clear hw
    go_enter Try.func60, Try.ntmps60
    go_wp2_with fail
    refine HA.out.mono ?_
    rintro e w1 ⟨rfl, hd1, hp1, hb1⟩
    have Hd1 := Lib.hid hd1
    have Hp1 := Lib.hid hp1
    have Hb1 := Lib.hid hb1
    obtain ⟨sa, sc, ss, na, nc, ns, pa, pc, ps, hc, hss, hns, hps⟩ := hd1
    have Hns := Lib.hid hns
    have Hnn := Lib.hid (show ns.length = n by rw [← Hok.out.now, ← hns, List.length_map])
    have Hc := Lib.hid hc
    obtain ⟨c0, c1, c2, c3, c4, hfg, hlg⟩ := hc.cells
    rw [Hnn.out] at c3
    clear hc hss hns hps hp1 hb1 HA
    by_cases hin : 0 ≤ i ∧ i < (n : Int)
    · obtain ⟨k, rfl⟩ := Int.eq_ofNat_of_zero_le hin.1
      have hkn : k < n := by omega
      have hkl : k < ns.length := by rw [Hnn.out]; exact hkn
      have hkn2 : ¬ n ≤ k := by omega
      have hk0 : (0 : Int) ≤ (k : Int) := by omega
      have hinB : d1.inB (k : Int) = true := by unfold DS.inB; rw [Hok.out.now]; simpa using hkn
      have hget : d1.now.getD k Sec.nought = ns[k].s := by
        rw [← Hns.out]; simp [List.getD_eq_getElem?_getD, hkl]
      obtain ⟨nx, rfl, hBx, hlx, hat, hfx⟩ := Hc.out.now.elem SecV.len (by omega) (i := k) hkl
      have m0 : w1.cell? ⟨nx, k * 2, none⟩ = some (.slice ns[k].a ns[k].s.b.length ns[k].c) := hat 0 _ rfl
      have m1 : w1.cell? ⟨nx, k * 2 + 1, none⟩ = some (.bool ns[k].s.torn) := hat 1 _ rfl
      have hh := Hc.out.secs _ (List.mem_append_right ss (List.getElem_mem hkl))
      have hR : d.read p (k : Int) = if ns[k].s.torn then ([], 6) else (ns[k].s.bytes, 0) := by
        rw [HR.out]; unfold DS.get; rw [hinB, if_pos rfl, Int.toNat_natCast, hget]
      have hb256 := Hok.out.bytes ns[k].s (List.mem_append_right _ (by rw [← Hns.out]; exact List.mem_map.2 ⟨_, List.getElem_mem _, rfl⟩))
      generalize ns[k] = x at *
      have Hh := Lib.hid hh
      have HRR := Lib.hid hR
      have Hb := Lib.hid hb256
      clear hat hget hinB hin hh hR HR hb256
      cases ht : x.s.torn with
      | true =>
        rw [ht] at m1 HRR
        go_wp2
        go_ret2
        have hr : d.read p (k : Int) = ([], 6) := HRR.out
        rw [hr]
        exact ⟨none, 0, 0, rfl, rfl, Own.nil _ _ _ _ _, Hd1.out, Hp1.out, Hb1.out⟩
      | false =>
        rw [ht] at m1 HRR
        have hr : d.read p (k : Int) = (x.s.bytes, 0) := HRR.out
        have Hr := Lib.hid hr
        clear HRR hr
        have hsz1 : w.heap.size ≤ w1.heap.size := Hb1.out.size
        go_wp2_with (first
          | (refine wpList_make8 rfl _ _ 50 rfl 5 i0 Try.underlying50 hi hz0 hz1 hz2 256 rfl rfl (by decide) ?_
             intro w2 ho2 hb2
             have hm0 := (World.cell?_of_block (w := w1) (hb2.block nx hlx)).trans m0
             have q0 := (World.cell?_of_block (w := w1) (hb2.block g hlg)).trans c0
             have q3 := (World.cell?_of_block (w := w1) (hb2.block g hlg)).trans c3
             have hs2 := (Hh.out.src).ext hb2
             clear m0 m1 c0 c1 c2 c3 c4)
          | (refine wpList_copyx rfl (.tmp 33) (.tmp 41) 50 rfl w1.heap.size 5 Try.underlying50 (by rw [hi]; simp [hz1]) _ _ _ _ rfl ho2 x.a x.s.b.length x.c (bvs x.s.b) rfl hs2 (by simp) (bvs_one _) ?_
             intro w3 ho3 hb3 hz3 hf3))
        have hfin : (bvs x.s.b).take 256 ++ (bvs (zb 256)).drop x.s.b.length = bvs x.s.bytes := by
          unfold Sec.bytes
          rcases Hb.out with h | h
          · rw [if_pos h, h]; rfl
          · rw [if_neg (by intro h0; rw [h0] at h; simp at h), h, List.take_of_length_le (by simp [h]), List.drop_eq_nil_of_le (by simp [zb_length]), List.append_nil]
        have hlen : x.s.bytes.length = 256 := by
          unfold Sec.bytes
          rcases Hb.out with h | h
          · rw [if_pos h]; simp [zeros256]
          · rw [if_neg (by intro h0; rw [h0] at h; simp at h), h]
        rw [hfin] at ho3
        have hb13 := hb2.trans hb3
        have HF := Lib.hid ho3
        have Hl := Lib.hid hlen
        have HD3 := Lib.hid (Hd1.out.ext hb13)
        have HP3 := Lib.hid (Hp1.out.ext hb13)
        have HM3 := Lib.hid (Hb1.out.ext hb13)
        clear hfin hlen ho3 hf3 hm0 q0 q3 hs2 hb13
        go_wp2
        go_ret2
        rw [Hr.out]
        exact ⟨_, _, _, rfl, Hl.out.symm, HF.out.mono hsz1, HD3.out, HP3.out, HM3.out⟩
    · have hR : d.read p i = ([], 1) := by
        rw [HR.out]; unfold DS.get
        rw [show d1.inB i = false by unfold DS.inB; rw [Hok.out.now]; simpa using hin]
        rfl
      have HRR := Lib.hid hR
      clear hR HR
      by_cases hneg : i < 0
      · clear hin
        go_wp2
        go_ret2
        rw [HRR.out]
        exact ⟨none, 0, 0, rfl, rfl, Own.nil _ _ _ _ _, Hd1.out, Hp1.out, Hb1.out⟩
      · have h1 : (n : Int) ≤ i := by omega
        clear hin
        go_wp2
        go_ret2
        rw [HRR.out]
        exact ⟨none, 0, 0, rfl, rfl, Own.nil _ _ _ _ _, Hd1.out, Hp1.out, Hb1.out⟩

set_option maxRecDepth 100000 in
set_option maxHeartbeats 2000000 in
theorem disk_sync (K : Nat → Prop) (B g pg n : Nat) (d : DS) (p : PS) (w : World) (hd : DiskAt K B w g pg d) (hp : Pow R B w pg p) (hok : d.ok n) (hn : n ≤ 100000) (hnpos : 0 < n) (hB : max B R ≤ w.heap.size) (hm : d.pend.length ≤ 100000) :
    Calls Try.prog 63 #[.pointer (some ⟨g, 0, none⟩)] w fun e w' => e = .returned (.int .i64 (d.sync p).1) ∧ DiskAt K B w' g pg (d.sync p).2.1 ∧ Pow R B w' pg (d.sync p).2.2 ∧ Mod (DF B) w w' := by
  have HA := Lib.hid (disk_awake K B g pg n d p w hd hp hok hn hnpos (by omega) hm)
  cases hoff : p.off with
  | true =>
    have hr : d.sync p = (5, d, p) := by unfold DS.sync; rw [hoff]; rfl
    have hw : d.wake p = d := by unfold DS.wake; rw [if_pos (.inl hoff)]
    rw [hr]
    rw [hoff, hw] at HA
    clear hd hp hok hm hoff hr hw
    go_enter Try.func63, Try.ntmps63
    go_wp2_with fail
    refine HA.out.mono ?_
    rintro e w1 ⟨rfl, hd1, hp1, hb1⟩
    have Hd1 := Lib.hid hd1
    clear hd1
    go_wp2
    go_ret
    exact ⟨rfl, Hd1.out, hp1, hb1⟩
  | false =>
    rw [hoff] at HA
    have hw := hok.wake p
    have HR := Lib.hid (show d.sync p = (if p.spend.1 then (0, { d.wake p with safe := (d.wake p).now, pend := [] }, p.spend.2) else (5, d.wake p, p.spend.2)) by unfold DS.sync; rw [hoff]; rfl)
    clear hd hp hok hm hoff
    generalize hdw : d.wake p = d1 at *
    have Hdw := Lib.hid hdw
    have Hok := Lib.hid hw
    clear hw hdw
    obtain ⟨r, hr⟩ : ∃ r, r = d.sync p := ⟨_, rfl⟩
    rw [← hr]
    rw [← hr] at HR
    clear hr
    cases hsp : p.spend with
    | mk b p2 =>
    rw [hsp] at HR
    go_enter Try.func63, Try.ntmps63
    go_wp2_with fail
    refine HA.out.mono ?_
    rintro e w1 ⟨rfl, hd1, hp1, hb1⟩
    have Hd1 := Lib.hid hd1
    have Hp1 := Lib.hid hp1
    have Hb1 := Lib.hid hb1
    have Hsp := Lib.hid hsp
    have hB1 : max B R ≤ w1.heap.size := Nat.le_trans hB hb1.size
    obtain ⟨sa, sc, ss, na, nc, ns, pa, pc, ps, hc, hss, hns, hps⟩ := hd1
    obtain ⟨c0, c1, c2, c3, c4, hfg, hlg⟩ := hc.cells
    have Hc := Lib.hid hc
    have Hns := Lib.hid hns
    have Hnn := Lib.hid (show ns.length = n by rw [← Hok.out.now, ← hns, List.length_map])
    clear hc hss hps hns hp1 hb1 HA hsp
    go_wp2_with fail
    refine (spend_at hB1 Hp1.out Hsp.out).mono ?_
    rintro e w2 ⟨rfl, hp2, hb2⟩
    have Hd2 := Lib.hid (Hd1.out.pf hb2)
    have Hc2 := Lib.hid (Hc.out.pf hb2)
    have Hp2 := Lib.hid hp2
    have Hb2 := Lib.hid (Hb1.out.trans (PF.df hb2))
    have hB2 : max B R ≤ w2.heap.size := Nat.le_trans hB1 hb2.size
    clear c0 c1 c2 c3 c4 hfg hlg hp2 hb2
    cases b with
    | false =>
      go_wp2
      go_ret
      rw [HR.out]
      exact ⟨rfl, Hd2.out, Hp2.out, Hb2.out⟩
    | true =>
      obtain ⟨c0, c1, c2, c3, c4, hfg, hlg⟩ := Hc2.out.cells
      rw [Hnn.out] at c3
      go_wp2_with fail
      refine (clone_secs na nc n ns w2 Hc2.out.now.src Hnn.out.symm hn).mono ?_
      rintro e w3 ⟨a3, c3', rfl, ho3, hb3⟩
      have hc3 := Hc2.out.ext hb3
      have hm4 := hc3.of_mod 2 (.slice a3 n c3')
      have hc4 := hc3.setSafe (ss' := ns) (n' := n) Hnn.out.symm (ho3.mono (by omega)) (fun x y hx hy => (own_apart Hc2.out.now ho3 (Nat.le_refl _) (by rw [Hnn.out]; exact hnpos) hnpos y x hy hx).symm) (fun x hx => hc3.secs x (by simp [hx]))
      have hm5 := hc4.of_mod 4 (.slice none 0 0)
      have hc5 := hc4.setPend (ps' := []) (pa' := none) (pc' := 0) (n' := 0) rfl (Own.nil _ _ _ _ _) (by simp) (fun _ => rfl)
      have HC := Lib.hid hc5
      have HP := Lib.hid (((Hp2.out.ext hb3).mod hm4 (OF_no_pow _)).mod hm5 (OF_no_pow _))
      have HM := Lib.hid (((Hb2.out.ext hb3).trans (OF_df hm4 hc3.low)).trans (OF_df hm5 hc3.low))
      clear c0 c1 c2 c3 c4 hfg hlg
      obtain ⟨c0, c1, c2, c3, c4, hfg, hlg⟩ := hc3.cells
      have q4 := hc4.cells.2.2.2.2.1
      have hfg2 := hc4.cells.2.2.2.2.2.1
      clear hc3 hc4 hc5 hm4 hm5 ho3 hb3
      go_wp2_with fail
      go_ret
      rw [HR.out]
      exact ⟨rfl, ⟨_, _, _, _, _, _, _, _, _, HC.out, Hns.out, Hns.out, rfl⟩, HP.out, HM.out⟩
end Go.Proofs.Ytclkkhpnnbkfmaa
