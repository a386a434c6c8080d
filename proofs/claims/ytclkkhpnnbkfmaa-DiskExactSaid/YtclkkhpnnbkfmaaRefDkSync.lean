/- The page's disk: Sync, Erase. -/
import Derived.Test.YtclkkhpnnbkfmaaRefDkWrite
namespace Go.Proofs.Ytclkkhpnnbkfmaa
open Go.RowKit
variable {R : Nat}

theorem no_rf7_disk (B tb r : Nat) : ¬ RF7 B tb r 165 := by rintro ⟨_, h | ⟨_, h⟩⟩ <;> revert h <;> decide
theorem no_rf7_write (B tb r : Nat) : ¬ RF7 B tb r 169 := by rintro ⟨_, h | ⟨_, h⟩⟩ <;> revert h <;> decide
theorem own_at0 {w : World} {B : Nat} {e : TypeId} {k x n c : Nat} {xs : List Value} (h : Own w B e k (some ⟨x, 0, none⟩) n c xs) (hn : 0 < n) : ∃ cur, w.heap[x]? = some (.cells cur e (0, 0)) := by
  obtain ⟨_, ⟨h0, _⟩ | ⟨g, cur, ha, hb, hh, _⟩⟩ := h
  · omega
  · simp only [Option.some.injEq, Addr.mk.injEq, and_self, and_true] at ha
    subst ha
    exact ⟨cur, hh⟩
theorem applyAll_len {n : Nat} : ∀ (l : List (Nat × List Byte)) (u : List (List Byte) × List Bool), u.1.length = n → u.2.length = n → (applyAll l u).1.length = n ∧ (applyAll l u).2.length = n
  | [], _, h1, h2 => ⟨h1, h2⟩
  | x :: r, u, h1, h2 => applyAll_len r _ (by simp [h1]) (by simp [h2])
set_option maxRecDepth 100000 in
set_option maxHeartbeats 8000000 in
theorem rdk_sync (K : Nat → Prop) (B r q tb n : Nat) (d : RS) (p : PS) (w : World) (hd : RDk K B w r q tb d) (hp : RPow R B w q p) (hok : d.ok n) (hn : n ≤ 100000) (hB : max B R ≤ w.heap.size) (hm : d.loose.length ≤ 100000) (htR : tb < R)
    {E : Int} {d' : RS} {p' : PS} (hr : d.sync p = (E, d', p')) :
    Calls Try.prog 64 #[.pointer (some ⟨r, 0, none⟩)] w fun e w' => e = .returned (.int .i64 E) ∧ RDk K B w' r q tb d' ∧ RPow R B w' q p' ∧ Mod (RDF B tb) w w' := by
  have HA := Lib.hid (rdk_wake K B r q tb n d p w hd hp hok hn (by omega) hm htR)
  have HR := Lib.hid hr
  have Hok := Lib.hid (hok.wake p)
  have hml : (d.wake p).loose.length ≤ 100000 := by unfold RS.wake; split; exact hm; simp
  have HtR := Lib.hid htR
  have Hd0 : Hid (d.sync p = if p.off then (5, d, p) else if p.spend.1 then (0, { d.wake p with safe := (applyAll (d.wake p).loose ((d.wake p).safe, (d.wake p).torn)).1, torn := (applyAll (d.wake p).loose ((d.wake p).safe, (d.wake p).torn)).2, loose := [] }, p.spend.2)
    else (5, d.wake p, p.spend.2)) := Lib.hid rfl
  have Hw0 : Hid (p.off = true → d.wake p = d) := Lib.hid fun h => by unfold RS.wake; rw [if_pos (.inl h)]
  clear hd hp hok hr hm htR
  generalize d.wake p = d1 at *
  go_enter Try.func64, Try.ntmps64
  go_wp2_with fail
  refine HA.out.mono ?_
  rintro e w1 ⟨rfl, hd1, hp1, hm1⟩
  have HD1 := Lib.hid hd1
  have HP1 := Lib.hid hp1
  have Hb1 := Lib.hid hm1
  obtain ⟨sa, sc, ss, tc, la, lc, ls, hc, hss, hls⟩ := hd1
  have Hc := Lib.hid hc
  have Hss := Lib.hid hss
  have Hls := Lib.hid hls
  have Hsn := Lib.hid (show ss.length = n by rw [← Hok.out.safe, ← hss, List.length_map])
  have Htn := Lib.hid Hok.out.torn
  have HPl := Lib.hid (show ls.length = d1.loose.length by rw [← hls, List.length_map])
  obtain ⟨m, hmm⟩ : ∃ m, m = ls.length := ⟨_, rfl⟩
  have Hpm := Lib.hid hmm.symm
  have hm1 : m ≤ 100000 := by have := HPl.out; omega
  obtain ⟨c0, c1, c2, c3, c4, hfg, hlg⟩ := hc.cells
  obtain ⟨p0, p1, p6, hlq⟩ := rpow_cells hp1
  have hR1 : max B R ≤ w1.heap.size := Nat.le_trans hB Hb1.out.size
  rw [Hsn.out] at c2
  rw [← hmm] at c4
  clear hc hss hls hp1 HA hmm hml
  cases hoff : p.off with
  | true =>
    have hR := HR.out
    rw [Hd0.out, hoff, if_pos rfl] at hR
    simp only [Prod.mk.injEq] at hR
    obtain ⟨rfl, rfl, rfl⟩ := hR
    rw [hoff] at p0
    have hw := Hw0.out hoff
    have HD2 : Hid (RDk K B w1 r q tb d) := Lib.hid (by rw [← hw]; exact HD1.out)
    clear hoff HR Hd0 hw
    go_wp2
    go_ret
    exact ⟨rfl, HD2.out, HP1.out, Hb1.out⟩
  | false =>
    have hR := HR.out
    rw [Hd0.out, hoff, if_neg (by decide)] at hR
    rw [hoff] at p0
    cases hsp : p.spend with
    | mk b p2 =>
    rw [hsp] at hR
    have HR := Lib.hid hR
    have Hsp := Lib.hid hsp
    clear hoff hR Hd0 Hw0 hsp
    go_wp2_with fail
    refine (rpow_spend B q p w1 hR1 HP1.out Hsp.out).mono ?_
    rintro e w2 ⟨rfl, hp2, hm2⟩
    have HC2 := Lib.hid (Hc.out.rpf hm2)
    have HD2 := Lib.hid (HD1.out.rpf hm2)
    have HP2 := Lib.hid hp2
    have HM2 := Lib.hid (Hb1.out.trans (RPF.rdf hm2))
    clear hp2 hm2 c0 c1 c2 c3 c4 p0 p1 p6 hlq hfg hlg hR1 Hb1 HP1 HD1 Hc
    cases b with
    | false =>
      have hR := HR.out
      rw [if_neg (by decide)] at hR
      simp only [Prod.mk.injEq] at hR
      obtain ⟨rfl, rfl, rfl⟩ := hR
      clear HR
      go_wp2
      go_ret
      exact ⟨rfl, HD2.out, HP2.out, HM2.out⟩
    | true =>
      have hR := HR.out
      rw [if_pos rfl] at hR
      simp only [Prod.mk.injEq] at hR
      obtain ⟨rfl, rfl, rfl⟩ := hR
      clear HR HD2
      obtain ⟨c0, c1, c2, c3, c4, hfg, hlg⟩ := HC2.out.cells
      rw [Hsn.out] at c2
      rw [Htn.out] at c3
      rw [Hpm.out] at c4
      go_wp2_with fail
      go_loopw [3] (fun i wx => ∃ (k : Nat) (sk : List Bsl) (tk : List Bool) (wr : World), wr = wx ∧ k ≤ m ∧ i = .int .i64 (k : Int) ∧ sk.length = n ∧ tk.length = n ∧ RDkC K B wr r q tb d1.life sa sc sk tc tk la lc ls ∧ (sk.map Bsl.l, tk) = applyAll (d1.loose.take k) (d1.safe, d1.torn) ∧ RPow R B wr q p2 ∧ Mod (RDF B tb) w wr) (fun i _ => m - (intOf i).toNat)
      case atStart => exact ⟨0, ss, d1.torn, _, rfl, by omega, rfl, Hsn.out, Htn.out, HC2.out, by rw [Hss.out]; rfl, HP2.out, HM2.out⟩
      case round =>
        obtain ⟨k, sk, tk, wr, hwr, hk, rfl, hsk, htk, hck, hap, hpk, hmk⟩ := hrel
        subst hwr
        clear c0 c1 c2 c3 c4 hfg hlg HC2 HP2 HM2
        have Hck := Lib.hid hck
        have Hap := Lib.hid hap
        have Hsk := Lib.hid hsk
        have Htk := Lib.hid htk
        have Hpk := Lib.hid hpk
        have Hmk := Lib.hid hmk
        obtain ⟨c0, c1, c2, c3, c4, hfg, hlg⟩ := hck.cells
        rw [hsk] at c2
        rw [htk] at c3
        rw [Hpm.out] at c4
        clear hck hap hsk htk hpk hmk
        by_cases hlt : k < m
        · have hkp : k < ls.length := by have := Hpm.out; omega
          obtain ⟨px, rfl, hpx, hpxl, hat, hfp⟩ := Hck.out.loose.elem WrV.len (by omega) hkp
          have m0 : wr.cell? ⟨px, k * 2, none⟩ = some (.int .i64 (ls[k].i : Int)) := hat 0 _ rfl
          have m1 : wr.cell? ⟨px, k * 2 + 1, none⟩ = some (.slice ls[k].a ls[k].b.length ls[k].c) := hat 1 _ rfl
          have hx := Hck.out.wrs _ (List.getElem_mem hkp)
          have Hst := Lib.hid (applyAll_take_succ d1.loose (d1.safe, d1.torn) k (by have := HPl.out; omega))
          have hdk : d1.loose[k]'(by have := HPl.out; omega) = ls[k].pl := by simp [← Hls.out]
          rw [hdk] at Hst
          have hxn := Hok.out.loose ls[k].pl (by rw [← Hls.out]; exact List.mem_map.2 ⟨_, List.getElem_mem hkp, rfl⟩)
          generalize ls[k] = x at *
          clear hat hdk
          have Hx := Lib.hid hx
          have hxi : x.i < n := hxn.1
          clear hx hxn
          obtain ⟨sx, hsx, hBsx, hlsx, _, _⟩ := Hck.out.safe.at (i := x.i) (by rw [Hsk.out]; exact hxi)
          subst hsx
          obtain ⟨curp, hpb⟩ := own_at0 Hck.out.loose (by omega)
          have hob := Hck.out.obj
          have hob7 := no_rf7_disk B tb r
          have hpb7 := no_rf7_write B tb px
          go_wp2_with fail
          refine wp_region_chainL (by kernel_rfl) [33, 35] (Mod.rel (RF7 B tb)) [SpT.eq (.pointer (some ⟨r, 0, none⟩)), SpT.eq (.pointer (some ⟨r, 0, none⟩)), SpT.eq (.pointer (some ⟨r, 2, none⟩)), SpT.eq (.slice (some ⟨sx, 0, none⟩) n sc), SpT.eq (.pointer (some ⟨r, 0, none⟩)), SpT.eq (.pointer (some ⟨r, 0, none⟩)), SpT.eq (.pointer (some ⟨r, 4, none⟩)), SpT.eq (.slice (some ⟨px, 0, none⟩) m lc), SpT.eq (.int .i64 (k : Int)), SpT.eq (.pointer (some ⟨px, k * 2, none⟩)), SpT.eq (.pointer (some ⟨px, k * 2, none⟩)), SpT.eq (.int .i64 (x.i : Int)), SpT.eq (.pointer (some ⟨r, 0, none⟩)), SpT.eq (.pointer (some ⟨r, 0, none⟩)), SpT.eq (.pointer (some ⟨r, 3, none⟩)), SpT.eq (.slice (some ⟨tb, 0, none⟩) n tc), SpT.eq (.pointer (some ⟨r, 0, none⟩)), SpT.eq (.pointer (some ⟨r, 0, none⟩)), SpT.eq (.pointer (some ⟨r, 4, none⟩)), SpT.eq (.slice (some ⟨px, 0, none⟩) m lc), SpT.eq (.int .i64 (k : Int)), SpT.eq (.pointer (some ⟨px, k * 2, none⟩)), SpT.eq (.pointer (some ⟨px, k * 2, none⟩)), SpT.eq (.int .i64 (x.i : Int)), SpT.eq (.pointer (some ⟨r, 0, none⟩)), SpT.eq (.pointer (some ⟨r, 0, none⟩)), SpT.eq (.pointer (some ⟨r, 4, none⟩)), SpT.eq (.slice (some ⟨px, 0, none⟩) m lc), SpT.eq (.int .i64 (k : Int)), SpT.eq (.pointer (some ⟨px, k * 2, none⟩)), SpT.eq (.pointer (some ⟨px, k * 2 + 1, none⟩)), SpT.eq (.slice x.a x.b.length x.c), SpT.eq (.pointer (some ⟨sx, x.i, none⟩)), SpT.top, SpT.eq (.pointer (some ⟨tb, x.i, none⟩)), SpT.top] (by kernel_rfl) (by kernel_rfl) (by kernel_rfl) (by kernel_rfl) ?_ ?_
          · refine stepsL_free rfl ?_ (stepsL_free rfl ?_ (stepsL_free rfl ?_ (stepsL_free rfl ?_ (stepsL_free rfl ?_ (stepsL_free rfl ?_ (stepsL_free rfl ?_ (stepsL_free rfl ?_ (stepsL_free rfl ?_ (stepsL_free rfl ?_ (stepsL_free rfl ?_ (stepsL_free rfl ?_ (stepsL_free rfl ?_ (stepsL_free rfl ?_ (stepsL_free rfl ?_ (stepsL_free rfl ?_ (stepsL_free rfl ?_ (stepsL_free rfl ?_ (stepsL_free rfl ?_ (stepsL_free rfl ?_ (stepsL_free rfl ?_ (stepsL_free rfl ?_ (stepsL_free rfl ?_ (stepsL_free rfl ?_ (stepsL_free rfl ?_ (stepsL_free rfl ?_ (stepsL_free rfl ?_ (stepsL_free rfl ?_ (stepsL_free rfl ?_ (stepsL_free rfl ?_ (stepsL_free rfl ?_ (stepsL_free rfl ?_ (stepsL_free rfl ?_ (stepsL_chain rfl (stepsL_free rfl ?_ (stepsL_chain rfl (stepsL_nil))))))))))))))))))))))))))))))))))))
            · intro ρ w' E
              have e0 : ρ (.tmp 0) = .pointer (some ⟨r, 0, none⟩) := E.out 0 rfl
              refine step_plain rfl ?_
              exact op_move (.inl rfl) e0 ⟨Below.refl _ _, rfl⟩
            · intro ρ w' E
              have e30 : ρ (.tmp 30) = .pointer (some ⟨r, 0, none⟩) := E.pre 0 rfl rfl
              refine step_plain rfl ?_
              refine op_val (v := .pointer (some ⟨r, 0, none⟩)) (w' := w') ?_ ⟨Below.refl _ _, rfl⟩
              have hcon := E.con
              clear E
              go_simp
            · intro ρ w' E
              have e31 : ρ (.tmp 31) = .pointer (some ⟨r, 0, none⟩) := E.pre 1 rfl rfl
              refine step_plain rfl ?_
              refine op_val (v := .pointer (some ⟨r, 2, none⟩)) (w' := w') ?_ ⟨Below.refl _ _, rfl⟩
              have hcon := E.con
              clear E
              go_simp
            · intro ρ w' E
              have e32 : ρ (.tmp 32) = .pointer (some ⟨r, 2, none⟩) := E.pre 2 rfl rfl
              refine step_plain rfl ?_
              refine op_val (v := .slice (some ⟨sx, 0, none⟩) n sc) (w' := w') ?_ ⟨Below.refl _ _, rfl⟩
              have hk : w'.cell? ⟨r, 2, none⟩ = some (.slice (some ⟨sx, 0, none⟩) n sc) := (World.cell?_of_block (w := wr) ((E.t.keep hob hob7).trans hob.symm)).trans c2
              have hcon := E.con
              clear E c0 c1 c2 c3 c4 m0 m1
              go_simp
            · intro ρ w' E
              have e0 : ρ (.tmp 0) = .pointer (some ⟨r, 0, none⟩) := E.out 0 rfl
              refine step_plain rfl ?_
              exact op_move (.inl rfl) e0 ⟨Below.refl _ _, rfl⟩
            · intro ρ w' E
              have e34 : ρ (.tmp 34) = .pointer (some ⟨r, 0, none⟩) := E.pre 4 rfl rfl
              refine step_plain rfl ?_
              refine op_val (v := .pointer (some ⟨r, 0, none⟩)) (w' := w') ?_ ⟨Below.refl _ _, rfl⟩
              have hcon := E.con
              clear E
              go_simp
            · intro ρ w' E
              have e35 : ρ (.tmp 35) = .pointer (some ⟨r, 0, none⟩) := E.pre 5 rfl rfl
              refine step_plain rfl ?_
              refine op_val (v := .pointer (some ⟨r, 4, none⟩)) (w' := w') ?_ ⟨Below.refl _ _, rfl⟩
              have hcon := E.con
              clear E
              go_simp
            · intro ρ w' E
              have e36 : ρ (.tmp 36) = .pointer (some ⟨r, 4, none⟩) := E.pre 6 rfl rfl
              refine step_plain rfl ?_
              refine op_val (v := .slice (some ⟨px, 0, none⟩) m lc) (w' := w') ?_ ⟨Below.refl _ _, rfl⟩
              have hk : w'.cell? ⟨r, 4, none⟩ = some (.slice (some ⟨px, 0, none⟩) m lc) := (World.cell?_of_block (w := wr) ((E.t.keep hob hob7).trans hob.symm)).trans c4
              have hcon := E.con
              clear E c0 c1 c2 c3 c4 m0 m1
              go_simp
            · intro ρ w' E
              have e3 : ρ (.tmp 3) = .int .i64 (k : Int) := E.out 3 rfl
              refine step_plain rfl ?_
              exact op_move (.inl rfl) e3 ⟨Below.refl _ _, rfl⟩
            · intro ρ w' E
              have e37 : ρ (.tmp 37) = .slice (some ⟨px, 0, none⟩) m lc := E.pre 7 rfl rfl
              have e38 : ρ (.tmp 38) = .int .i64 (k : Int) := E.pre 8 rfl rfl
              refine step_plain rfl ?_
              refine op_val (v := .pointer (some ⟨px, k * 2, none⟩)) (w' := w') ?_ ⟨Below.refl _ _, rfl⟩
              have hcon := E.con
              clear E
              go_simp
            · intro ρ w' E
              have e39 : ρ (.tmp 39) = .pointer (some ⟨px, k * 2, none⟩) := E.pre 9 rfl rfl
              refine step_plain rfl ?_
              refine op_val (v := .pointer (some ⟨px, k * 2, none⟩)) (w' := w') ?_ ⟨Below.refl _ _, rfl⟩
              have hcon := E.con
              clear E
              go_simp
            · intro ρ w' E
              have e40 : ρ (.tmp 40) = .pointer (some ⟨px, k * 2, none⟩) := E.pre 10 rfl rfl
              refine step_plain rfl ?_
              refine op_val (v := .int .i64 (x.i : Int)) (w' := w') ?_ ⟨Below.refl _ _, rfl⟩
              have hk : w'.cell? ⟨px, k * 2, none⟩ = some (.int .i64 (x.i : Int)) := (World.cell?_of_block (w := wr) ((E.t.keep hpb hpb7).trans hpb.symm)).trans m0
              have hcon := E.con
              clear E c0 c1 c2 c3 c4 m0 m1
              go_simp
            · intro ρ w' E
              have e0 : ρ (.tmp 0) = .pointer (some ⟨r, 0, none⟩) := E.out 0 rfl
              refine step_plain rfl ?_
              exact op_move (.inl rfl) e0 ⟨Below.refl _ _, rfl⟩
            · intro ρ w' E
              have e42 : ρ (.tmp 42) = .pointer (some ⟨r, 0, none⟩) := E.pre 12 rfl rfl
              refine step_plain rfl ?_
              refine op_val (v := .pointer (some ⟨r, 0, none⟩)) (w' := w') ?_ ⟨Below.refl _ _, rfl⟩
              have hcon := E.con
              clear E
              go_simp
            · intro ρ w' E
              have e43 : ρ (.tmp 43) = .pointer (some ⟨r, 0, none⟩) := E.pre 13 rfl rfl
              refine step_plain rfl ?_
              refine op_val (v := .pointer (some ⟨r, 3, none⟩)) (w' := w') ?_ ⟨Below.refl _ _, rfl⟩
              have hcon := E.con
              clear E
              go_simp
            · intro ρ w' E
              have e44 : ρ (.tmp 44) = .pointer (some ⟨r, 3, none⟩) := E.pre 14 rfl rfl
              refine step_plain rfl ?_
              refine op_val (v := .slice (some ⟨tb, 0, none⟩) n tc) (w' := w') ?_ ⟨Below.refl _ _, rfl⟩
              have hk : w'.cell? ⟨r, 3, none⟩ = some (.slice (some ⟨tb, 0, none⟩) n tc) := (World.cell?_of_block (w := wr) ((E.t.keep hob hob7).trans hob.symm)).trans c3
              have hcon := E.con
              clear E c0 c1 c2 c3 c4 m0 m1
              go_simp
            · intro ρ w' E
              have e0 : ρ (.tmp 0) = .pointer (some ⟨r, 0, none⟩) := E.out 0 rfl
              refine step_plain rfl ?_
              exact op_move (.inl rfl) e0 ⟨Below.refl _ _, rfl⟩
            · intro ρ w' E
              have e46 : ρ (.tmp 46) = .pointer (some ⟨r, 0, none⟩) := E.pre 16 rfl rfl
              refine step_plain rfl ?_
              refine op_val (v := .pointer (some ⟨r, 0, none⟩)) (w' := w') ?_ ⟨Below.refl _ _, rfl⟩
              have hcon := E.con
              clear E
              go_simp
            · intro ρ w' E
              have e47 : ρ (.tmp 47) = .pointer (some ⟨r, 0, none⟩) := E.pre 17 rfl rfl
              refine step_plain rfl ?_
              refine op_val (v := .pointer (some ⟨r, 4, none⟩)) (w' := w') ?_ ⟨Below.refl _ _, rfl⟩
              have hcon := E.con
              clear E
              go_simp
            · intro ρ w' E
              have e48 : ρ (.tmp 48) = .pointer (some ⟨r, 4, none⟩) := E.pre 18 rfl rfl
              refine step_plain rfl ?_
              refine op_val (v := .slice (some ⟨px, 0, none⟩) m lc) (w' := w') ?_ ⟨Below.refl _ _, rfl⟩
              have hk : w'.cell? ⟨r, 4, none⟩ = some (.slice (some ⟨px, 0, none⟩) m lc) := (World.cell?_of_block (w := wr) ((E.t.keep hob hob7).trans hob.symm)).trans c4
              have hcon := E.con
              clear E c0 c1 c2 c3 c4 m0 m1
              go_simp
            · intro ρ w' E
              have e3 : ρ (.tmp 3) = .int .i64 (k : Int) := E.out 3 rfl
              refine step_plain rfl ?_
              exact op_move (.inl rfl) e3 ⟨Below.refl _ _, rfl⟩
            · intro ρ w' E
              have e49 : ρ (.tmp 49) = .slice (some ⟨px, 0, none⟩) m lc := E.pre 19 rfl rfl
              have e50 : ρ (.tmp 50) = .int .i64 (k : Int) := E.pre 20 rfl rfl
              refine step_plain rfl ?_
              refine op_val (v := .pointer (some ⟨px, k * 2, none⟩)) (w' := w') ?_ ⟨Below.refl _ _, rfl⟩
              have hcon := E.con
              clear E
              go_simp
            · intro ρ w' E
              have e51 : ρ (.tmp 51) = .pointer (some ⟨px, k * 2, none⟩) := E.pre 21 rfl rfl
              refine step_plain rfl ?_
              refine op_val (v := .pointer (some ⟨px, k * 2, none⟩)) (w' := w') ?_ ⟨Below.refl _ _, rfl⟩
              have hcon := E.con
              clear E
              go_simp
            · intro ρ w' E
              have e52 : ρ (.tmp 52) = .pointer (some ⟨px, k * 2, none⟩) := E.pre 22 rfl rfl
              refine step_plain rfl ?_
              refine op_val (v := .int .i64 (x.i : Int)) (w' := w') ?_ ⟨Below.refl _ _, rfl⟩
              have hk : w'.cell? ⟨px, k * 2, none⟩ = some (.int .i64 (x.i : Int)) := (World.cell?_of_block (w := wr) ((E.t.keep hpb hpb7).trans hpb.symm)).trans m0
              have hcon := E.con
              clear E c0 c1 c2 c3 c4 m0 m1
              go_simp
            · intro ρ w' E
              have e0 : ρ (.tmp 0) = .pointer (some ⟨r, 0, none⟩) := E.out 0 rfl
              refine step_plain rfl ?_
              exact op_move (.inl rfl) e0 ⟨Below.refl _ _, rfl⟩
            · intro ρ w' E
              have e54 : ρ (.tmp 54) = .pointer (some ⟨r, 0, none⟩) := E.pre 24 rfl rfl
              refine step_plain rfl ?_
              refine op_val (v := .pointer (some ⟨r, 0, none⟩)) (w' := w') ?_ ⟨Below.refl _ _, rfl⟩
              have hcon := E.con
              clear E
              go_simp
            · intro ρ w' E
              have e55 : ρ (.tmp 55) = .pointer (some ⟨r, 0, none⟩) := E.pre 25 rfl rfl
              refine step_plain rfl ?_
              refine op_val (v := .pointer (some ⟨r, 4, none⟩)) (w' := w') ?_ ⟨Below.refl _ _, rfl⟩
              have hcon := E.con
              clear E
              go_simp
            · intro ρ w' E
              have e56 : ρ (.tmp 56) = .pointer (some ⟨r, 4, none⟩) := E.pre 26 rfl rfl
              refine step_plain rfl ?_
              refine op_val (v := .slice (some ⟨px, 0, none⟩) m lc) (w' := w') ?_ ⟨Below.refl _ _, rfl⟩
              have hk : w'.cell? ⟨r, 4, none⟩ = some (.slice (some ⟨px, 0, none⟩) m lc) := (World.cell?_of_block (w := wr) ((E.t.keep hob hob7).trans hob.symm)).trans c4
              have hcon := E.con
              clear E c0 c1 c2 c3 c4 m0 m1
              go_simp
            · intro ρ w' E
              have e3 : ρ (.tmp 3) = .int .i64 (k : Int) := E.out 3 rfl
              refine step_plain rfl ?_
              exact op_move (.inl rfl) e3 ⟨Below.refl _ _, rfl⟩
            · intro ρ w' E
              have e57 : ρ (.tmp 57) = .slice (some ⟨px, 0, none⟩) m lc := E.pre 27 rfl rfl
              have e58 : ρ (.tmp 58) = .int .i64 (k : Int) := E.pre 28 rfl rfl
              refine step_plain rfl ?_
              refine op_val (v := .pointer (some ⟨px, k * 2, none⟩)) (w' := w') ?_ ⟨Below.refl _ _, rfl⟩
              have hcon := E.con
              clear E
              go_simp
            · intro ρ w' E
              have e59 : ρ (.tmp 59) = .pointer (some ⟨px, k * 2, none⟩) := E.pre 29 rfl rfl
              refine step_plain rfl ?_
              refine op_val (v := .pointer (some ⟨px, k * 2 + 1, none⟩)) (w' := w') ?_ ⟨Below.refl _ _, rfl⟩
              have hcon := E.con
              clear E
              go_simp
            · intro ρ w' E
              have e60 : ρ (.tmp 60) = .pointer (some ⟨px, k * 2 + 1, none⟩) := E.pre 30 rfl rfl
              refine step_plain rfl ?_
              refine op_val (v := .slice x.a x.b.length x.c) (w' := w') ?_ ⟨Below.refl _ _, rfl⟩
              have hk : w'.cell? ⟨px, k * 2 + 1, none⟩ = some (.slice x.a x.b.length x.c) := (World.cell?_of_block (w := wr) ((E.t.keep hpb hpb7).trans hpb.symm)).trans m1
              have hcon := E.con
              clear E c0 c1 c2 c3 c4 m0 m1
              go_simp
            · intro ρ w' E
              have e33 : ρ (.tmp 33) = .slice (some ⟨sx, 0, none⟩) n sc := E.pre 3 rfl rfl
              have e41 : ρ (.tmp 41) = .int .i64 (x.i : Int) := E.pre 11 rfl rfl
              refine step_plain rfl ?_
              refine op_val (v := .pointer (some ⟨sx, x.i, none⟩)) (w' := w') ?_ ⟨Below.refl _ _, rfl⟩
              have hcon := E.con
              clear E
              go_simp
            · intro ρ w' E
              have e45 : ρ (.tmp 45) = .slice (some ⟨tb, 0, none⟩) n tc := E.pre 15 rfl rfl
              have e53 : ρ (.tmp 53) = .int .i64 (x.i : Int) := E.pre 23 rfl rfl
              refine step_plain rfl ?_
              refine op_val (v := .pointer (some ⟨tb, x.i, none⟩)) (w' := w') ?_ ⟨Below.refl _ _, rfl⟩
              have hcon := E.con
              clear E
              go_simp
          · intro ρ1 w1c G1 E1
            have e62 : ρ1 (.tmp 62) = .pointer (some ⟨sx, x.i, none⟩) := E1.pre 32 rfl rfl
            have e61 : ρ1 (.tmp 61) = .slice x.a x.b.length x.c := E1.pre 31 rfl rfl
            refine step_plain rfl ?_
            have hc1 := Hck.out.ext G1
            have hs1 := hc1.setSafe (y := ⟨x.a, x.c, x.b⟩) (n := x.b.length) (i := x.i) rfl (by rw [Hsk.out]; exact hxi) (Hx.out.mod (bmod G1 fun _ _ => False) fun _ _ _ h => h)
            obtain ⟨g', hg', _, _, hat, hfz⟩ := hc1.safe.at (i := x.i) (by rw [Hsk.out]; exact hxi)
            simp only [Option.some.injEq, Addr.mk.injEq, and_self, and_true] at hg'
            subst hg'
            refine op_store rfl e62 e61 rfl (hat (x.i) (by rw [List.length_map, Hsk.out]; exact hxi)) (hfz _) (by kernel_rfl) ⟨hs1.2, ?_⟩
            clear hat hfz
            intro ρ2 w2c G2 E2
            have e63 : ρ2 (.tmp 63) = .pointer (some ⟨tb, x.i, none⟩) := E2.pre 34 rfl rfl
            refine step_plain rfl ?_
            have hc2 := hs1.1.ext G2
            have hs2 := hc2.setTorn (i := x.i) false (by rw [Htk.out]; exact hxi)
            obtain ⟨g', hg', _, _, hat, hfz⟩ := hc2.torn.at (i := x.i) (by rw [Htk.out]; exact hxi)
            simp only [Option.some.injEq, Addr.mk.injEq, and_self, and_true] at hg'
            subst hg'
            refine op_store rfl e63 (E2.con _) rfl (hat (x.i) (by rw [bovs_length, Htk.out]; exact hxi)) (hfz _) (by kernel_rfl) ⟨trivial, ?_⟩
            clear hat hfz
            intro σ wF GF hκ
            simp only [upd, updL, dstsOf', elemB, List.filterMap_cons, List.filterMap_nil, Nat.reduceAdd, Nat.reduceBEq, Bool.or_false, Bool.false_or, Bool.or_true, Bool.true_or, cond_true, cond_false, Nat.zero_add]
            have HC2 := Lib.hid (hs2.1.ext GF)
            have HP2 := Lib.hid (((((Hpk.out.ext G1).rf7 hs1.2 HtR.out).ext G2).rf7 hs2.2 HtR.out).ext GF)
            have HM2 := Lib.hid (((((Hmk.out.ext G1).trans (RF7_rdf hs1.2)).ext G2).trans (RF7_rdf hs2.2)).ext GF)
            clear c0 c1 c2 c3 c4 m0 m1 hfg hlg hs1 hs2 hc1 hc2 G1 G2 GF E1 E2 hκ hob hob7 hpb7 hpb e61 e62 e63
            go_wp2_with fail
            go_roundw
            case rel =>
              refine ⟨k + 1, sk.set x.i ⟨x.a, x.c, x.b⟩, tk.set x.i false, _, rfl, by omega, by go_num, by rw [List.length_set]; exact Hsk.out, by rw [List.length_set]; exact Htk.out, HC2.out, ?_, HP2.out, HM2.out⟩
              rw [Hst.out, ← Hap.out, List.map_set]
              rfl
            case measure => simp [intOf]; omega
        · have hkm : m = k := by omega
          subst hkm
          have hap := Hap.out
          rw [List.take_of_length_le (by have := HPl.out; have := Hpm.out; omega)] at hap
          have HapF := Lib.hid hap
          have hmF := Hck.out.of_mod 4 (.slice none 0 0)
          have HCF := Lib.hid Hck.out.setNil
          have HPF := Lib.hid (Hpk.out.mod hmF (OF7_no_pow _))
          have HMF := Lib.hid (Hmk.out.trans (OF7_rdf hmF Hck.out.low))
          clear hap hmF
          go_wp2
          go_ret
          exact ⟨rfl, ⟨sa, sc, sk, tc, none, 0, [], by rw [← HapF.out]; exact HCF.out, by rw [← HapF.out], rfl⟩, HPF.out, HMF.out⟩

theorem repl_set {α : Type} (z : α) (l : List α) (k : Nat) (hk : k < l.length) : (List.replicate k z ++ l.drop k).set k z = List.replicate (k + 1) z ++ l.drop (k + 1) := by
  rw [List.set_append_right _ _ (by simp), List.length_replicate, Nat.sub_self, List.drop_eq_getElem_cons hk, List.set_cons_zero, List.replicate_succ', List.append_assoc]
  rfl
set_option maxRecDepth 100000 in
set_option maxHeartbeats 8000000 in
theorem rdk_erase (K : Nat → Prop) (B r q tb n : Nat) (d : RS) (p : PS) (w : World) (hd : RDk K B w r q tb d) (hp : RPow R B w q p) (hok : d.ok n) (hn : n ≤ 100000) (hB : max B R ≤ w.heap.size) (hm : d.loose.length ≤ 100000) (htR : tb < R)
    {E : Int} {d' : RS} (hr : d.erase p = (E, d')) :
    Calls Try.prog 66 #[.pointer (some ⟨r, 0, none⟩)] w fun e w' => e = .returned (.int .i64 E) ∧ RDk (fun b => K b ∨ w.heap.size ≤ b) B w' r q tb d' ∧ RPow R B w' q p ∧ Mod (RDF B tb) w w' := by
  have HA := Lib.hid (rdk_wake K B r q tb n d p w hd hp hok hn (by omega) hm htR)
  obtain ⟨i0, hi, hz0, hz1, hz2⟩ := info_parts info8
  have HR := Lib.hid hr
  have Hok := Lib.hid (hok.wake p)
  have HtR := Lib.hid htR
  have hsl := hok.safe
  have Hd0 : Hid (d.erase p = if p.off then (5, d) else (0, { d.wake p with safe := List.replicate n zeros256, torn := List.replicate n false, loose := [] })) := Lib.hid (by unfold RS.erase; rw [hsl])
  have Hw0 : Hid (p.off = true → d.wake p = d) := Lib.hid fun h => by unfold RS.wake; rw [if_pos (.inl h)]
  clear hd hp hok hr hm htR hsl
  generalize d.wake p = d1 at *
  go_enter Try.func66, Try.ntmps66
  go_wp2_with fail
  refine HA.out.mono ?_
  rintro e w1 ⟨rfl, hd1, hp1, hm1⟩
  have HD1 := Lib.hid hd1
  have HP1 := Lib.hid hp1
  have Hb1 := Lib.hid hm1
  obtain ⟨sa, sc, ss, tc, la, lc, ls, hc, hss, hls⟩ := hd1
  have Hc := Lib.hid hc
  have Hss := Lib.hid hss
  have Hsn := Lib.hid (show ss.length = n by rw [← Hok.out.safe, ← hss, List.length_map])
  have Htn := Lib.hid Hok.out.torn
  obtain ⟨c0, c1, c2, c3, c4, hfg, hlg⟩ := hc.cells
  obtain ⟨p0, p1, p6, hlq⟩ := rpow_cells hp1
  rw [Hsn.out] at c2
  rw [Htn.out] at c3
  clear hc hss hls hp1 HA
  cases hoff : p.off with
  | true =>
    have hR := HR.out
    rw [Hd0.out, hoff, if_pos rfl] at hR
    simp only [Prod.mk.injEq] at hR
    obtain ⟨rfl, rfl⟩ := hR
    rw [hoff] at p0
    have hw := Hw0.out hoff
    have HD2 : Hid (RDk (fun b => K b ∨ w.heap.size ≤ b) B w1 r q tb d) := Lib.hid (by rw [← hw]; exact HD1.out.mono fun _ _ h => .inl h)
    clear hoff HR Hd0 hw
    go_wp2
    go_ret
    exact ⟨rfl, HD2.out, HP1.out, Hb1.out⟩
  | false =>
    have hR := HR.out
    rw [Hd0.out, hoff, if_neg (by decide)] at hR
    simp only [Prod.mk.injEq] at hR
    obtain ⟨rfl, rfl⟩ := hR
    rw [hoff] at p0
    have HC1 := Lib.hid (Hc.out.mono (K' := fun b => K b ∨ w.heap.size ≤ b) fun _ _ h => .inl h)
    clear hoff HR Hd0 Hw0 HD1 Hc
    go_wp2_with fail
    clear p0 p1 p6 hlq
    go_loopw [3] (fun i wx => ∃ (k : Nat) (sk : List Bsl) (tk : List Bool) (wr : World), wr = wx ∧ k ≤ n ∧ i = .int .i64 (k : Int) ∧ sk.length = n ∧ tk.length = n ∧ RDkC (fun b => K b ∨ w.heap.size ≤ b) B wr r q tb d1.life sa sc sk tc tk la lc ls ∧ sk.map Bsl.l = List.replicate k zeros256 ++ d1.safe.drop k ∧ tk = List.replicate k false ++ d1.torn.drop k ∧ RPow R B wr q p ∧ Mod (RDF B tb) w wr) (fun i _ => n - (intOf i).toNat)
    case atStart => exact ⟨0, ss, d1.torn, _, rfl, by omega, rfl, Hsn.out, Htn.out, HC1.out, by rw [Hss.out]; rfl, rfl, HP1.out, Hb1.out⟩
    case round =>
      obtain ⟨k, sk, tk, wr, hwr, hk, rfl, hsk, htk, hck, hap, hat_, hpk, hmk⟩ := hrel
      subst hwr
      clear c0 c1 c2 c3 c4 hfg hlg HC1 HP1 Hb1
      have Hck := Lib.hid hck
      have Hap := Lib.hid hap
      have Hat := Lib.hid hat_
      have Hsk := Lib.hid hsk
      have Htk := Lib.hid htk
      have Hpk := Lib.hid hpk
      have Hmk := Lib.hid hmk
      obtain ⟨c0, c1, c2, c3, c4, hfg, hlg⟩ := hck.cells
      rw [hsk] at c2
      rw [htk] at c3
      clear hck hap hsk htk hpk hmk hat_
      by_cases hlt : k < n
      · have hxi : k < n := hlt
        obtain ⟨sx, hsx, hBsx, hlsx, _, _⟩ := Hck.out.safe.at (i := k) (by rw [Hsk.out]; exact hxi)
        subst hsx
        have hob := Hck.out.obj
        have hob7 := no_rf7_disk B tb r
        go_wp2_with fail
        refine wp_region_chainL (by kernel_rfl) [12, 14] (Mod.rel (RF7 B tb)) [SpT.eq (.pointer (some ⟨r, 0, none⟩)), SpT.eq (.pointer (some ⟨r, 0, none⟩)), SpT.eq (.pointer (some ⟨r, 2, none⟩)), SpT.eq (.slice (some ⟨sx, 0, none⟩) n sc), SpT.eq (.int .i64 (k : Int)), SpT.eq (.pointer (some ⟨r, 0, none⟩)), SpT.eq (.pointer (some ⟨r, 0, none⟩)), SpT.eq (.pointer (some ⟨r, 3, none⟩)), SpT.eq (.slice (some ⟨tb, 0, none⟩) n tc), SpT.eq (.int .i64 (k : Int)), ⟨fun w v => ∃ x, v = .slice (some ⟨x, 0, none⟩) 256 256 ∧ wr.heap.size ≤ x ∧ Own w wr.heap.size 5 1 (some ⟨x, 0, none⟩) 256 256 (bvs (zb 256)), fun _ _ _ ⟨x, h, hx, ho⟩ ht => ⟨x, h, hx, ho.mod ht fun _ _ _ hf => by rcases hf.2 with h | ⟨_, h⟩ <;> revert h <;> decide⟩⟩, SpT.eq (.pointer (some ⟨sx, k, none⟩)), SpT.top, SpT.eq (.pointer (some ⟨tb, k, none⟩)), SpT.top] (by kernel_rfl) (by kernel_rfl) (by kernel_rfl) (by kernel_rfl) ?_ ?_
        · refine stepsL_free rfl ?_ (stepsL_free rfl ?_ (stepsL_free rfl ?_ (stepsL_free rfl ?_ (stepsL_free rfl ?_ (stepsL_free rfl ?_ (stepsL_free rfl ?_ (stepsL_free rfl ?_ (stepsL_free rfl ?_ (stepsL_free rfl ?_ (stepsL_free rfl ?_ (stepsL_free rfl ?_ (stepsL_chain rfl (stepsL_free rfl ?_ (stepsL_chain rfl (stepsL_nil)))))))))))))))
          · intro ρ w' E
            have e0 : ρ (.tmp 0) = .pointer (some ⟨r, 0, none⟩) := E.out 0 rfl
            refine step_plain rfl ?_
            exact op_move (.inl rfl) e0 ⟨Below.refl _ _, rfl⟩
          · intro ρ w' E
            have e22 : ρ (.tmp 22) = .pointer (some ⟨r, 0, none⟩) := E.pre 0 rfl rfl
            refine step_plain rfl ?_
            refine op_val (v := .pointer (some ⟨r, 0, none⟩)) (w' := w') ?_ ⟨Below.refl _ _, rfl⟩
            have hcon := E.con
            clear E
            go_simp
          · intro ρ w' E
            have e23 : ρ (.tmp 23) = .pointer (some ⟨r, 0, none⟩) := E.pre 1 rfl rfl
            refine step_plain rfl ?_
            refine op_val (v := .pointer (some ⟨r, 2, none⟩)) (w' := w') ?_ ⟨Below.refl _ _, rfl⟩
            have hcon := E.con
            clear E
            go_simp
          · intro ρ w' E
            have e24 : ρ (.tmp 24) = .pointer (some ⟨r, 2, none⟩) := E.pre 2 rfl rfl
            refine step_plain rfl ?_
            refine op_val (v := .slice (some ⟨sx, 0, none⟩) n sc) (w' := w') ?_ ⟨Below.refl _ _, rfl⟩
            have hk : w'.cell? ⟨r, 2, none⟩ = some (.slice (some ⟨sx, 0, none⟩) n sc) := (World.cell?_of_block (w := wr) ((E.t.keep hob hob7).trans hob.symm)).trans c2
            have hcon := E.con
            clear E c0 c1 c2 c3 c4
            go_simp
          · intro ρ w' E
            have e3 : ρ (.tmp 3) = .int .i64 (k : Int) := E.out 3 rfl
            refine step_plain rfl ?_
            exact op_move (.inl rfl) e3 ⟨Below.refl _ _, rfl⟩
          · intro ρ w' E
            have e0 : ρ (.tmp 0) = .pointer (some ⟨r, 0, none⟩) := E.out 0 rfl
            refine step_plain rfl ?_
            exact op_move (.inl rfl) e0 ⟨Below.refl _ _, rfl⟩
          · intro ρ w' E
            have e27 : ρ (.tmp 27) = .pointer (some ⟨r, 0, none⟩) := E.pre 5 rfl rfl
            refine step_plain rfl ?_
            refine op_val (v := .pointer (some ⟨r, 0, none⟩)) (w' := w') ?_ ⟨Below.refl _ _, rfl⟩
            have hcon := E.con
            clear E
            go_simp
          · intro ρ w' E
            have e28 : ρ (.tmp 28) = .pointer (some ⟨r, 0, none⟩) := E.pre 6 rfl rfl
            refine step_plain rfl ?_
            refine op_val (v := .pointer (some ⟨r, 3, none⟩)) (w' := w') ?_ ⟨Below.refl _ _, rfl⟩
            have hcon := E.con
            clear E
            go_simp
          · intro ρ w' E
            have e29 : ρ (.tmp 29) = .pointer (some ⟨r, 3, none⟩) := E.pre 7 rfl rfl
            refine step_plain rfl ?_
            refine op_val (v := .slice (some ⟨tb, 0, none⟩) n tc) (w' := w') ?_ ⟨Below.refl _ _, rfl⟩
            have hk : w'.cell? ⟨r, 3, none⟩ = some (.slice (some ⟨tb, 0, none⟩) n tc) := (World.cell?_of_block (w := wr) ((E.t.keep hob hob7).trans hob.symm)).trans c3
            have hcon := E.con
            clear E c0 c1 c2 c3 c4
            go_simp
          · intro ρ w' E
            have e3 : ρ (.tmp 3) = .int .i64 (k : Int) := E.out 3 rfl
            refine step_plain rfl ?_
            exact op_move (.inl rfl) e3 ⟨Below.refl _ _, rfl⟩
          · intro ρ w' E
            refine step_plain rfl ?_
            refine op_makeF rfl 5 i0 (.int .u8 0) u8c 1 (fun _ => rfl) (by decide) 0#8 rfl Try.underlying50 hi hz0 hz1 256 (E.con _) (E.con _) (by rw [hz2]; decide) (by unfold maxLen; decide) ?_
            intro wm hom hbm
            rw [flt_u8] at hom
            exact ⟨hbm, _, rfl, E.t.size, hom.mono E.t.size⟩
          · intro ρ w' E
            have e25 : ρ (.tmp 25) = .slice (some ⟨sx, 0, none⟩) n sc := E.pre 3 rfl rfl
            have e26 : ρ (.tmp 26) = .int .i64 (k : Int) := E.pre 4 rfl rfl
            refine step_plain rfl ?_
            refine op_val (v := .pointer (some ⟨sx, k, none⟩)) (w' := w') ?_ ⟨Below.refl _ _, rfl⟩
            have hcon := E.con
            clear E
            go_simp
          · intro ρ w' E
            have e30 : ρ (.tmp 30) = .slice (some ⟨tb, 0, none⟩) n tc := E.pre 8 rfl rfl
            have e31 : ρ (.tmp 31) = .int .i64 (k : Int) := E.pre 9 rfl rfl
            refine step_plain rfl ?_
            refine op_val (v := .pointer (some ⟨tb, k, none⟩)) (w' := w') ?_ ⟨Below.refl _ _, rfl⟩
            have hcon := E.con
            clear E
            go_simp
        · intro ρ1 w1c G1 E1
          have e33 : ρ1 (.tmp 33) = .pointer (some ⟨sx, k, none⟩) := E1.pre 11 rfl rfl
          have p32 : (fun w v => ∃ x, v = .slice (some ⟨x, 0, none⟩) 256 256 ∧ wr.heap.size ≤ x ∧ Own w wr.heap.size 5 1 (some ⟨x, 0, none⟩) 256 256 (bvs (zb 256))) w1c (ρ1 (.tmp 32)) := E1.pre 10 rfl rfl
          refine step_plain rfl ?_
          obtain ⟨x1, e32, hx1, ho1⟩ := p32
          have hc1 := (Hck.out.ext G1).mono (K' := fun b => K b ∨ w.heap.size ≤ b) fun _ _ h => h
          have hs1 := hc1.setSafe (y := ⟨some ⟨x1, 0, none⟩, 256, zb 256⟩) (n := 256) (i := k) rfl (by rw [Hsk.out]; exact hxi) (Held.of ho1 rfl fun b hb => .inr (Nat.le_trans Hmk.out.size hb))
          obtain ⟨g', hg', _, _, hat, hfz⟩ := hc1.safe.at (i := k) (by rw [Hsk.out]; exact hxi)
          simp only [Option.some.injEq, Addr.mk.injEq, and_self, and_true] at hg'
          subst hg'
          refine op_store rfl e33 e32 rfl (hat (k) (by rw [List.length_map, Hsk.out]; exact hxi)) (hfz _) (by kernel_rfl) ⟨hs1.2, ?_⟩
          clear hat hfz
          intro ρ2 w2c G2 E2
          have e34 : ρ2 (.tmp 34) = .pointer (some ⟨tb, k, none⟩) := E2.pre 13 rfl rfl
          refine step_plain rfl ?_
          have hc2 := hs1.1.ext G2
          have hs2 := hc2.setTorn (i := k) false (by rw [Htk.out]; exact hxi)
          obtain ⟨g', hg', _, _, hat, hfz⟩ := hc2.torn.at (i := k) (by rw [Htk.out]; exact hxi)
          simp only [Option.some.injEq, Addr.mk.injEq, and_self, and_true] at hg'
          subst hg'
          refine op_store rfl e34 (E2.con _) rfl (hat (k) (by rw [bovs_length, Htk.out]; exact hxi)) (hfz _) (by kernel_rfl) ⟨trivial, ?_⟩
          clear hat hfz
          intro σ wF GF hκ
          simp only [upd, updL, dstsOf', elemB, List.filterMap_cons, List.filterMap_nil, Nat.reduceAdd, Nat.reduceBEq, Bool.or_false, Bool.false_or, Bool.or_true, Bool.true_or, cond_true, cond_false, Nat.zero_add]
          have HC2 := Lib.hid (hs2.1.ext GF)
          have HP2 := Lib.hid (((((Hpk.out.ext G1).rf7 hs1.2 HtR.out).ext G2).rf7 hs2.2 HtR.out).ext GF)
          have HM2 := Lib.hid (((((Hmk.out.ext G1).trans (RF7_rdf hs1.2)).ext G2).trans (RF7_rdf hs2.2)).ext GF)
          have hsF : (sk.set k ⟨some ⟨x1, 0, none⟩, 256, zb 256⟩).map Bsl.l = List.replicate (k + 1) zeros256 ++ d1.safe.drop (k + 1) := by
            rw [List.map_set, Hap.out]
            exact repl_set zeros256 d1.safe k (by rw [Hok.out.safe]; exact hxi)
          have HsF := Lib.hid hsF
          have HtF : Hid (tk.set k false = List.replicate (k + 1) false ++ d1.torn.drop (k + 1)) := Lib.hid (by rw [Hat.out]; exact repl_set false d1.torn k (by rw [Hok.out.torn]; exact hxi))
          clear c0 c1 c2 c3 c4 hfg hlg hs1 hs2 hc1 hc2 G1 G2 GF E1 E2 hκ hob hob7 e32 e33 e34 ho1 hx1 hsF
          go_wp2_with fail
          go_roundw
          case rel => exact ⟨k + 1, sk.set k ⟨some ⟨x1, 0, none⟩, 256, zb 256⟩, tk.set k false, _, rfl, by omega, by go_num, by rw [List.length_set]; exact Hsk.out, by rw [List.length_set]; exact Htk.out, HC2.out, HsF.out, HtF.out, HP2.out, HM2.out⟩
          case measure => simp [intOf]; omega
      · have hkm : n = k := by omega
        subst hkm
        have HapF : Hid (sk.map Bsl.l = List.replicate n zeros256) := Lib.hid (by rw [Hap.out, List.drop_eq_nil_of_le (by rw [Hok.out.safe]; exact Nat.le_refl _), List.append_nil])
        have hatF : tk = List.replicate n false := by rw [Hat.out, List.drop_eq_nil_of_le (by rw [Hok.out.torn]; exact Nat.le_refl _), List.append_nil]
        have hmF := Hck.out.of_mod 4 (.slice none 0 0)
        have HCF := Lib.hid Hck.out.setNil
        rw [hatF] at HCF
        have HPF := Lib.hid (Hpk.out.mod hmF (OF7_no_pow _))
        have HMF := Lib.hid (Hmk.out.trans (OF7_rdf hmF Hck.out.low))
        clear hmF hatF
        go_wp2
        go_ret
        exact ⟨rfl, ⟨sa, sc, sk, tc, none, 0, [], HCF.out, HapF.out, rfl⟩, HPF.out, HMF.out⟩
end Go.Proofs.Ytclkkhpnnbkfmaa
