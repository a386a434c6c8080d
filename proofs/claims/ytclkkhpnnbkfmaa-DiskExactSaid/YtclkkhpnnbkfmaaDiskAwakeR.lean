/- disk.awake: behind a cut what was not safe is kept, or not. -/
import Derived.Test.YtclkkhpnnbkfmaaDiskAtR
import Derived.Test.YtclkkhpnnbkfmaaPowWakesR
import Derived.Test.YtclkkhpnnbkfmaaRegionLast
import Derived.Test.YtclkkhpnnbkfmaaRegionChainL
namespace Go.Proofs.Ytclkkhpnnbkfmaa
open Go.RowKit
variable {R : Nat}

theorem infoSector : (Try.prog.info? 167).map (fun i => (i.zero, i.size, i.bytes)) = some (some (.agg #[.slice none 0 0, .bool false]), 2, 32) := by kernel_rfl
theorem infoWrite : (Try.prog.info? 172).map (fun i => (i.zero, i.size, i.bytes)) = some (some (.agg #[.int .i64 0, .slice none 0 0]), 2, 32) := by kernel_rfl

set_option maxHeartbeats 400000 in
theorem clone_secs (a : Option Addr) (c n : Nat) (l : List SecV) (w : World) (hs : Src w a (svs l)) (hn : n = l.length) (hl : n ≤ 100000) :
    Calls Try.prog 107 #[.slice a n c] w fun e w' => ∃ a' c', e = .returned (.slice a' n c') ∧ Own w' w.heap.size 167 2 a' n c' (svs l) ∧ Below w.heap.size w w' := by
  subst hn
  obtain ⟨i0, hi, hz0, hz1, hz2⟩ := info_parts infoSector
  go_enter Try.func107, Try.ntmps107
  have hnil := fun (wx : World) (aa : Option Addr) (n cc : Nat) => Lib.run_eql_slice_nil (P := Try.prog) wx 158 167 aa n cc 0 0 Try.underlying158
  cases a with
  | none =>
    have h0 : l = [] := by
      rcases hs with h | ⟨b, o, cs, T, m, ha, _⟩
      · have := congrArg List.length h
        rw [flt_length SecV.len, List.length_nil] at this
        exact List.eq_nil_of_length_eq_zero (by omega)
      · cases ha
    subst h0
    go_wp2
    go_ret
    exact ⟨none, 0, rfl, Own.nil _ _ _ _ _, Below.refl _ _⟩
  | some ad =>
    go_wp2_with (refine wpList_app rfl (.tmp 5) (.tmp 6) 158 rfl w.heap.size 167 i0 (.agg #[.slice none 0 0, .bool false]) 2 32 Try.underlying158 hi hz0 hz1 hz2 rfl (by decide) (some ⟨w.heap.size, 0, none⟩) 0 0 [] rfl (Own.nil _ _ _ _ _) (some ad) l.length c (svs l) rfl (flt_length SecV.len l) (hs.ext (ext_alloc w _)) (flt_one SecV.one l) (by unfold maxLen; omega) (by omega) (by simp) ?_; simp only [Nat.zero_add, List.nil_append]; intro a' c' w' hown hb)
    go_ret
    exact ⟨a', c', rfl, hown, (ext_alloc w _).trans hb⟩

theorem applyP_take_succ (p : PS) (l : List (Nat × List Byte)) (s : List Sec) (k : Nat) (h : k < l.length) : applyP p 0 (l.take (k + 1)) s =
    (if (k : Int) = p.torn then (applyP p 0 (l.take k) s).set l[k].1 ⟨[], true⟩ else if p.kept (k : Int) then (applyP p 0 (l.take k) s).set l[k].1 ⟨l[k].2, false⟩ else applyP p 0 (l.take k) s) := by
  rw [take_succ_list l k h, applyP_snoc]
  simp only [List.length_take, Nat.min_eq_left (Nat.le_of_lt h), Nat.zero_add]

set_option maxRecDepth 100000 in
set_option maxHeartbeats 4000000 in
theorem awake_slow (K : Nat → Prop) (B g pg n : Nat) (d : DS) (p : PS) (w : World) (hd : DiskAt K B w g pg d) (hp : Pow R B w pg p) (hok : d.ok n) (hn : n ≤ 100000) (hnpos : 0 < n) (hB : B ≤ w.heap.size) (hm : d.pend.length ≤ 100000) (hoff : p.off = false) (hl : (d.life == p.life) = false) :
    Calls Try.prog 105 #[.pointer (some ⟨g, 0, none⟩)] w fun e w' => e = .returned (.bool true) ∧ DiskAt K B w' g pg ⟨p.life, applyP p 0 d.pend d.safe, applyP p 0 d.pend d.safe, []⟩ ∧ Pow R B w' pg p ∧ Mod (DF B) w w' := by
  obtain ⟨sa, sc, ss, na, nc, ns, pa, pc, ps, hc, hss, hns, hps⟩ := hd
  have hsn : ss.length = n := by rw [← hok.safe, ← hss, List.length_map]
  have HPl := Lib.hid (show ps.length = d.pend.length by rw [← hps, List.length_map])
  generalize hm0 : ps.length = m at *
  have HM0 := Lib.hid hm0
  have hm' : m ≤ 100000 := by have := HPl.out; omega
  have Hp := Lib.hid hp
  have Hc := Lib.hid hc
  have Hok := Lib.hid hok
  have Hss := Lib.hid hss
  have Hns := Lib.hid hns
  have Hps := Lib.hid hps
  have Hsn := Lib.hid hsn
  have Hm := Lib.hid hm
  obtain ⟨c0, c1, c2, c3, c4, hfg, hlg⟩ := hc.cells
  rw [hsn] at c2
  rw [hm0] at c4
  clear hc hss hns hps hok hsn hm hm0
  go_enter Try.func105, Try.ntmps105
  go_wp2_with fail
  refine (off_at Hp.out hoff).mono ?_
  rintro e w' ⟨rfl, rfl⟩
  clear hp hoff
  go_wp2_with fail
  refine wp_region_sp (by kernel_rfl) [Sp.eq (.pointer (some ⟨g, 0, none⟩)), Sp.eq (.pointer (some ⟨g, 0, none⟩)), Sp.eq (.pointer (some ⟨g, 1, none⟩)), Sp.eq (.int .i64 d.life), Sp.eq (.pointer (some ⟨g, 0, none⟩)), Sp.eq (.pointer (some ⟨g, 0, none⟩)), Sp.eq (.pointer (some ⟨g, 0, none⟩)), Sp.eq (.pointer (some ⟨pg, 0, none⟩)), Sp.eq (.int .i64 p.life), Sp.eq (.bool false)] (by kernel_rfl) ?_ ?_
  · refine stepsOk_cons ?_ (stepsOk_cons ?_ (stepsOk_cons ?_ (stepsOk_cons ?_ (stepsOk_cons ?_ (stepsOk_cons ?_ (stepsOk_cons ?_ (stepsOk_cons ?_ (stepsOk_cons ?_ (stepsOk_cons ?_ (stepsOk_nil))))))))))
    · intro ρ w' E
      have e0 : ρ (.tmp 0) = .pointer (some ⟨g, 0, none⟩) := E.out 0 rfl
      refine step_plain rfl ?_
      exact op_move (.inl rfl) e0 ⟨Below.refl _ _, rfl⟩
    · intro ρ w' E
      have e10 : ρ (.tmp 10) = .pointer (some ⟨g, 0, none⟩) := E.pre 0 rfl
      refine step_plain rfl ?_
      refine op_val (v := .pointer (some ⟨g, 0, none⟩)) (w' := w') ?_ ⟨Below.refl _ _, rfl⟩
      have hcon := E.con
      clear E
      go_simp
    · intro ρ w' E
      have e11 : ρ (.tmp 11) = .pointer (some ⟨g, 0, none⟩) := E.pre 1 rfl
      refine step_plain rfl ?_
      refine op_val (v := .pointer (some ⟨g, 1, none⟩)) (w' := w') ?_ ⟨Below.refl _ _, rfl⟩
      have hcon := E.con
      clear E
      go_simp
    · intro ρ w' E
      have e12 : ρ (.tmp 12) = .pointer (some ⟨g, 1, none⟩) := E.pre 2 rfl
      refine step_plain rfl ?_
      refine op_val (v := .int .i64 d.life) (w' := w') ?_ ⟨Below.refl _ _, rfl⟩
      have hk := (World.cell?_of_block (w := w) (E.below.block _ hlg)).trans c1
      have hcon := E.con
      clear E c0 c1 c2 c3 c4
      go_simp
    · intro ρ w' E
      have e0 : ρ (.tmp 0) = .pointer (some ⟨g, 0, none⟩) := E.out 0 rfl
      refine step_plain rfl ?_
      exact op_move (.inl rfl) e0 ⟨Below.refl _ _, rfl⟩
    · intro ρ w' E
      have e14 : ρ (.tmp 14) = .pointer (some ⟨g, 0, none⟩) := E.pre 4 rfl
      refine step_plain rfl ?_
      refine op_val (v := .pointer (some ⟨g, 0, none⟩)) (w' := w') ?_ ⟨Below.refl _ _, rfl⟩
      have hcon := E.con
      clear E
      go_simp
    · intro ρ w' E
      have e15 : ρ (.tmp 15) = .pointer (some ⟨g, 0, none⟩) := E.pre 5 rfl
      refine step_plain rfl ?_
      refine op_val (v := .pointer (some ⟨g, 0, none⟩)) (w' := w') ?_ ⟨Below.refl _ _, rfl⟩
      have hcon := E.con
      clear E
      go_simp
    · intro ρ w' E
      have e16 : ρ (.tmp 16) = .pointer (some ⟨g, 0, none⟩) := E.pre 6 rfl
      refine step_plain rfl ?_
      refine op_val (v := .pointer (some ⟨pg, 0, none⟩)) (w' := w') ?_ ⟨Below.refl _ _, rfl⟩
      have hk := (World.cell?_of_block (w := w) (E.below.block _ hlg)).trans c0
      have hcon := E.con
      clear E c0 c1 c2 c3 c4
      go_simp
    · intro ρ w' E
      have e17 : ρ (.tmp 17) = .pointer (some ⟨pg, 0, none⟩) := E.pre 7 rfl
      refine step_plain rfl ?_
      refine op_call (f := 103) (args := #[.pointer (some ⟨pg, 0, none⟩)]) (w' := w') (by have hcon := E.con; have hfn := E.fn; clear E; go_simp) ?_
      refine (life_at (Hp.out.ext E.below) rfl).mono ?_
      rintro e w2 ⟨rfl, rfl⟩
      exact ⟨_, rfl, Below.refl _ _, rfl⟩
    · intro ρ w' E
      have e13 : ρ (.tmp 13) = .int .i64 d.life := E.pre 3 rfl
      have e18 : ρ (.tmp 18) = .int .i64 p.life := E.pre 8 rfl
      refine step_plain rfl ?_
      refine op_val (v := .bool false) (w' := w') ?_ ⟨Below.refl _ _, rfl⟩
      have hcon := E.con
      clear E
      go_simp
  · intro σ w0 hb0 hall
    have h19 : σ 19 = .bool false := by obtain ⟨_, _, _, _, _, _, _, _, _, h, _⟩ := hall; exact h
    clear hall c0 c1 c2 c3 c4
    simp only [upd, updL, dstsOf', elemB, List.filterMap_cons, List.filterMap_nil, Nat.reduceAdd, Nat.reduceBEq, Bool.or_false, Bool.false_or, Bool.or_true, Bool.true_or, cond_true, cond_false, Nat.zero_add, h19]
    have Hc0 := Lib.hid (Hc.out.ext hb0)
    have Hp0 := Lib.hid (Hp.out.ext hb0)
    have hB0 : B ≤ w0.heap.size := Nat.le_trans hB hb0.size
    have Hb0 := Lib.hid (bmod hb0 (DF B))
    obtain ⟨c0, c1, c2, c3, c4, hfg, hlg⟩ := Hc0.out.cells
    rw [Hsn.out] at c2
    rw [HM0.out] at c4
    clear hb0 h19
    go_wp2_with fail
    go_loopw [25] (fun i wr => ∃ (k : Nat) (sk : List SecV), k ≤ m ∧ i = .int .i64 (k : Int) ∧ sk.length = n ∧ DiskC K B wr g pg d.life sa sc sk na nc ns pa pc ps ∧ sk.map (·.s) = applyP p 0 (d.pend.take k) d.safe ∧ Pow R B wr pg p ∧ Mod (DF B) w wr ∧ B ≤ wr.heap.size) (fun i _ => m - (intOf i).toNat)
    case atStart => exact ⟨0, ss, by omega, rfl, Hsn.out, Hc0.out, Hss.out, Hp0.out, Hb0.out, hB0⟩
    case round =>
      rename_i wr
      obtain ⟨k, sk, hk, rfl, hsk, hck, hap, hpk, hmk, hBk⟩ := hrel
      clear c0 c1 c2 c3 c4 hfg hlg
      have Hck := Lib.hid hck
      have Hap := Lib.hid hap
      have Hsk := Lib.hid hsk
      have Hpk := Lib.hid hpk
      have Hmk := Lib.hid hmk
      obtain ⟨c0, c1, c2, c3, c4, hfg, hlg⟩ := hck.cells
      rw [hsk] at c2
      rw [HM0.out] at c4
      clear hck hap hsk hpk hmk
      by_cases hlt : k < m
      · have hkp : k < ps.length := by have := HM0.out; omega
        obtain ⟨px, rfl, hpx, hpxl, hat, hfp⟩ := Hck.out.pend.elem WrV.len (by omega) hkp
        have m0 : wr.cell? ⟨px, k * 2, none⟩ = some (.int .i64 (ps[k].i : Int)) := hat 0 _ rfl
        have m1 : wr.cell? ⟨px, k * 2 + 1, none⟩ = some (.slice ps[k].a ps[k].b.length ps[k].c) := hat 1 _ rfl
        have hx := Hck.out.wrs _ (List.getElem_mem hkp)
        have Htk := Lib.hid (applyP_take_succ p d.pend d.safe k (by have := HPl.out; omega))
        have hdk : d.pend[k]'(by have := HPl.out; omega) = ps[k].pl := by simp [← Hps.out]
        rw [hdk] at Htk
        have hxn := Hok.out.pend ps[k].pl (by rw [← Hps.out]; exact List.mem_map.2 ⟨_, List.getElem_mem hkp, rfl⟩)
        generalize ps[k] = x at *
        clear hat hdk
        have Hx := Lib.hid hx
        have Hxn := Lib.hid hxn
        clear hx hxn
        have hput := setRow_heap (wr.alloc (.cells #[.int .i64 0, .slice none 0 0] 172)) wr.heap.size _ #[.int .i64 (x.i : Int), .slice x.a x.b.length x.c] _ _ (heap_alloc_new wr _)
        have hbp : Below wr.heap.size wr ((wr.alloc (.cells #[.int .i64 0, .slice none 0 0] 172)).setRow wr.heap.size #[.int .i64 (x.i : Int), .slice x.a x.b.length x.c]) := bsetRow (ext_alloc wr _) (Nat.le_refl _) _
        have q0 := (World.cell?_of_block (w := wr) (hbp.block g hlg)).trans c0
        go_wp2_with (refine wpList_store_row rfl rfl 172 (.tmp 4) (.tmp 29) rfl wr.heap.size rfl 172 #[.int .i64 0, .slice none 0 0] #[.int .i64 (x.i : Int), .slice x.a x.b.length x.c] rfl (heap_alloc_new wr _) rfl (by kernel_rfl) (by simp [Value.oneCell']) ?_)
        generalize hws : World.setRow _ _ _ = w1 at *
        clear hws
        have Hc1 := Lib.hid (Hck.out.ext hbp)
        have Hp1 := Lib.hid (Hpk.out.ext hbp)
        have Hb1 := Lib.hid (Hmk.out.ext hbp)
        have hB1 : B ≤ w1.heap.size := Nat.le_trans hBk hbp.size
        have Hb01 := Lib.hid hbp
        clear hbp c0 c1 c2 c3 c4 hfg hlg m0 m1 q0
        obtain ⟨sx, hsx, hBsx, _, _, _⟩ := Hc1.out.safe.elem SecV.len (by omega) (i := x.i) (by rw [Hsk.out]; exact Hxn.out.1)
        subst hsx
        have hxi : x.i < n := Hxn.out.1
        have Hb256 := Lib.hid Hxn.out.2
        obtain ⟨c0, c1, c2, c3, c4, hfg, hlg⟩ := Hc1.out.cells
        rw [Hsk.out] at c2
        rw [HM0.out] at c4
        have hlm := heap_lt hput
        have m0 : w1.cell? ⟨wr.heap.size, 0, none⟩ = some (.int .i64 (x.i : Int)) := cell_of_row w1 _ 0 _ _ _ hput
        have m1 : w1.cell? ⟨wr.heap.size, 1, none⟩ = some (.slice x.a x.b.length x.c) := cell_of_row w1 _ 1 _ _ _ hput
        clear hput
        by_cases hkt : (k : Int) = p.torn
        · have ht := Htk.out
          rw [if_pos hkt] at ht
          have Ht := Lib.hid ht
          have hkt' : ((k : Int) == p.torn) = true := by simpa using hkt
          clear ht Htk hkt
          refine (torn_at Hp1.out rfl).mono ?_
          rintro e w2 ⟨rfl, rfl⟩
          go_wp2_with fail
          refine wp_region_last2 _ _ (by simp only [lastSplit, Option.map_some]; rfl) (by kernel_rfl) [Sp.eq (.pointer (some ⟨g, 0, none⟩)), Sp.eq (.pointer (some ⟨g, 0, none⟩)), Sp.eq (.pointer (some ⟨g, 2, none⟩)), Sp.eq (.slice (some ⟨sx, 0, none⟩) n sc), Sp.eq (.pointer (some ⟨wr.heap.size, 0, none⟩)), Sp.eq (.int .i64 (x.i : Int)), Sp.eq (.agg #[.slice none 0 0, .bool true]), Sp.eq (.pointer (some ⟨sx, x.i * 2, none⟩))] (by kernel_rfl) (by kernel_rfl) ?_ ?_
          · refine stepsOk_cons ?_ (stepsOk_cons ?_ (stepsOk_cons ?_ (stepsOk_cons ?_ (stepsOk_cons ?_ (stepsOk_cons ?_ (stepsOk_cons ?_ (stepsOk_cons ?_ (stepsOk_nil))))))))
            · intro ρ w' E
              have e0 : ρ (.tmp 0) = .pointer (some ⟨g, 0, none⟩) := E.out 0 rfl
              refine step_plain rfl ?_
              exact op_move (.inl rfl) e0 ⟨Below.refl _ _, rfl⟩
            · intro ρ w' E
              have e38 : ρ (.tmp 38) = .pointer (some ⟨g, 0, none⟩) := E.pre 0 rfl
              refine step_plain rfl ?_
              refine op_val (v := .pointer (some ⟨g, 0, none⟩)) (w' := w') ?_ ⟨Below.refl _ _, rfl⟩
              have hcon := E.con
              clear E
              go_simp
            · intro ρ w' E
              have e39 : ρ (.tmp 39) = .pointer (some ⟨g, 0, none⟩) := E.pre 1 rfl
              refine step_plain rfl ?_
              refine op_val (v := .pointer (some ⟨g, 2, none⟩)) (w' := w') ?_ ⟨Below.refl _ _, rfl⟩
              have hcon := E.con
              clear E
              go_simp
            · intro ρ w' E
              have e40 : ρ (.tmp 40) = .pointer (some ⟨g, 2, none⟩) := E.pre 2 rfl
              refine step_plain rfl ?_
              refine op_val (v := .slice (some ⟨sx, 0, none⟩) n sc) (w' := w') ?_ ⟨Below.refl _ _, rfl⟩
              have hk := (World.cell?_of_block (w := w1) (E.below.block _ hlg)).trans c2
              have hcon := E.con
              clear E c0 c1 c2 c3 c4 m0 m1
              go_simp
            · intro ρ w' E
              have e4 : ρ (.tmp 4) = .pointer (some ⟨wr.heap.size, 0, none⟩) := E.out 4 rfl
              refine step_plain rfl ?_
              refine op_val (v := .pointer (some ⟨wr.heap.size, 0, none⟩)) (w' := w') ?_ ⟨Below.refl _ _, rfl⟩
              have hcon := E.con
              clear E
              go_simp
            · intro ρ w' E
              have e42 : ρ (.tmp 42) = .pointer (some ⟨wr.heap.size, 0, none⟩) := E.pre 4 rfl
              refine step_plain rfl ?_
              refine op_val (v := .int .i64 (x.i : Int)) (w' := w') ?_ ⟨Below.refl _ _, rfl⟩
              have hk := (World.cell?_of_block (w := w1) (E.below.block _ hlm)).trans m0
              have hcon := E.con
              clear E c0 c1 c2 c3 c4 m0 m1
              go_simp
            · intro ρ w' E
              refine step_plain rfl ?_
              refine op_val (v := .agg #[.slice none 0 0, .bool true]) (w' := w') ?_ ⟨Below.refl _ _, rfl⟩
              have hcon := E.con
              clear E
              go_simp
            · intro ρ w' E
              have e41 : ρ (.tmp 41) = .slice (some ⟨sx, 0, none⟩) n sc := E.pre 3 rfl
              have e43 : ρ (.tmp 43) = .int .i64 (x.i : Int) := E.pre 5 rfl
              refine step_plain rfl ?_
              refine op_val (v := .pointer (some ⟨sx, x.i * 2, none⟩)) (w' := w') ?_ ⟨Below.refl _ _, rfl⟩
              have hcon := E.con
              clear E
              go_simp
          · intro σ w2 hb12 hall
            obtain ⟨_, _, _, _, _, _, h44, h45, _⟩ := hall
            have h44 : σ 44 = .agg #[.slice none 0 0, .bool true] := h44
            have h45 : σ 45 = .pointer (some ⟨sx, x.i * 2, none⟩) := h45
            simp only [upd, updL, dstsOf', elemB, List.filterMap_cons, List.filterMap_nil, Nat.reduceAdd, Nat.reduceBEq, Bool.or_false, Bool.false_or, Bool.or_true, Bool.true_or, cond_true, cond_false, Nat.zero_add, h44, h45]
            have hown := Hc1.out.safe.ext hb12
            clear c0 c1 c2 c3 c4 m0 m1 hfg hlg hlm
            go_wp2_with (refine wpList_store_elem rfl rfl 167 (.tmp 45) (.tmp 44) rfl SecV.cells 2 SecV.len (by decide) hown x.i ⟨none, 0, ⟨[], true⟩⟩ (by rw [Hsk.out]; exact hxi) rfl rfl (by kernel_rfl) (SecV.one _) ?_; intro w3 ho3 hbe3 hot3 hm3 hz3)
            have hm3 := hm3 (SF sx) ⟨rfl, rfl⟩
            have Hc3 := Lib.hid ((Hc1.out.ext hb12).putSafe hm3 ho3 (Held.nil _ _ _))
            have Hp3 := Lib.hid ((Hp1.out.ext hb12).mod hm3 (SF_no_pow _))
            have Hm3 := Lib.hid ((Hb1.out.ext hb12).trans (SF_df hm3 hBsx))
            have hB3 : B ≤ w3.heap.size := by rw [hz3]; exact Nat.le_trans hB1 hb12.size
            clear ho3 hbe3 hot3 hm3 hz3 hb12 hown h44 h45
            go_wp2_with fail
            go_roundw
            case rel =>
              refine ⟨k + 1, sk.set x.i ⟨none, 0, ⟨[], true⟩⟩, by omega, by go_num, by rw [List.length_set]; exact Hsk.out, Hc3.out, ?_, Hp3.out, Hm3.out, hB3⟩
              rw [Ht.out, List.map_set, Hap.out]
              rfl
            case measure => simp [intOf]; omega
        · have ht := Htk.out
          rw [if_neg hkt] at ht
          have Ht := Lib.hid ht
          have hkt' : ((k : Int) == p.torn) = false := by simpa using hkt
          clear ht Htk hkt
          refine (torn_at Hp1.out rfl).mono ?_
          rintro e w2 ⟨rfl, rfl⟩
          go_wp2_with fail
          cases hkk : p.kept (k : Int) with
          | true =>
            have ht := Ht.out
            rw [if_pos hkk] at ht
            have Ht2 := Lib.hid ht
            clear ht Ht
            refine (kept_at (r := true) Hp1.out hkk).mono ?_
            rintro e w2 ⟨rfl, rfl⟩
            clear hkk
            go_wp2_with fail
            refine wp_region_last2 _ _ (by simp only [lastSplit, Option.map_some]; rfl) (by kernel_rfl) [Sp.eq (.pointer (some ⟨g, 0, none⟩)), Sp.eq (.pointer (some ⟨g, 0, none⟩)), Sp.eq (.pointer (some ⟨g, 2, none⟩)), Sp.eq (.slice (some ⟨sx, 0, none⟩) n sc), Sp.eq (.pointer (some ⟨wr.heap.size, 0, none⟩)), Sp.eq (.int .i64 (x.i : Int)), Sp.eq (.pointer (some ⟨wr.heap.size, 1, none⟩)), Sp.eq (.slice x.a x.b.length x.c), Sp.eq (.agg #[.slice x.a x.b.length x.c, .bool false]), Sp.eq (.pointer (some ⟨sx, x.i * 2, none⟩))] (by kernel_rfl) (by kernel_rfl) ?_ ?_
            · refine stepsOk_cons ?_ (stepsOk_cons ?_ (stepsOk_cons ?_ (stepsOk_cons ?_ (stepsOk_cons ?_ (stepsOk_cons ?_ (stepsOk_cons ?_ (stepsOk_cons ?_ (stepsOk_cons ?_ (stepsOk_cons ?_ (stepsOk_nil))))))))))
              · intro ρ w' E
                have e0 : ρ (.tmp 0) = .pointer (some ⟨g, 0, none⟩) := E.out 0 rfl
                refine step_plain rfl ?_
                exact op_move (.inl rfl) e0 ⟨Below.refl _ _, rfl⟩
              · intro ρ w' E
                have e53 : ρ (.tmp 53) = .pointer (some ⟨g, 0, none⟩) := E.pre 0 rfl
                refine step_plain rfl ?_
                refine op_val (v := .pointer (some ⟨g, 0, none⟩)) (w' := w') ?_ ⟨Below.refl _ _, rfl⟩
                have hcon := E.con
                clear E
                go_simp
              · intro ρ w' E
                have e54 : ρ (.tmp 54) = .pointer (some ⟨g, 0, none⟩) := E.pre 1 rfl
                refine step_plain rfl ?_
                refine op_val (v := .pointer (some ⟨g, 2, none⟩)) (w' := w') ?_ ⟨Below.refl _ _, rfl⟩
                have hcon := E.con
                clear E
                go_simp
              · intro ρ w' E
                have e55 : ρ (.tmp 55) = .pointer (some ⟨g, 2, none⟩) := E.pre 2 rfl
                refine step_plain rfl ?_
                refine op_val (v := .slice (some ⟨sx, 0, none⟩) n sc) (w' := w') ?_ ⟨Below.refl _ _, rfl⟩
                have hk := (World.cell?_of_block (w := w1) (E.below.block _ hlg)).trans c2
                have hcon := E.con
                clear E c0 c1 c2 c3 c4 m0 m1
                go_simp
              · intro ρ w' E
                have e4 : ρ (.tmp 4) = .pointer (some ⟨wr.heap.size, 0, none⟩) := E.out 4 rfl
                refine step_plain rfl ?_
                refine op_val (v := .pointer (some ⟨wr.heap.size, 0, none⟩)) (w' := w') ?_ ⟨Below.refl _ _, rfl⟩
                have hcon := E.con
                clear E
                go_simp
              · intro ρ w' E
                have e57 : ρ (.tmp 57) = .pointer (some ⟨wr.heap.size, 0, none⟩) := E.pre 4 rfl
                refine step_plain rfl ?_
                refine op_val (v := .int .i64 (x.i : Int)) (w' := w') ?_ ⟨Below.refl _ _, rfl⟩
                have hk := (World.cell?_of_block (w := w1) (E.below.block _ hlm)).trans m0
                have hcon := E.con
                clear E c0 c1 c2 c3 c4 m0 m1
                go_simp
              · intro ρ w' E
                have e4 : ρ (.tmp 4) = .pointer (some ⟨wr.heap.size, 0, none⟩) := E.out 4 rfl
                refine step_plain rfl ?_
                refine op_val (v := .pointer (some ⟨wr.heap.size, 1, none⟩)) (w' := w') ?_ ⟨Below.refl _ _, rfl⟩
                have hcon := E.con
                clear E
                go_simp
              · intro ρ w' E
                have e59 : ρ (.tmp 59) = .pointer (some ⟨wr.heap.size, 1, none⟩) := E.pre 6 rfl
                refine step_plain rfl ?_
                refine op_val (v := .slice x.a x.b.length x.c) (w' := w') ?_ ⟨Below.refl _ _, rfl⟩
                have hk := (World.cell?_of_block (w := w1) (E.below.block _ hlm)).trans m1
                have hcon := E.con
                clear E c0 c1 c2 c3 c4 m0 m1
                go_simp
              · intro ρ w' E
                have e60 : ρ (.tmp 60) = .slice x.a x.b.length x.c := E.pre 7 rfl
                refine step_plain rfl ?_
                refine op_val (v := .agg #[.slice x.a x.b.length x.c, .bool false]) (w' := w') ?_ ⟨Below.refl _ _, rfl⟩
                have hcon := E.con
                clear E
                go_simp
              · intro ρ w' E
                have e56 : ρ (.tmp 56) = .slice (some ⟨sx, 0, none⟩) n sc := E.pre 3 rfl
                have e58 : ρ (.tmp 58) = .int .i64 (x.i : Int) := E.pre 5 rfl
                refine step_plain rfl ?_
                refine op_val (v := .pointer (some ⟨sx, x.i * 2, none⟩)) (w' := w') ?_ ⟨Below.refl _ _, rfl⟩
                have hcon := E.con
                clear E
                go_simp
            · intro σ w2 hb12 hall
              obtain ⟨_, _, _, _, _, _, _, _, h61, h62, _⟩ := hall
              have h61 : σ 61 = .agg #[.slice x.a x.b.length x.c, .bool false] := h61
              have h62 : σ 62 = .pointer (some ⟨sx, x.i * 2, none⟩) := h62
              simp only [upd, updL, dstsOf', elemB, List.filterMap_cons, List.filterMap_nil, Nat.reduceAdd, Nat.reduceBEq, Bool.or_false, Bool.false_or, Bool.or_true, Bool.true_or, cond_true, cond_false, Nat.zero_add, h61, h62]
              have hown := Hc1.out.safe.ext hb12
              clear c0 c1 c2 c3 c4 m0 m1 hfg hlg hlm
              go_wp2_with (refine wpList_store_elem rfl rfl 167 (.tmp 62) (.tmp 61) rfl SecV.cells 2 SecV.len (by decide) hown x.i ⟨x.a, x.c, ⟨x.b, false⟩⟩ (by rw [Hsk.out]; exact hxi) rfl rfl (by kernel_rfl) (SecV.one _) ?_; intro w3 ho3 hbe3 hot3 hm3 hz3)
              have hm3 := hm3 (SF sx) ⟨rfl, rfl⟩
              have hxh : Held w2 K x.a x.c x.b := ((Hx.out.mod (Mod.refl (fun _ _ => False) _) (fun _ _ _ h => h)).mod (bmod (Hb01.out.trans (hb12.mono Hb01.out.size)) (fun _ _ => False)) (fun _ _ _ h => h))
              have Hc3 := Lib.hid ((Hc1.out.ext hb12).putSafe hm3 ho3 hxh)
              have Hp3 := Lib.hid ((Hp1.out.ext hb12).mod hm3 (SF_no_pow _))
              have Hm3 := Lib.hid ((Hb1.out.ext hb12).trans (SF_df hm3 hBsx))
              have hB3 : B ≤ w3.heap.size := by rw [hz3]; exact Nat.le_trans hB1 hb12.size
              clear ho3 hbe3 hot3 hm3 hz3 hb12 hown h61 h62 hxh
              go_wp2_with fail
              go_roundw
              case rel =>
                refine ⟨k + 1, sk.set x.i ⟨x.a, x.c, ⟨x.b, false⟩⟩, by omega, by go_num, by rw [List.length_set]; exact Hsk.out, Hc3.out, ?_, Hp3.out, Hm3.out, hB3⟩
                rw [Ht2.out, List.map_set, Hap.out]
                rfl
              case measure => simp [intOf]; omega
          | false =>
            have ht := Ht.out
            rw [if_neg (by rw [hkk]; decide)] at ht
            have Ht2 := Lib.hid ht
            clear ht Ht
            refine (kept_at (r := false) Hp1.out hkk).mono ?_
            rintro e w2 ⟨rfl, rfl⟩
            clear hkk c0 c1 c2 c3 c4 m0 m1 hfg hlg hlm
            go_wp2_with fail
            go_roundw
            case rel => exact ⟨k + 1, sk, by omega, by go_num, Hsk.out, Hc1.out, by rw [Ht2.out]; exact Hap.out, Hp1.out, Hb1.out, hB1⟩
            case measure => simp [intOf]; omega
      · have hkm : k = m := by omega
        subst hkm
        have hap := Hap.out
        rw [List.take_of_length_le (by have := HPl.out; omega)] at hap
        have Hap := Lib.hid hap
        clear hap
        go_wp2_with fail
        refine wp_region_chainL (by kernel_rfl) [7, 12, 15, 18, 21] (Stay.rel (fun p => p = ⟨g, 0, none⟩ ∨ p = ⟨g, 2, none⟩)) [SpT.eq (.pointer (some ⟨g, 0, none⟩)), SpT.eq (.pointer (some ⟨g, 0, none⟩)), SpT.eq (.pointer (some ⟨g, 0, none⟩)), SpT.eq (.pointer (some ⟨g, 0, none⟩)), SpT.eq (.pointer (some ⟨g, 0, none⟩)), SpT.eq (.pointer (some ⟨g, 0, none⟩)), SpT.eq (.pointer (some ⟨pg, 0, none⟩)), SpT.top, SpT.eq (.pointer (some ⟨g, 0, none⟩)), SpT.eq (.pointer (some ⟨g, 0, none⟩)), SpT.eq (.pointer (some ⟨g, 2, none⟩)), SpT.eq (.slice sa n sc), SpT.top, SpT.eq (.pointer (some ⟨g, 0, none⟩)), SpT.eq (.pointer (some ⟨g, 1, none⟩)), SpT.top, SpT.eq (.pointer (some ⟨g, 0, none⟩)), SpT.eq (.pointer (some ⟨g, 4, none⟩)), SpT.top, SpT.eq (.pointer (some ⟨g, 0, none⟩)), SpT.eq (.pointer (some ⟨g, 3, none⟩)), SpT.top] (by kernel_rfl) (by kernel_rfl) (by kernel_rfl) (by kernel_rfl) ?_ ?_
        · refine stepsL_free rfl ?_ (stepsL_free rfl ?_ (stepsL_free rfl ?_ (stepsL_free rfl ?_ (stepsL_free rfl ?_ (stepsL_free rfl ?_ (stepsL_free rfl ?_ (stepsL_chain rfl (stepsL_free rfl ?_ (stepsL_free rfl ?_ (stepsL_free rfl ?_ (stepsL_free rfl ?_ (stepsL_chain rfl (stepsL_free rfl ?_ (stepsL_free rfl ?_ (stepsL_chain rfl (stepsL_free rfl ?_ (stepsL_free rfl ?_ (stepsL_chain rfl (stepsL_free rfl ?_ (stepsL_free rfl ?_ (stepsL_chain rfl (stepsL_nil))))))))))))))))))))))
          · intro ρ w' E
            have e0 : ρ (.tmp 0) = .pointer (some ⟨g, 0, none⟩) := E.out 0 rfl
            refine step_plain rfl ?_
            exact op_move (.inl rfl) e0 ⟨Below.refl _ _, rfl⟩
          · intro ρ w' E
            have e0 : ρ (.tmp 0) = .pointer (some ⟨g, 0, none⟩) := E.out 0 rfl
            refine step_plain rfl ?_
            exact op_move (.inl rfl) e0 ⟨Below.refl _ _, rfl⟩
          · intro ρ w' E
            have e0 : ρ (.tmp 0) = .pointer (some ⟨g, 0, none⟩) := E.out 0 rfl
            refine step_plain rfl ?_
            exact op_move (.inl rfl) e0 ⟨Below.refl _ _, rfl⟩
          · intro ρ w' E
            have e0 : ρ (.tmp 0) = .pointer (some ⟨g, 0, none⟩) := E.out 0 rfl
            refine step_plain rfl ?_
            exact op_move (.inl rfl) e0 ⟨Below.refl _ _, rfl⟩
          · intro ρ w' E
            have e67 : ρ (.tmp 67) = .pointer (some ⟨g, 0, none⟩) := E.pre 3 rfl rfl
            refine step_plain rfl ?_
            refine op_val (v := .pointer (some ⟨g, 0, none⟩)) (w' := w') ?_ ⟨Below.refl _ _, rfl⟩
            have hcon := E.con
            clear E
            go_simp
          · intro ρ w' E
            have e68 : ρ (.tmp 68) = .pointer (some ⟨g, 0, none⟩) := E.pre 4 rfl rfl
            refine step_plain rfl ?_
            refine op_val (v := .pointer (some ⟨g, 0, none⟩)) (w' := w') ?_ ⟨Below.refl _ _, rfl⟩
            have hcon := E.con
            clear E
            go_simp
          · intro ρ w' E
            have e69 : ρ (.tmp 69) = .pointer (some ⟨g, 0, none⟩) := E.pre 5 rfl rfl
            refine step_plain rfl ?_
            refine op_val (v := .pointer (some ⟨pg, 0, none⟩)) (w' := w') ?_ ⟨Below.refl _ _, rfl⟩
            have hk : w'.cell? ⟨g, 0, none⟩ = some (.pointer (some ⟨pg, 0, none⟩)) := E.t.cell _ _ (.inl rfl) c0
            have hcon := E.con
            clear E c0 c1 c2 c3 c4
            go_simp
          · intro ρ w' E
            have e0 : ρ (.tmp 0) = .pointer (some ⟨g, 0, none⟩) := E.out 0 rfl
            refine step_plain rfl ?_
            exact op_move (.inl rfl) e0 ⟨Below.refl _ _, rfl⟩
          · intro ρ w' E
            have e72 : ρ (.tmp 72) = .pointer (some ⟨g, 0, none⟩) := E.pre 8 rfl rfl
            refine step_plain rfl ?_
            refine op_val (v := .pointer (some ⟨g, 0, none⟩)) (w' := w') ?_ ⟨Below.refl _ _, rfl⟩
            have hcon := E.con
            clear E
            go_simp
          · intro ρ w' E
            have e73 : ρ (.tmp 73) = .pointer (some ⟨g, 0, none⟩) := E.pre 9 rfl rfl
            refine step_plain rfl ?_
            refine op_val (v := .pointer (some ⟨g, 2, none⟩)) (w' := w') ?_ ⟨Below.refl _ _, rfl⟩
            have hcon := E.con
            clear E
            go_simp
          · intro ρ w' E
            have e74 : ρ (.tmp 74) = .pointer (some ⟨g, 2, none⟩) := E.pre 10 rfl rfl
            refine step_plain rfl ?_
            refine op_val (v := .slice sa n sc) (w' := w') ?_ ⟨Below.refl _ _, rfl⟩
            have hk : w'.cell? ⟨g, 2, none⟩ = some (.slice sa n sc) := E.t.cell _ _ (.inr rfl) c2
            have hcon := E.con
            clear E c0 c1 c2 c3 c4
            go_simp
          · intro ρ w' E
            have e64 : ρ (.tmp 64) = .pointer (some ⟨g, 0, none⟩) := E.pre 0 rfl rfl
            refine step_plain rfl ?_
            refine op_val (v := .pointer (some ⟨g, 0, none⟩)) (w' := w') ?_ ⟨Below.refl _ _, rfl⟩
            have hcon := E.con
            clear E
            go_simp
          · intro ρ w' E
            have e77 : ρ (.tmp 77) = .pointer (some ⟨g, 0, none⟩) := E.pre 13 rfl rfl
            refine step_plain rfl ?_
            refine op_val (v := .pointer (some ⟨g, 1, none⟩)) (w' := w') ?_ ⟨Below.refl _ _, rfl⟩
            have hcon := E.con
            clear E
            go_simp
          · intro ρ w' E
            have e65 : ρ (.tmp 65) = .pointer (some ⟨g, 0, none⟩) := E.pre 1 rfl rfl
            refine step_plain rfl ?_
            refine op_val (v := .pointer (some ⟨g, 0, none⟩)) (w' := w') ?_ ⟨Below.refl _ _, rfl⟩
            have hcon := E.con
            clear E
            go_simp
          · intro ρ w' E
            have e79 : ρ (.tmp 79) = .pointer (some ⟨g, 0, none⟩) := E.pre 16 rfl rfl
            refine step_plain rfl ?_
            refine op_val (v := .pointer (some ⟨g, 4, none⟩)) (w' := w') ?_ ⟨Below.refl _ _, rfl⟩
            have hcon := E.con
            clear E
            go_simp
          · intro ρ w' E
            have e66 : ρ (.tmp 66) = .pointer (some ⟨g, 0, none⟩) := E.pre 2 rfl rfl
            refine step_plain rfl ?_
            refine op_val (v := .pointer (some ⟨g, 0, none⟩)) (w' := w') ?_ ⟨Below.refl _ _, rfl⟩
            have hcon := E.con
            clear E
            go_simp
          · intro ρ w' E
            have e81 : ρ (.tmp 81) = .pointer (some ⟨g, 0, none⟩) := E.pre 19 rfl rfl
            refine step_plain rfl ?_
            refine op_val (v := .pointer (some ⟨g, 3, none⟩)) (w' := w') ?_ ⟨Below.refl _ _, rfl⟩
            have hcon := E.con
            clear E
            go_simp
        · intro ρ1 w1c G1 E1
          have e70 : ρ1 (.tmp 70) = .pointer (some ⟨pg, 0, none⟩) := E1.pre 6 rfl rfl
          refine step_plain rfl ?_
          refine op_call (f := 103) (args := #[.pointer (some ⟨pg, 0, none⟩)]) (w' := w1c) (by have hcon := E1.con; have hfn := E1.fn; clear E1 c0 c1 c2 c3 c4; go_simp) ?_
          refine (life_at (Hpk.out.ext G1) rfl).mono ?_
          rintro e wx1 ⟨rfl, rfl⟩
          refine ⟨_, rfl, (Stay.rel (fun p => p = ⟨g, 0, none⟩ ∨ p = ⟨g, 2, none⟩)).of (Below.refl _ _), ?_⟩
          intro ρ2 w2c G2 E2
          have e75 : ρ2 (.tmp 75) = .slice sa n sc := E2.pre 11 rfl rfl
          refine step_plain rfl ?_
          have hb2 := bthen G1 G2 (Nat.le_refl _)
          refine op_call (f := 107) (args := #[.slice sa n sc]) (w' := w2c) (by have hcon := E2.con; have hfn := E2.fn; clear E2 c0 c1 c2 c3 c4; go_simp) ?_
          refine (clone_secs sa sc n sk w2c (Hck.out.safe.src.ext hb2) Hsk.out.symm hn).mono ?_
          rintro e wx2 ⟨a4, k4, rfl, hox2, hbx2⟩
          refine ⟨_, rfl, (Stay.rel (fun p => p = ⟨g, 0, none⟩ ∨ p = ⟨g, 2, none⟩)).of hbx2, ?_⟩
          intro ρ3 w3c G3 E3
          have e78 : ρ3 (.tmp 78) = .pointer (some ⟨g, 1, none⟩) := E3.pre 14 rfl rfl
          have e71 : ρ3 (.tmp 71) = .int .i64 p.life := E3.chn 7 71 rfl rfl rfl
          refine step_plain rfl ?_
          have hb3 := bthen hbx2 G3 (Nat.le_refl _)
          have hb13 := bthen hb2 hb3 (Nat.le_refl _)
          have hc3 := Hck.out.ext hb13
          have hon3 := hox2.ext G3
          refine op_store rfl e78 e71 rfl (hc3.cells.2.1) (hc3.cells.2.2.2.2.2.1 _) (by kernel_rfl) ⟨Stay.set (by intro h; rcases h with h | h <;> cases h), ?_⟩
          have hm3 := hc3.of_mod 1 (.int .i64 p.life)
          have hq3 := hc3.setLife p.life
          have hon3' := hon3.mod hm3 fun _ _ _ hf => absurd hf.2 (by decide)
          intro ρ4 w4c G4 E4
          have e80 : ρ4 (.tmp 80) = .pointer (some ⟨g, 4, none⟩) := E4.pre 17 rfl rfl
          refine step_plain rfl ?_
          have hc4 := hq3.ext G4
          have hon4 := hon3'.ext G4
          refine op_store rfl e80 (E4.con _) rfl (hc4.cells.2.2.2.2.1) (hc4.cells.2.2.2.2.2.1 _) (by kernel_rfl) ⟨Stay.set (by intro h; rcases h with h | h <;> cases h), ?_⟩
          have hm4 := hc4.of_mod 4 (.slice none 0 0)
          have hq4 := hc4.setPend (ps' := []) (pa' := none) (pc' := 0) (n' := 0) rfl (Own.nil _ _ _ _ _) (by simp) (fun _ => rfl)
          have hon4' := hon4.mod hm4 fun _ _ _ hf => absurd hf.2 (by decide)
          intro ρ5 w5c G5 E5
          have e82 : ρ5 (.tmp 82) = .pointer (some ⟨g, 3, none⟩) := E5.pre 20 rfl rfl
          have e76 : ρ5 (.tmp 76) = .slice a4 n k4 := E5.chn 12 76 rfl rfl rfl
          refine step_plain rfl ?_
          have hc5 := hq4.ext G5
          have hon5 := hon4'.ext G5
          refine op_store rfl e82 e76 rfl (hc5.cells.2.2.2.1) (hc5.cells.2.2.2.2.2.1 _) (by kernel_rfl) ⟨trivial, ?_⟩
          have hm5 := hc5.of_mod 3 (.slice a4 n k4)
          have hq5 := hc5.setNow (ns' := sk) Hsk.out.symm (hon5.mono (Nat.le_trans hBk hb2.size)) (fun x y hx hy => own_apart (Hck.out.safe.ext hb2) hox2 (Nat.le_refl _) (by rw [Hsk.out]; exact hnpos) hnpos x y hx hy) (fun x hx => hc5.secs x (by simp [hx]))
          intro σ wF GF hκ
          have hc6 := hq5.ext GF
          have hpw := ((((((Hpk.out.ext hb13).mod hm3 (OF_no_pow _)).ext G4).mod hm4 (OF_no_pow _)).ext G5).mod hm5 (OF_no_pow _)).ext GF
          have hmm := ((((((Hmk.out.ext hb13).trans (OF_df hm3 hc3.low)).ext G4).trans (OF_df hm4 hc3.low)).ext G5).trans (OF_df hm5 hc3.low)).ext GF
          have Hc6 := Lib.hid hc6
          have Hpw := Lib.hid hpw
          have Hmm := Lib.hid hmm
          clear hc6 hpw hmm hq5 hq4 hq3 hc3 hc4 hc5 hm3 hm4 hm5 hon3 hon3' hon4 hon4' hon5 hb3 hb13 hb2 hox2 hbx2 G1 G2 G3 G4 G5 GF E1 E2 E3 E4 E5 c0 c1 c2 c3 c4 e70 e71 e75 e76 e78 e80 e82 hκ
          go_wp2
          go_ret
          exact ⟨rfl, ⟨_, _, _, _, _, _, _, _, _, Hc6.out, Hap.out, Hap.out, rfl⟩, Hpw.out, Hmm.out⟩
end Go.Proofs.Ytclkkhpnnbkfmaa
