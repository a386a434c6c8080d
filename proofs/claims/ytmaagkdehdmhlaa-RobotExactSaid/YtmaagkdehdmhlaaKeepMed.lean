/- cellarerkeep.Medium. -/
import Derived.Test.YtmaagkdehdmhlaaMedTwin
import Derived.Test.YtmaagkdehdmhlaaRegionChainF
import Derived.Test.YtmaagkdehdmhlaaRobotExactPartE
namespace Go.Proofs.Ytmaagkdehdmhlaa
open Go.RowKit

/-- What a store into a new cell leaves: all blocks below W; a row keeps its size. -/
structure CRel (W : Nat) (w1 w2 : World) : Prop where
  size : w1.heap.size ≤ w2.heap.size
  low : ∀ {b : Nat}, b < w1.heap.size → b < W → w2.heap[b]? = w1.heap[b]?
  row : ∀ (b : Nat) (cs : Array Value), w1.heap[b]? = some (.cells cs 42 (0, 0)) → ∃ cs', w2.heap[b]? = some (.cells cs' 42 (0, 0)) ∧ cs'.size = cs.size
theorem CRel.rel (W : Nat) : Trel (CRel W) := by
  refine ⟨fun h k => ⟨Nat.le_trans h.size k.size, fun h1 h2 => (k.low (Nat.lt_of_lt_of_le h1 h.size) h2).trans (h.low h1 h2), fun b cs hc => ?_⟩, fun h => ⟨h.size, fun h1 _ => h.block _ h1, fun b cs hc => ⟨cs, (h.block b (heap_lt hc)).trans hc, rfl⟩⟩⟩
  obtain ⟨cs1, h1, e1⟩ := h.row b cs hc
  obtain ⟨cs2, h2, e2⟩ := k.row b cs1 h1
  exact ⟨cs2, h2, e2.trans e1⟩
theorem CRel.set {W : Nat} {w : World} {x : Nat} {old new : Array Value} (hx : W ≤ x) (hc : w.heap[x]? = some (.cells old 42 (0, 0))) (hs : old.size = new.size) : CRel W w (w.setRow x new) := by
  refine ⟨by simp, fun _ h2 => setRow_other w x _ _ (by omega), fun b cs hb => ?_⟩
  by_cases hbx : b = x
  · subst hbx
    rw [hc] at hb
    simp only [Option.some.injEq, Obj.cells.injEq] at hb
    obtain ⟨rfl, _⟩ := hb
    exact ⟨new, setRow_heap w b _ _ _ _ hc, hs.symm⟩
  · exact ⟨cs, (setRow_other w x b _ hbx).trans hb, rfl⟩
theorem op_store_row {P : Program} {w : World} {ρ : Operand → Value} {R : Value → World → Prop} {o : Oper} {ty : TypeId} {xo vo : Operand} (ho : o.op = .store ty xo vo) {g : Nat} {T : TypeId} {old cs : Array Value} (hx : ρ xo = .pointer (some ⟨g, 0, none⟩)) (hv : ρ vo = .agg cs)
    (hg : w.heap[g]? = some (.cells old T (0, 0))) (hs : old.size = cs.size) (hi : (P.info? ty).map (·.size) = some cs.size) (h1 : ∀ v ∈ cs.toList, v.oneCell' = true) (h : R undef (w.setRow g cs)) : OpOk P o ρ w R := by
  have hr := run_storeVar_row (P := P) w g T ty old cs hg hs hi h1
  unfold OpOk execOp
  simp only [ho, hx, hv, Instr.storeAt, Instr.sureAddr, Sem.run_bind, Sem.run_pure, Result.andThen_ok, hr]
  exact h

theorem pls_take_succ (cs : List CellV) (k : Nat) (h : k < cs.length) : (pls cs).take (k + 1) = (pls cs).take k ++ [cs[k].pl] := by
  rw [take_succ_list (pls cs) k (by rw [pls_length]; exact h)]
  congr 1
  simp [pls]

set_option maxRecDepth 100000 in
set_option maxHeartbeats 8000000 in
theorem keepmed_any (cap1 cap2 : Int) (A1 A2 : Option Addr) (cA na cB nb : Nat) (us vs : List CellV) (rr : Bool) (w : World) (hA : CMat w A1 us) (hB : CMat w A2 vs) (hna : na = us.length) (hnb : nb = vs.length) (hn1 : na ≤ 9223372036854775807) (hn2 : nb ≤ 9223372036854775807) (hr : rr = true ↔ (cap1 = cap2 ∧ pls us = pls vs)) :
    Calls Try.prog 16 #[.agg #[.int .i64 cap1, .slice A1 na cA], .agg #[.int .i64 cap2, .slice A2 nb cB]] w fun e w' => e = .returned (.bool rr) ∧ Below w.heap.size w w' := by
  have HA := Lib.hid hA
  have HB := Lib.hid hB
  have Hna := Lib.hid hna
  have Hnb := Lib.hid hnb
  have HR := Lib.hid hr
  have hz1 := heap_alloc_new w (.cells #[.int .i64 cap1, .slice A1 na cA] 45)
  have hz2 := heap_alloc_new (w.alloc (.cells #[.int .i64 cap1, .slice A1 na cA] 45)) (.cells #[.int .i64 cap2, .slice A2 nb cB] 45)
  rw [World.size_alloc] at hz2
  have hb1 := ext_alloc w (.cells #[.int .i64 cap1, .slice A1 na cA] 45)
  have hb2 := ext_alloc (w.alloc (.cells #[.int .i64 cap1, .slice A1 na cA] 45)) (.cells #[.int .i64 cap2, .slice A2 nb cB] 45)
  have hz1' := (hb2.block w.heap.size (by rw [World.size_alloc]; omega)).trans hz1
  have hb02 := bthen hb1 hb2 (Nat.le_refl _)
  clear hA hB hna hnb hr hb1 hb2 hz1
  by_cases hcap : cap1 = cap2
  · by_cases hlen : na = nb
    · have e1 : (cap1 != cap2) = false := by simpa using hcap
      have e2 : (((na : Nat) : Int) != ((nb : Nat) : Int)) = false := by simp [hlen]
      have Hlen := Lib.hid hlen
      have Hcap := Lib.hid hcap
      clear hlen hcap
      go_enter Try.func16, Try.ntmps16
      go_wp2_with fail
      generalize hw2 : World.alloc _ (Obj.cells #[.int .i64 cap2, .slice A2 nb cB] 45) = w2 at *
      clear hw2
      go_loopw [5] (fun i wr => ∃ (k : Nat), k ≤ na ∧ i = .int .i64 (k : Int) ∧ wr.heap[w.heap.size]? = some (.cells #[.int .i64 cap1, .slice A1 na cA] 45 (0, 0)) ∧ wr.heap[w.heap.size + 1]? = some (.cells #[.int .i64 cap2, .slice A2 nb cB] 45 (0, 0)) ∧ Below w.heap.size w wr ∧ (pls us).take k = (pls vs).take k) (fun i _ => na - (intOf i).toNat)
      case atStart => exact ⟨0, by omega, rfl, hz1', hz2, hb02, rfl⟩
      case round =>
        rename_i wr
        obtain ⟨k, hk, rfl, r1, r2, hbr, heq⟩ := hrel
        have Heq := Lib.hid heq
        have Q1 := Lib.hid r1
        have Q2 := Lib.hid r2
        have da := cell_of_row wr w.heap.size 1 _ _ _ r1
        have db := cell_of_row wr (w.heap.size + 1) 1 _ _ _ r2
        have hlA := heap_lt r1
        have hlB := heap_lt r2
        clear heq hz1' hz2 hb02
        by_cases hlt : k < na
        · have hka : k < us.length := by have := Hna.out; omega
          have hkb : k < vs.length := by have := Hnb.out; have := Hlen.out; omega
          have hltb : k < nb := by have := Hlen.out; omega
          obtain ⟨p, q, rfl, hlp0, hatA⟩ := HA.out.src.elem CellV.len (by decide) hka
          obtain ⟨r, s, rfl, hlr0, hatB⟩ := HB.out.src.elem CellV.len (by decide) hkb
          have qa0 := hatA k hka 0 _ rfl
          have qa1 := hatA k hka 1 _ rfl
          have qa2 := hatA k hka 2 _ rfl
          have qb0 := hatB k hkb 0 _ rfl
          have qb1 := hatB k hkb 1 _ rfl
          have qb2 := hatB k hkb 2 _ rfl
          have hra := HA.out.row _ (List.getElem_mem hka)
          have hrb := HB.out.row _ (List.getElem_mem hkb)
          have Hta := Lib.hid (pls_take_succ us k hka)
          have Htb := Lib.hid (pls_take_succ vs k hkb)
          have Hga := Lib.hid (show (pls us)[k]? = some us[k].pl by simp [pls, hka])
          have Hgb := Lib.hid (show (pls vs)[k]? = some vs[k].pl by simp [pls, hkb])
          generalize us[k] = x at *
          generalize vs[k] = y at *
          obtain ⟨ka, ⟨xa, xc, la⟩, ba⟩ := x
          obtain ⟨kb, ⟨ya, yc, lb⟩, bb⟩ := y
          dsimp only [CellV.pl] at *
          have hlp : p < wr.heap.size := Nat.lt_of_lt_of_le hlp0 hbr.size
          have hlr : r < wr.heap.size := Nat.lt_of_lt_of_le hlr0 hbr.size
          have a0 := (World.cell?_of_block (w := w) (a := ⟨p, q + k * 3, none⟩) (hbr.block p hlp0)).trans qa0
          have a1 := (World.cell?_of_block (w := w) (a := ⟨p, q + k * 3 + 1, none⟩) (hbr.block p hlp0)).trans qa1
          have a2 := (World.cell?_of_block (w := w) (a := ⟨p, q + k * 3 + 2, none⟩) (hbr.block p hlp0)).trans qa2
          have b0 := (World.cell?_of_block (w := w) (a := ⟨r, s + k * 3, none⟩) (hbr.block r hlr0)).trans qb0
          have b1 := (World.cell?_of_block (w := w) (a := ⟨r, s + k * 3 + 1, none⟩) (hbr.block r hlr0)).trans qb1
          have b2 := (World.cell?_of_block (w := w) (a := ⟨r, s + k * 3 + 2, none⟩) (hbr.block r hlr0)).trans qb2
          clear hatA hatB qa0 qa1 qa2 qb0 qb1 qb2 r1 r2
          go_wp2_with fail
          refine wp_region_chainF (by kernel_rfl) [12, 13] [10, 11] (CRel.rel wr.heap.size) (fun h => h.size) [SpT.eq (.pointer (some ⟨w.heap.size, 1, none⟩)), SpT.eq (.slice (some ⟨p, q, none⟩) na cA), SpT.eq (.int .i64 (k : Int)), SpT.eq (.pointer (some ⟨p, q + k * 3, none⟩)), SpT.eq (.agg #[.int .i64 ka, .slice xa la.length xc, .bool ba]), SpT.eq (.pointer (some ⟨(w.heap.size + 1), 1, none⟩)), SpT.eq (.slice (some ⟨r, s, none⟩) nb cB), SpT.eq (.int .i64 (k : Int)), SpT.eq (.pointer (some ⟨r, s + k * 3, none⟩)), SpT.eq (.agg #[.int .i64 kb, .slice ya lb.length yc, .bool bb]), ⟨fun w' v => ∃ x, v = .pointer (some ⟨x, 0, none⟩) ∧ wr.heap.size ≤ x ∧ ∃ (cs : Array Value), w'.heap[x]? = some (.cells cs 42 (0, 0)) ∧ cs.size = 3, fun _ _ _ ⟨x, h, hx, cs, hc, hs⟩ ht => by obtain ⟨cs', h1, h2⟩ := ht.row x cs hc; exact ⟨x, h, hx, cs', h1, h2.trans hs⟩⟩, ⟨fun w' v => ∃ x, v = .pointer (some ⟨x, 0, none⟩) ∧ wr.heap.size ≤ x ∧ ∃ (cs : Array Value), w'.heap[x]? = some (.cells cs 42 (0, 0)) ∧ cs.size = 3, fun _ _ _ ⟨x, h, hx, cs, hc, hs⟩ ht => by obtain ⟨cs', h1, h2⟩ := ht.row x cs hc; exact ⟨x, h, hx, cs', h1, h2.trans hs⟩⟩, SpT.top, SpT.top] (by kernel_rfl) (by kernel_rfl) (by kernel_rfl) (by kernel_rfl) (by kernel_rfl) ?_ ?_
          · refine stepsM_free rfl ?_ (stepsM_free rfl ?_ (stepsM_free rfl ?_ (stepsM_free rfl ?_ (stepsM_free rfl ?_ (stepsM_free rfl ?_ (stepsM_free rfl ?_ (stepsM_free rfl ?_ (stepsM_free rfl ?_ (stepsM_free rfl ?_ (stepsM_free rfl ?_ (stepsM_free rfl ?_ (stepsM_chain rfl (stepsM_chain rfl (stepsM_nil))))))))))))))
            · intro ρ w' E
              have e2 : ρ (.tmp 2) = .pointer (some ⟨w.heap.size, 0, none⟩) := E.out 2 rfl
              refine step_plain rfl ?_
              refine op_val (v := .pointer (some ⟨w.heap.size, 1, none⟩)) (w' := w') ?_ ⟨Below.refl _ _, trivial, rfl⟩
              have hcon := E.con
              clear E
              go_simp
            · intro ρ w' E
              have e29 : ρ (.tmp 29) = .pointer (some ⟨w.heap.size, 1, none⟩) := E.pre 0 rfl rfl
              refine step_plain rfl ?_
              refine op_val (v := .slice (some ⟨p, q, none⟩) na cA) (w' := w') ?_ ⟨Below.refl _ _, trivial, rfl⟩
              have h0 := (World.cell?_of_block (w := wr) (E.t.low hlA hlA)).trans da
              have hcon := E.con
              clear E da db a0 a1 a2 b0 b1 b2
              go_simp
            · intro ρ w' E
              have e5 : ρ (.tmp 5) = .int .i64 (k : Int) := E.out 5 rfl
              refine step_plain rfl ?_
              exact op_move (.inl rfl) e5 ⟨Below.refl _ _, trivial, rfl⟩
            · intro ρ w' E
              have e30 : ρ (.tmp 30) = .slice (some ⟨p, q, none⟩) na cA := E.pre 1 rfl rfl
              have e31 : ρ (.tmp 31) = .int .i64 (k : Int) := E.pre 2 rfl rfl
              refine step_plain rfl ?_
              refine op_val (v := .pointer (some ⟨p, q + k * 3, none⟩)) (w' := w') ?_ ⟨Below.refl _ _, trivial, rfl⟩
              have hcon := E.con
              clear E
              go_simp
            · intro ρ w' E
              have e32 : ρ (.tmp 32) = .pointer (some ⟨p, q + k * 3, none⟩) := E.pre 3 rfl rfl
              refine step_plain rfl ?_
              refine op_val (v := .agg #[.int .i64 ka, .slice xa la.length xc, .bool ba]) (w' := w') ?_ ⟨Below.refl _ _, trivial, rfl⟩
              have h0 := (World.cell?_of_block (w := wr) (E.t.low hlp hlp)).trans a0
              have h1 := (World.cell?_of_block (w := wr) (E.t.low hlp hlp)).trans a1
              have h2 := (World.cell?_of_block (w := wr) (E.t.low hlp hlp)).trans a2
              have hcon := E.con
              clear E da db a0 a1 a2 b0 b1 b2
              go_simp
            · intro ρ w' E
              have e3 : ρ (.tmp 3) = .pointer (some ⟨(w.heap.size + 1), 0, none⟩) := E.out 3 rfl
              refine step_plain rfl ?_
              refine op_val (v := .pointer (some ⟨(w.heap.size + 1), 1, none⟩)) (w' := w') ?_ ⟨Below.refl _ _, trivial, rfl⟩
              have hcon := E.con
              clear E
              go_simp
            · intro ρ w' E
              have e34 : ρ (.tmp 34) = .pointer (some ⟨(w.heap.size + 1), 1, none⟩) := E.pre 5 rfl rfl
              refine step_plain rfl ?_
              refine op_val (v := .slice (some ⟨r, s, none⟩) nb cB) (w' := w') ?_ ⟨Below.refl _ _, trivial, rfl⟩
              have h0 := (World.cell?_of_block (w := wr) (E.t.low hlB hlB)).trans db
              have hcon := E.con
              clear E da db a0 a1 a2 b0 b1 b2
              go_simp
            · intro ρ w' E
              have e5 : ρ (.tmp 5) = .int .i64 (k : Int) := E.out 5 rfl
              refine step_plain rfl ?_
              exact op_move (.inl rfl) e5 ⟨Below.refl _ _, trivial, rfl⟩
            · intro ρ w' E
              have e35 : ρ (.tmp 35) = .slice (some ⟨r, s, none⟩) nb cB := E.pre 6 rfl rfl
              have e36 : ρ (.tmp 36) = .int .i64 (k : Int) := E.pre 7 rfl rfl
              refine step_plain rfl ?_
              refine op_val (v := .pointer (some ⟨r, s + k * 3, none⟩)) (w' := w') ?_ ⟨Below.refl _ _, trivial, rfl⟩
              have hcon := E.con
              clear E
              go_simp
            · intro ρ w' E
              have e37 : ρ (.tmp 37) = .pointer (some ⟨r, s + k * 3, none⟩) := E.pre 8 rfl rfl
              refine step_plain rfl ?_
              refine op_val (v := .agg #[.int .i64 kb, .slice ya lb.length yc, .bool bb]) (w' := w') ?_ ⟨Below.refl _ _, trivial, rfl⟩
              have h0 := (World.cell?_of_block (w := wr) (E.t.low hlr hlr)).trans b0
              have h1 := (World.cell?_of_block (w := wr) (E.t.low hlr hlr)).trans b1
              have h2 := (World.cell?_of_block (w := wr) (E.t.low hlr hlr)).trans b2
              have hcon := E.con
              clear E da db a0 a1 a2 b0 b1 b2
              go_simp
            · intro ρ w' E
              refine step_plain rfl ?_
              refine op_val (v := .pointer (some ⟨w'.heap.size, 0, none⟩)) (w' := w'.alloc (.cells #[.int .i64 0, .slice none 0 0, .bool false] 42)) (by have hcon := E.con; clear E; go_simp; try rfl) ⟨ext_alloc _ _, ⟨Nat.le_refl _, by rw [World.size_alloc]; exact Nat.lt_succ_self _⟩, _, rfl, E.t.size, _, heap_alloc_at _ _, rfl⟩
            · intro ρ w' E
              refine step_plain rfl ?_
              refine op_val (v := .pointer (some ⟨w'.heap.size, 0, none⟩)) (w' := w'.alloc (.cells #[.int .i64 0, .slice none 0 0, .bool false] 42)) (by have hcon := E.con; clear E; go_simp; try rfl) ⟨ext_alloc _ _, ⟨Nat.le_refl _, by rw [World.size_alloc]; exact Nat.lt_succ_self _⟩, _, rfl, E.t.size, _, heap_alloc_at _ _, rfl⟩
          · intro ρ1 w1c G1 E1 A1 R1
            have p6 : (fun w' v => ∃ x, v = .pointer (some ⟨x, 0, none⟩) ∧ wr.heap.size ≤ x ∧ ∃ (cs : Array Value), w'.heap[x]? = some (.cells cs 42 (0, 0)) ∧ cs.size = 3) w1c (ρ1 (.tmp 6)) := E1.pre 10 rfl rfl
            have e33 : ρ1 (.tmp 33) = .agg #[.int .i64 ka, .slice xa la.length xc, .bool ba] := E1.pre 4 rfl rfl
            refine step_plain rfl ?_
            obtain ⟨x6, e6, hx6, c6, hc6, hs6⟩ := p6
            refine op_store_row rfl e6 e33 hc6 (by rw [hs6]; rfl) (by kernel_rfl) (by simp [Value.oneCell']) ⟨CRel.set hx6 hc6 (by rw [hs6]; rfl), ?_⟩
            have hq6 := setRow_heap w1c x6 _ #[.int .i64 ka, .slice xa la.length xc, .bool ba] _ _ hc6
            intro ρ2 w2c G2 E2 A2 R2
            have p7 : (fun w' v => ∃ x, v = .pointer (some ⟨x, 0, none⟩) ∧ wr.heap.size ≤ x ∧ ∃ (cs : Array Value), w'.heap[x]? = some (.cells cs 42 (0, 0)) ∧ cs.size = 3) w2c (ρ2 (.tmp 7)) := E2.pre 11 rfl rfl
            have e38 : ρ2 (.tmp 38) = .agg #[.int .i64 kb, .slice ya lb.length yc, .bool bb] := E2.pre 9 rfl rfl
            refine step_plain rfl ?_
            obtain ⟨x7, e7, hx7, c7, hc7, hs7⟩ := p7
            have e6b : ρ2 (.tmp 6) = ρ1 (.tmp 6) := R2 10 6 rfl rfl
            have hne := A2 10 11 6 7 rfl rfl (by decide) rfl rfl rfl rfl
            rw [e6b, e6, e7] at hne
            have hq6' := (G2.block x6 (heap_lt hq6)).trans hq6
            refine op_store_row rfl e7 e38 hc7 (by rw [hs7]; rfl) (by kernel_rfl) (by simp [Value.oneCell']) ⟨trivial, ?_⟩
            have hq7 := setRow_heap w2c x7 _ #[.int .i64 kb, .slice ya lb.length yc, .bool bb] _ _ hc7
            intro σ wF GF hκ hrec
            have h6 : σ 6 = .pointer (some ⟨x6, 0, none⟩) := (hrec 10 6 rfl rfl).trans (e6b.trans e6)
            have h7 : σ 7 = .pointer (some ⟨x7, 0, none⟩) := (hrec 11 7 rfl rfl).trans e7
            simp only [upd, updL, dstsOf', elemB, List.filterMap_cons, List.filterMap_nil, Nat.reduceAdd, Nat.reduceBEq, Bool.or_false, Bool.false_or, Bool.or_true, Bool.true_or, cond_true, cond_false, Nat.zero_add, h6, h7]
            have hne' : x6 ≠ x7 := hne
            have g7 := (GF.block x7 (heap_lt hq7)).trans hq7
            have hq6w : (w2c.setRow x7 #[.int .i64 kb, .slice ya lb.length yc, .bool bb]).heap[x6]? = _ := (setRow_other w2c x7 x6 _ hne').trans hq6'
            have g6 := (GF.block x6 (heap_lt hq6w)).trans hq6w
            have hb1c := bsetRow (bthen hbr G1 (Nat.le_refl _)) (Nat.le_trans hbr.size hx6) #[.int .i64 ka, .slice xa la.length xc, .bool ba]
            have hb2c := bsetRow (bthen hb1c G2 (Nat.le_refl _)) (Nat.le_trans hbr.size hx7) #[.int .i64 kb, .slice ya lb.length yc, .bool bb]
            have hbF := bthen hb2c GF (Nat.le_refl _)
            have R1F : wF.heap[w.heap.size]? = some (.cells #[.int .i64 cap1, .slice (some ⟨p, q, none⟩) na cA] 45 (0, 0)) := by
              have h1 := (G1.block _ hlA).trans Q1.out
              have h2 : (w1c.setRow x6 #[.int .i64 ka, .slice xa la.length xc, .bool ba]).heap[w.heap.size]? = _ := (setRow_other w1c x6 _ _ (by omega)).trans h1
              have h3 := (G2.block _ (heap_lt h2)).trans h2
              have h4 : (w2c.setRow x7 #[.int .i64 kb, .slice ya lb.length yc, .bool bb]).heap[w.heap.size]? = _ := (setRow_other w2c x7 _ _ (by omega)).trans h3
              exact (GF.block _ (heap_lt h4)).trans h4
            have R2F : wF.heap[w.heap.size + 1]? = some (.cells #[.int .i64 cap2, .slice (some ⟨r, s, none⟩) nb cB] 45 (0, 0)) := by
              have h1 := (G1.block _ hlB).trans Q2.out
              have h2 : (w1c.setRow x6 #[.int .i64 ka, .slice xa la.length xc, .bool ba]).heap[w.heap.size + 1]? = _ := (setRow_other w1c x6 _ _ (by omega)).trans h1
              have h3 := (G2.block _ (heap_lt h2)).trans h2
              have h4 : (w2c.setRow x7 #[.int .i64 kb, .slice ya lb.length yc, .bool bb]).heap[w.heap.size + 1]? = _ := (setRow_other w2c x7 _ _ (by omega)).trans h3
              exact (GF.block _ (heap_lt h4)).trans h4
            have K1 := Lib.hid R1F
            have K2 := Lib.hid R2F
            have m0 := cell_of_row wF x6 0 _ _ _ g6
            have m1 := cell_of_row wF x6 1 _ _ _ g6
            have m2 := cell_of_row wF x6 2 _ _ _ g6
            have n0 := cell_of_row wF x7 0 _ _ _ g7
            have n1 := cell_of_row wF x7 1 _ _ _ g7
            have n2 := cell_of_row wF x7 2 _ _ _ g7
            have Hsa := Lib.hid (hra.1.ext hbF)
            have Hsb := Lib.hid (hrb.1.ext hbF)
            have hla := hra.2
            have hlb := hrb.2
            clear R1F R2F hb1c hb2c hq6w hq6 hq6' hq7 g6 g7 hne hne' e6 e6b e7 hc6 hc7 hs6 hs7 hx6 hx7 G1 G2 GF E1 E2 A1 A2 R1 R2 hκ hrec e33 e38 da db a0 a1 a2 b0 b1 b2 hra hrb hbr
            have hdiff : ∀ {cond : Prop}, (ka = kb ∧ ba = bb ∧ la = lb → False) → rr = false := by
              intro _ h
              cases rr with
              | false => rfl
              | true =>
                exfalso
                have h2 := (HR.out.1 rfl).2
                have h3 := Hga.out
                rw [h2, Hgb.out] at h3
                simp at h3
                exact h ⟨h3.1.symm, h3.2.2.symm, h3.2.1.symm⟩
            by_cases hk1 : ka = kb
            · subst hk1
              by_cases hb1 : ba = bb
              · subst hb1
                by_cases hd : la = lb
                · have Hd := Lib.hid hd
                  have Heq2 := Lib.hid (show (pls us).take (k + 1) = (pls vs).take (k + 1) by rw [Hta.out, Htb.out, Heq.out, Hd.out])
                  clear hdiff hd
                  go_wp2_with fail
                  refine (bytes_at xa xc la ya yc lb wF la.length lb.length true Hsa.out Hsb.out rfl rfl hla hlb (decide_eq_true Hd.out)).mono ?_
                  rintro e w5 ⟨rfl, nq, rfl⟩
                  have hbd := ext_drewN wF nq wF.heap.size
                  have hbE := bthen hbF hbd (Nat.le_refl _)
                  clear m0 m1 m2 n0 n1 n2 hbd
                  go_wp2_with fail
                  go_roundw
                  case rel => exact ⟨k + 1, by omega, by go_num, K1.out, K2.out, hbE, Heq2.out⟩
                  case measure => simp [intOf]; omega
                · have hrr : rr = false := hdiff (cond := True) fun h => hd h.2.2
                  subst hrr
                  clear hdiff
                  go_wp2_with fail
                  refine (bytes_at xa xc la ya yc lb wF la.length lb.length false Hsa.out Hsb.out rfl rfl hla hlb (decide_eq_false hd)).mono ?_
                  rintro e w5 ⟨rfl, nq, rfl⟩
                  have hbd := ext_drewN wF nq wF.heap.size
                  go_wp2
                  go_ret
                  exact ⟨rfl, bthen hbF hbd (Nat.le_refl _)⟩
              · have hrr : rr = false := hdiff (cond := True) fun h => hb1 h.2.1
                subst hrr
                clear hdiff
                cases ba with
                | true =>
                  have hbb : bb = false := by cases bb; rfl; exact absurd rfl hb1
                  subst hbb
                  clear hb1
                  go_wp2
                  go_ret
                  exact ⟨rfl, hbF⟩
                | false =>
                  have hbb : bb = true := by cases bb; exact absurd rfl hb1; rfl
                  subst hbb
                  clear hb1
                  go_wp2
                  go_ret
                  exact ⟨rfl, hbF⟩
            · have hrr : rr = false := hdiff (cond := True) fun h => hk1 h.1
              subst hrr
              have ek : (ka != kb) = true := by simpa using hk1
              clear hdiff hk1
              go_wp2
              go_ret
              exact ⟨rfl, hbF⟩
        · have hrr : rr = true := HR.out.2 ⟨Hcap.out, by
            have h := Heq.out
            rw [List.take_of_length_le (by rw [pls_length]; have := Hna.out; omega), List.take_of_length_le (by rw [pls_length]; have := Hnb.out; have := Hlen.out; omega)] at h
            exact h⟩
          subst hrr
          go_wp2
          go_ret
          exact ⟨rfl, hbr⟩
    · have hrr : rr = false := by
        cases rr with
        | false => rfl
        | true =>
          exfalso
          have h := congrArg List.length (HR.out.1 rfl).2
          rw [pls_length, pls_length, ← Hna.out, ← Hnb.out] at h
          exact hlen h
      subst hrr
      have e1 : (cap1 != cap2) = false := by simpa using hcap
      have e2 : (((na : Nat) : Int) != ((nb : Nat) : Int)) = true := by simp; omega
      clear hcap hlen
      go_enter Try.func16, Try.ntmps16
      go_wp2
      go_ret
      exact ⟨rfl, hb02⟩
  · have hrr : rr = false := by
      cases rr with
      | false => rfl
      | true => exact absurd (HR.out.1 rfl).1 hcap
    subst hrr
    have e1 : (cap1 != cap2) = true := by simpa using hcap
    clear hcap
    go_enter Try.func16, Try.ntmps16
    go_wp2
    go_ret
    exact ⟨rfl, hb02⟩
end Go.Proofs.Ytmaagkdehdmhlaa
