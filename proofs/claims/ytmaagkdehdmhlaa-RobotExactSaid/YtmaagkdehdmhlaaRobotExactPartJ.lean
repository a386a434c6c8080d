/- Several texts of this claim, one behind the other: DrvNew, DrvOps. -/
import Derived.Test.YtmaagkdehdmhlaaRobotExactPartI
import Derived.Test.YtmaagkdehdmhlaaRobotExactPartB
import Derived.Test.YtmaagkdehdmhlaaRegionChainL
/- drive.New, Load. -/
namespace Go.Proofs.Ytmaagkdehdmhlaa
open Go.RowKit

theorem wpList_store_part {P : Program} {w : World} {ops : Array Oper} {rest : List Oper} {o : Oper} {ac : Act} {Q : Exit → Act → World → Prop} (hgd : o.guard = none) (hd : o.dst = none) (ty : TypeId) (xo vo : Operand) (ho : o.op = .store ty xo vo)
    (g i : Nat) (T : TypeId) (cur cs new : Array Value) (hg : w.heap[g]? = some (.cells cur T (0, 0))) (hs : i + cs.size ≤ cur.size) (hx : ac.eval xo = .pointer (some ⟨g, i, none⟩)) (hv : ac.eval vo = .agg cs) (hinfo : (P.info? ty).map (·.size) = some cs.size) (h1 : ∀ v ∈ cs.toList, v.oneCell' = true)
    (hnew : (cur.toList.take i ++ cs.toList ++ cur.toList.drop (i + cs.size)).toArray = new) (h : wpList P ops Q rest ac (w.setRow g new)) : wpList P ops Q (o :: rest) ac w := by
  subst hnew
  refine wpList_plain hgd fun K hK => ?_
  have hr := run_storeVar_elem (P := P) w g i T ty cur cs hg hs hinfo h1
  unfold Oper.wp execOp
  simp only [ho, hx, hv, Instr.storeAt, Instr.sureAddr, Sem.run_bind, Sem.run_pure, Result.andThen_ok, hr]
  have := hK _ _ h
  simp only [Oper.upon, hd, Act.put]
  exact this
variable {B : Nat} {K : Nat → Prop} {w w' : World} {d g : Nat} {M : Med} {at_ : Int} {a : Option Addr} {k c : Nat} {cs : List CellV}
set_option maxRecDepth 100000 in
set_option maxHeartbeats 4000000 in
/-- Load, at a variable of a drive's, whatever it holds. -/
theorem drv_load (x0 x1 : Value) (q cap : Int) (aM : Option Addr) (cM n : Nat) (us : List CellV) (w : World) (hobj : w.heap[d]? = some (.cells #[x0, x1, .int .i64 q, .pointer (some ⟨g, 0, none⟩)] 61 (0, 0))) (hlow : B ≤ d) (hkd : K d) (hB : Up B K w) (hs : CMat w aM us) (hn : n = us.length) (hn2 : n ≤ 100000) (hx : ∀ x ∈ us, x.d.l.length ≤ 140737488355328) :
    Calls Try.prog 42 #[.pointer (some ⟨d, 0, none⟩), .agg #[.int .i64 cap, .slice aM n cM]] w fun e w' => e = .returned (.tuple #[]) ∧ ∃ a' c' cs', DrvAt B K w' d g ⟨cap, pls us⟩ 0 a' n c' cs' ∧ Mod (TF B K) w w' := by
  have Hs := Lib.hid hs
  have Hn := Lib.hid hn
  have Hx := Lib.hid hx
  have Hobj := Lib.hid hobj
  have hz := heap_alloc_new w (.cells #[.int .i64 cap, .slice aM n cM] 45)
  have hb := ext_alloc w (.cells #[.int .i64 cap, .slice aM n cM] 45)
  have d0 := cell_of_row _ w.heap.size 0 _ _ _ hz
  have d1 := cell_of_row _ w.heap.size 1 _ _ _ hz
  clear hs hn hx hobj
  go_enter Try.func42, Try.ntmps42
  go_wp2_with fail
  clear d0 d1
  refine (med_twin cap aM cM n us _ (Hs.out.ext hb) Hn.out hn2 Hx.out).mono ?_
  rintro e w2 ⟨a2, c2, cs2, rfl, hl2, ho2, hp2, hb2⟩
  have hb02 := bthen hb hb2 (Nat.le_refl _)
  have hkr2 : RowIn K a2 n c2 := fun x hx => by
    have hrw := ho2.row
    rw [hl2] at hrw
    obtain ⟨_, h0 | ⟨g', cur, ha, hg', _⟩⟩ := hrw
    · exact .inl h0
    · rw [ha] at hx
      simp only [Option.some.injEq, Addr.mk.injEq, and_true] at hx
      subst hx
      exact .inr ((hB.grow hb.size).up g' hg')
  have hdu2 : ∀ x ∈ cs2, RowIn K x.d.a x.d.l.length x.d.c := fun x hx => (ho2.dat x hx).rowIn fun b h1 _ => (hB.grow hb.size).up b h1
  have hobj2 := (hb02.block d (heap_lt Hobj.out)).trans Hobj.out
  have hg3 := setRow_heap w2 d _ #[.int .i64 cap, .slice a2 n c2, .int .i64 q, .pointer (some ⟨g, 0, none⟩)] _ _ hobj2
  have hm3 : Mod (fun b T => b = d ∧ T = 61) w2 (w2.setRow d #[.int .i64 cap, .slice a2 n c2, .int .i64 q, .pointer (some ⟨g, 0, none⟩)]) := Mod.one (bsetRow (Below.refl d _) (Nat.le_refl _) _) (fun b hb => setRow_other _ _ b _ hb) hobj2 hg3 ⟨rfl, rfl⟩
  have h3 : DrvAt B K (w2.setRow d #[.int .i64 cap, .slice a2 n c2, .int .i64 q, .pointer (some ⟨g, 0, none⟩)]) d g ⟨cap, pls us⟩ q a2 n c2 cs2 :=
    ⟨hlow, hkd, hg3, ⟨(ho2.mono (hB.grow hb.size).le).mod hm3 fun b T hf => ⟨fun h => by rw [hf.2] at h; revert h; decide, fun h => by rw [hf.2] at h; revert h; decide⟩, hl2, hp2⟩, by have := ho2.row.len.1; rw [hl2] at this; exact this, hkr2, hdu2⟩
  obtain ⟨h4, hm4⟩ := h3.set2 0
  have H4 := Lib.hid h4
  have HM : Hid (Mod (TF B K) w ((w2.setRow d #[.int .i64 cap, .slice a2 n c2, .int .i64 q, .pointer (some ⟨g, 0, none⟩)]).setCell ⟨d, 2, none⟩ (.int .i64 0))) := Lib.hid (((bmod hb02 _).trans (hm3.mono fun b T _ hf => by rw [hf.1, hf.2]; exact TF_d hlow hkd)).trans hm4)
  have e2 := cell_of_row _ d 2 _ _ _ hg3
  have hfz := frozen_of_row _ d 2 _ _ hg3
  clear h3 h4 hm3 hm4 hg3 ho2 hp2 hb2 hdu2
  go_wp2_with (refine wpList_store_part rfl rfl 45 (.tmp 9) (.tmp 7) rfl d 0 61 #[x0, x1, .int .i64 q, .pointer (some ⟨g, 0, none⟩)] #[.int .i64 cap, .slice a2 n c2] #[.int .i64 cap, .slice a2 n c2, .int .i64 q, .pointer (some ⟨g, 0, none⟩)] hobj2 (by simp) rfl rfl (by kernel_rfl) (by simp [Value.oneCell']) (by simp) ?_)
  go_end0
  exact ⟨rfl, a2, c2, cs2, H4.out, HM.out⟩

set_option maxRecDepth 100000 in
set_option maxHeartbeats 4000000 in
theorem drv_new (cap : Int) (aM : Option Addr) (cM n : Nat) (us : List CellV) (w : World) (hs : CMat w aM us) (hn : n = us.length) (hn2 : n ≤ 100000) (hx : ∀ x ∈ us, x.d.l.length ≤ 140737488355328) (hok : (medOf cap us).ok = true) :
    Calls Try.prog 50 #[.pointer (some ⟨g, 0, none⟩), .agg #[.int .i64 cap, .slice aM n cM]] w fun e w' => ∃ d a' c' cs', e = .returned (.tuple #[.pointer (some ⟨d, 0, none⟩), .int .i64 0]) ∧ DrvAt w.heap.size (fun b => w.heap.size ≤ b) w' d g ⟨cap, pls us⟩ 0 a' n c' cs' ∧ Below w.heap.size w w' := by
  have Hs := Lib.hid hs
  have Hn := Lib.hid hn
  have Hx := Lib.hid hx
  have hz := heap_alloc_new w (.cells #[.int .i64 cap, .slice aM n cM] 45)
  have hb := ext_alloc w (.cells #[.int .i64 cap, .slice aM n cM] 45)
  clear hs hn hx
  go_enter Try.func50, Try.ntmps50
  go_wp2_with fail
  refine (check_any cap aM cM n us true _ (Hs.out.ext hb) Hn.out (by omega) hok).mono ?_
  rintro e w2 ⟨rfl, hb2⟩
  have hb02 := bthen hb hb2 (Nat.le_refl _)
  have hz2 := (hb2.block _ (heap_lt hz)).trans hz
  have hb3 := ext_alloc w2 (.cells #[.int .i64 0, .slice none 0 0, .int .i64 0, .pointer (some ⟨g, 0, none⟩)] 61)
  have hz3 := (hb3.block _ (heap_lt hz2)).trans hz2
  have d0 := cell_of_row _ w.heap.size 0 _ _ _ hz3
  have d1 := cell_of_row _ w.heap.size 1 _ _ _ hz3
  have hobj := heap_alloc_new w2 (.cells #[.int .i64 0, .slice none 0 0, .int .i64 0, .pointer (some ⟨g, 0, none⟩)] 61)
  have hb04 := bthen hb02 hb3 (Nat.le_refl _)
  have hzl := heap_lt hz3
  clear hb2 hz hok
  go_wp2_with fail
  generalize hW3 : w2.alloc (.cells #[.int .i64 0, .slice none 0 0, .int .i64 0, .pointer (some ⟨g, 0, none⟩)] 61) = W3 at *
  clear hW3
  refine wp_region_chainL (by kernel_rfl) [4] (Badd.rel) [SpT.eq (.pointer (some ⟨w2.heap.size, 0, none⟩)), SpT.eq (.pointer (some ⟨w2.heap.size, 0, none⟩)), SpT.eq (.pointer (some ⟨w2.heap.size, 0, none⟩)), SpT.eq (.agg #[.int .i64 cap, .slice aM n cM]), SpT.top] (by kernel_rfl) (by kernel_rfl) (by kernel_rfl) (by kernel_rfl) ?_ ?_
  · refine stepsL_free rfl ?_ (stepsL_free rfl ?_ (stepsL_free rfl ?_ (stepsL_free rfl ?_ (stepsL_chain rfl (stepsL_nil)))))
    · intro ρ w' E
      have e6 : ρ (.tmp 6) = .pointer (some ⟨w2.heap.size, 0, none⟩) := E.out 6 rfl
      refine step_plain rfl ?_
      exact op_move (.inl rfl) e6 ⟨Below.refl _ _, rfl⟩
    · intro ρ w' E
      have e17 : ρ (.tmp 17) = .pointer (some ⟨w2.heap.size, 0, none⟩) := E.pre 0 rfl rfl
      refine step_plain rfl ?_
      refine op_val (v := .pointer (some ⟨w2.heap.size, 0, none⟩)) (w' := w') ?_ ⟨Below.refl _ _, rfl⟩
      have hcon := E.con
      clear E
      go_simp
    · intro ρ w' E
      have e18 : ρ (.tmp 18) = .pointer (some ⟨w2.heap.size, 0, none⟩) := E.pre 1 rfl rfl
      refine step_plain rfl ?_
      refine op_val (v := .pointer (some ⟨w2.heap.size, 0, none⟩)) (w' := w') ?_ ⟨Below.refl _ _, rfl⟩
      have hcon := E.con
      clear E
      go_simp
    · intro ρ w' E
      have e3 : ρ (.tmp 3) = .pointer (some ⟨w.heap.size, 0, none⟩) := E.out 3 rfl
      refine step_plain rfl ?_
      refine op_val (v := .agg #[.int .i64 cap, .slice aM n cM]) (w' := w') ?_ ⟨Below.refl _ _, rfl⟩
      have k0 := (World.cell?_of_block (w := W3) (E.t.block _ hzl)).trans d0
      have k1 := (World.cell?_of_block (w := W3) (E.t.block _ hzl)).trans d1
      have hcon := E.con
      clear E d0 d1
      go_simp
  · intro ρ1 w1c G1 E1
    have e19 : ρ1 (.tmp 19) = .pointer (some ⟨w2.heap.size, 0, none⟩) := E1.pre 2 rfl rfl
    have e20 : ρ1 (.tmp 20) = .agg #[.int .i64 cap, .slice aM n cM] := E1.pre 3 rfl rfl
    refine step_plain rfl ?_
    refine op_call (f := 42) (args := #[.pointer (some ⟨w2.heap.size, 0, none⟩), .agg #[.int .i64 cap, .slice aM n cM]]) (w' := w1c) (by have hcon := E1.con; have hfn := E1.fn; clear E1 d0 d1; go_simp) ?_
    have hb05 := bthen hb04 G1 (Nat.le_refl _)
    refine (drv_load (B := w.heap.size) (K := fun b => w.heap.size ≤ b) _ _ 0 cap aM cM n us _ ((G1.block _ (heap_lt hobj)).trans hobj) hb02.size hb02.size ⟨hb05.size, fun b hb => Nat.le_trans hb05.size hb⟩ (Hs.out.ext hb05) Hn.out hn2 Hx.out).mono ?_
    rintro e w5 ⟨rfl, a5, c5, cs5, h5, hm5⟩
    refine ⟨_, rfl, trivial, ?_⟩
    intro σ wF GF hκ
    simp only [upd, updL, dstsOf', elemB, List.filterMap_cons, List.filterMap_nil, Nat.reduceAdd, Nat.reduceBEq, Bool.or_false, Bool.false_or, Bool.or_true, Bool.true_or, cond_true, cond_false, Nat.zero_add]
    have H5 := Lib.hid (h5.ext GF)
    have HbF := Lib.hid (bthen (hb05.trans (hm5.below (fun b T h => h.1) hb05.size)) GF (Nat.le_refl _))
    clear h5 hm5 d0 d1 hobj hb05 G1 GF hκ E1
    go_wp2
    go_ret2
    exact ⟨_, a5, c5, cs5, rfl, H5.out, HbF.out⟩
end Go.Proofs.Ytmaagkdehdmhlaa

/- drive.Drive's End, Mark. -/
namespace Go.Proofs.Ytmaagkdehdmhlaa
open Go.RowKit

variable {B : Nat} {K : Nat → Prop} {w w' : World} {d g : Nat} {M : Med} {at_ : Int} {a : Option Addr} {k c : Nat} {cs : List CellV}
/-- A drive and its power, whatever rows it has. -/
def DrvP (B : Nat) (K : Nat → Prop) (w : World) (d g : Nat) (M : Med) (at_ : Int) (s : PS) : Prop := (∃ a k c cs, DrvAt B K w d g M at_ a k c cs) ∧ Pow B w g s
def dvEnd (s : PS) (M : Med) (p : Nat) : Int × PS × Med :=
  if s.off then (5, s, M) else if s.spend.1 then (0, s.spend.2, ⟨M.cap, M.cells.take p⟩) else if 0 ≤ s.spend.2.torn then (5, s.spend.2, ⟨M.cap, M.cells.take p⟩) else (5, s.spend.2, M)

def dvMark (s : PS) (M : Med) (p : Nat) : Int × PS × Med × Int :=
  if s.off then (5, s, M, p) else if M.wrong (p : Int) 0 false ≠ 0 then (M.wrong (p : Int) 0 false, s, M, p) else if s.spend.1 then (0, s.spend.2, M.lay p ⟨2, [], false⟩, (p : Int) + 1) else if 0 ≤ s.spend.2.torn then (5, s.spend.2, M.lay p ⟨2, [], false⟩, p) else (5, s.spend.2, M, p)

set_option maxRecDepth 100000 in
set_option maxHeartbeats 4000000 in
theorem drv_mark (p : Nat) (s s' : PS) (E : Int) (M' : Med) (at' : Int) (w : World) (hd : DrvP B K w d g M (p : Int) s) (hB : Up B K w) (hp : p ≤ M.cells.length) (hk : M.cells.length ≤ 90000) (hr : dvMark s M p = (E, s', M', at')) :
    Calls Try.prog 29 #[.pointer (some ⟨d, 0, none⟩)] w fun e w' => e = .returned (.int .i64 E) ∧ DrvP B K w' d g M' at' s' ∧ Mod (VF B K) w w' := by
  obtain ⟨⟨a, k, c, cs, h⟩, hpw⟩ := hd
  have hpk : p ≤ k := by rw [← h.r.size]; exact hp
  have hk : k ≤ 90000 := by rw [← h.r.size]; exact hk
  have H := Lib.hid h
  have HR := Lib.hid hr
  have HP := Lib.hid hpw
  have hdl := heap_lt h.obj
  obtain ⟨d0, d1, d2, d3⟩ := h.cells
  clear h hpw hr hp d0 d1 d2
  go_enter Try.func29, Try.ntmps29
  go_wp2_with fail
  cases hoff : s.off with
  | true =>
    have hl := HR.out
    unfold dvMark at hl
    rw [if_pos hoff] at hl
    simp only [Prod.mk.injEq] at hl
    obtain ⟨rfl, rfl, rfl, rfl⟩ := hl
    refine (off_at HP.out hoff).mono ?_
    rintro e w2 ⟨rfl, rfl⟩
    go_wp2
    go_ret
    exact ⟨rfl, ⟨⟨a, k, c, cs, H.out⟩, HP.out⟩, Mod.refl _ _⟩
  | false =>
    obtain ⟨⟨r, s1⟩, hsp⟩ : ∃ x, x = s.spend := ⟨_, rfl⟩
    obtain ⟨Wr, hWr⟩ : ∃ x, x = M.wrong (p : Int) 0 false := ⟨_, rfl⟩
    have hl := HR.out
    unfold dvMark at hl
    rw [if_neg (by rw [hoff]; decide), ← hsp, ← hWr] at hl
    have HL := Lib.hid hl
    have Hsp := Lib.hid hsp.symm
    have HWr := Lib.hid hWr.symm
    clear hl hsp HR hWr
    refine (off_at HP.out hoff).mono ?_
    rintro e w2 ⟨rfl, rfl⟩
    obtain ⟨d0, d1, d2, d3'⟩ := H.out.cells
    clear hoff d3'
    go_wp2_with fail
    refine wp_region_sp (by kernel_rfl) [Sp.eq (.pointer (some ⟨d, 0, none⟩)), Sp.eq (.pointer (some ⟨d, 0, none⟩)), Sp.eq (.pointer (some ⟨d, 0, none⟩)), Sp.eq (.pointer (some ⟨d, 0, none⟩)), Sp.eq (.agg #[.int .i64 M.cap, .slice a k c]), Sp.eq (.pointer (some ⟨d, 0, none⟩)), Sp.eq (.pointer (some ⟨d, 0, none⟩)), Sp.eq (.pointer (some ⟨d, 0, none⟩)), Sp.eq (.pointer (some ⟨d, 2, none⟩)), Sp.eq (.int .i64 (p : Int)), Sp.eq (.int .i64 Wr), Sp.eq (.int .i64 Wr)] (by kernel_rfl) ?_ ?_
    · refine stepsOk_cons ?_ (stepsOk_cons ?_ (stepsOk_cons ?_ (stepsOk_cons ?_ (stepsOk_cons ?_ (stepsOk_cons ?_ (stepsOk_cons ?_ (stepsOk_cons ?_ (stepsOk_cons ?_ (stepsOk_cons ?_ (stepsOk_cons ?_ (stepsOk_cons ?_ (stepsOk_nil))))))))))))
      · intro ρ w' E
        have e0 : ρ (.tmp 0) = .pointer (some ⟨d, 0, none⟩) := E.out 0 rfl
        refine step_plain rfl ?_
        exact op_move (.inl rfl) e0 ⟨Below.refl _ _, rfl⟩
      · intro ρ w' E
        have e9 : ρ (.tmp 9) = .pointer (some ⟨d, 0, none⟩) := E.pre 0 rfl
        refine step_plain rfl ?_
        refine op_val (v := .pointer (some ⟨d, 0, none⟩)) (w' := w') ?_ ⟨Below.refl _ _, rfl⟩
        have hcon := E.con
        clear E
        go_simp
      · intro ρ w' E
        have e10 : ρ (.tmp 10) = .pointer (some ⟨d, 0, none⟩) := E.pre 1 rfl
        refine step_plain rfl ?_
        refine op_val (v := .pointer (some ⟨d, 0, none⟩)) (w' := w') ?_ ⟨Below.refl _ _, rfl⟩
        have hcon := E.con
        clear E
        go_simp
      · intro ρ w' E
        have e11 : ρ (.tmp 11) = .pointer (some ⟨d, 0, none⟩) := E.pre 2 rfl
        refine step_plain rfl ?_
        refine op_val (v := .pointer (some ⟨d, 0, none⟩)) (w' := w') ?_ ⟨Below.refl _ _, rfl⟩
        have hcon := E.con
        clear E
        go_simp
      · intro ρ w' E
        have e12 : ρ (.tmp 12) = .pointer (some ⟨d, 0, none⟩) := E.pre 3 rfl
        refine step_plain rfl ?_
        refine op_val (v := .agg #[.int .i64 M.cap, .slice a k c]) (w' := w') ?_ ⟨Below.refl _ _, rfl⟩
        have k0 := (World.cell?_of_block (w := w) (E.below.block _ hdl)).trans d0
        have k1 := (World.cell?_of_block (w := w) (E.below.block _ hdl)).trans d1
        have hcon := E.con
        clear E d0 d1 d2
        go_simp
      · intro ρ w' E
        have e0 : ρ (.tmp 0) = .pointer (some ⟨d, 0, none⟩) := E.out 0 rfl
        refine step_plain rfl ?_
        exact op_move (.inl rfl) e0 ⟨Below.refl _ _, rfl⟩
      · intro ρ w' E
        have e14 : ρ (.tmp 14) = .pointer (some ⟨d, 0, none⟩) := E.pre 5 rfl
        refine step_plain rfl ?_
        refine op_val (v := .pointer (some ⟨d, 0, none⟩)) (w' := w') ?_ ⟨Below.refl _ _, rfl⟩
        have hcon := E.con
        clear E
        go_simp
      · intro ρ w' E
        have e15 : ρ (.tmp 15) = .pointer (some ⟨d, 0, none⟩) := E.pre 6 rfl
        refine step_plain rfl ?_
        refine op_val (v := .pointer (some ⟨d, 0, none⟩)) (w' := w') ?_ ⟨Below.refl _ _, rfl⟩
        have hcon := E.con
        clear E
        go_simp
      · intro ρ w' E
        have e16 : ρ (.tmp 16) = .pointer (some ⟨d, 0, none⟩) := E.pre 7 rfl
        refine step_plain rfl ?_
        refine op_val (v := .pointer (some ⟨d, 2, none⟩)) (w' := w') ?_ ⟨Below.refl _ _, rfl⟩
        have hcon := E.con
        clear E
        go_simp
      · intro ρ w' E
        have e17 : ρ (.tmp 17) = .pointer (some ⟨d, 2, none⟩) := E.pre 8 rfl
        refine step_plain rfl ?_
        refine op_val (v := .int .i64 (p : Int)) (w' := w') ?_ ⟨Below.refl _ _, rfl⟩
        have hk := (World.cell?_of_block (w := w) (E.below.block _ hdl)).trans d2
        have hcon := E.con
        clear E d0 d1 d2
        go_simp
      · intro ρ w' E
        have e13 : ρ (.tmp 13) = .agg #[.int .i64 M.cap, .slice a k c] := E.pre 4 rfl
        have e18 : ρ (.tmp 18) = .int .i64 (p : Int) := E.pre 9 rfl
        refine step_plain rfl ?_
        refine op_call (f := 51) (args := #[.agg #[.int .i64 M.cap, .slice a k c], .int .i64 (p : Int), .slice none 0 0, .bool false]) (w' := w') (by have hcon := E.con; have hfn := E.fn; clear E; go_simp) ?_
        refine (wrong_any M.cap a c k M (p : Int) none 0 0 false Wr w' rfl H.out.r.size HWr.out).mono ?_
        rintro e wz ⟨rfl, hbz⟩
        exact ⟨_, rfl, hbz, rfl⟩
      · intro ρ w' E
        have e19 : ρ (.tmp 19) = .int .i64 Wr := E.pre 10 rfl
        refine step_plain rfl ?_
        exact op_move (.inr rfl) e19 ⟨Below.refl _ _, rfl⟩
    · intro σ w2 hb hall
      have h3 : σ 3 = .int .i64 Wr := by obtain ⟨_, _, _, _, _, _, _, _, _, _, _, h, _⟩ := hall; exact h
      clear hall
      simp only [upd, updL, dstsOf', elemB, List.filterMap_cons, List.filterMap_nil, Nat.reduceAdd, Nat.reduceBEq, Bool.or_false, Bool.false_or, Bool.or_true, Bool.true_or, cond_true, cond_false, Nat.zero_add, h3]
      have H2 := Lib.hid (H.out.ext hb)
      have HP2 := Lib.hid (HP.out.ext hb)
      have HM2 : Hid (Mod (VF B K) w w2) := Lib.hid (bmod hb _)
      have hB2 := hB.grow hb.size
      clear hb d0 d1 d2 d3 H HP h3
      by_cases hW : Wr = 0
      · subst hW
        have hl := HL.out
        rw [if_neg (by decide)] at hl
        have HL2 := Lib.hid hl
        obtain ⟨d0, d1, d2, d3⟩ := H2.out.cells
        clear hl HL d0 d1 d2
        go_wp2_with fail
        refine (spend_at hB2.le HP2.out Hsp.out).mono ?_
        rintro e w3 ⟨rfl, hp3, hm3⟩
        have H3 := Lib.hid (H2.out.pf hm3)
        have HP3 := Lib.hid hp3
        have HM3 := Lib.hid (HM2.out.trans (PF.vf (K := K) hm3))
        have hB3 := hB2.grow hm3.size
        clear hp3 hm3 d3 HP2 H2 HM2
        obtain ⟨d0, d1, d2, d3⟩ := H3.out.cells
        cases r with
        | true =>
          have hl := HL2.out
          simp only [if_true, Prod.mk.injEq] at hl
          obtain ⟨rfl, rfl, rfl, rfl⟩ := hl
          clear d0 d1 d2
          go_wp2_with fail
          refine (drv_lay p 2 none 0 0 [] w3 H3.out hB3 hpk hk (Src.nil _ _) rfl (by decide)).mono ?_
          rintro e w4 ⟨rfl, a4, c4, cs4, h4, hm4⟩
          obtain ⟨h5, hm5⟩ := h4.set2 ((p : Int) + 1)
          obtain ⟨e0, e1, e2, e3⟩ := h4.cells
          have hfz := frozen_of_row w4 d 2 _ _ h4.obj
          have HF : Hid (DrvP B K (w4.setCell ⟨d, 2, none⟩ (.int .i64 ((p : Int) + 1))) d g (M.lay p ⟨2, [], false⟩) ((p : Int) + 1) s1) := Lib.hid ⟨⟨_, _, _, _, h5⟩, (HP3.out.tf hm4).tf hm5⟩
          have HMF := Lib.hid ((HM3.out.trans (TF.vf hm4)).trans (TF.vf hm5))
          clear h4 hm4 h5 hm5 d3 e0 e1 e3
          go_wp2
          go_ret
          exact ⟨rfl, HF.out, HMF.out⟩
        | false =>
          have hl := HL2.out
          simp only [Bool.false_eq_true, if_false] at hl
          have HL3 := Lib.hid hl
          clear hl HL2 d0 d1 d2
          go_wp2_with fail
          refine (torn_at HP3.out rfl).mono ?_
          rintro e w4 ⟨rfl, rfl⟩
          by_cases ht : 0 ≤ s1.torn
          · have hl := HL3.out
            rw [if_pos ht] at hl
            simp only [Prod.mk.injEq] at hl
            obtain ⟨rfl, rfl, rfl, rfl⟩ := hl
            go_wp2_with fail
            refine (drv_lay p 2 none 0 0 [] w3 H3.out hB3 hpk hk (Src.nil _ _) rfl (by decide)).mono ?_
            rintro e w4 ⟨rfl, a4, c4, cs4, h4, hm4⟩
            have HF : Hid (DrvP B K w4 d g (M.lay p ⟨2, [], false⟩) (p : Int) s1) := Lib.hid ⟨⟨_, _, _, _, h4⟩, HP3.out.tf hm4⟩
            have HMF := Lib.hid (HM3.out.trans (TF.vf hm4))
            clear h4 hm4 d3
            go_wp2
            go_ret
            exact ⟨rfl, HF.out, HMF.out⟩
          · have hl := HL3.out
            rw [if_neg ht] at hl
            simp only [Prod.mk.injEq] at hl
            obtain ⟨rfl, rfl, rfl, rfl⟩ := hl
            go_wp2
            go_ret
            exact ⟨rfl, ⟨⟨a, k, c, cs, H3.out⟩, HP3.out⟩, HM3.out⟩
      · have hl := HL.out
        rw [if_pos hW] at hl
        simp only [Prod.mk.injEq] at hl
        obtain ⟨rfl, rfl, rfl, rfl⟩ := hl
        have eW : (Wr != 0) = true := by simpa using hW
        clear hW HL
        go_wp2
        go_ret
        exact ⟨rfl, ⟨⟨a, k, c, cs, H2.out⟩, HP2.out⟩, HM2.out⟩
end Go.Proofs.Ytmaagkdehdmhlaa
