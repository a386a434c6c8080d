/- Several texts of this claim, one behind the other: DrvRead, DrvNew. -/
import Derived.Test.YtclkkhpnnbkfmaaVolumeBackPartI
import Derived.Test.YtclkkhpnnbkfmaaVolumeBackPartC
import Derived.Test.YtclkkhpnnbkfmaaVolumeBackPartB
/- A drive's tape: read. -/
namespace Go.Proofs.Ytclkkhpnnbkfmaa
open Go.RowKit

variable {B : Nat} {K : Nat → Prop} {w w' : World} {d g : Nat} {M : Med} {at_ : Int} {a : Option Addr} {k c : Nat} {cs : List CellV}
theorem Badd.rel : Trel (fun w1 w2 : World => Below w1.heap.size w1 w2) := ⟨fun h k => bthen h k (Nat.le_refl _), fun h => h⟩
theorem look_err (m : Med) (p : Int) : (m.look p).2 = 0 ∨ (m.look p).2 = 6 ∨ (m.look p).2 = 15 ∨ (m.look p).2 = 8 := by
  unfold Med.look
  split
  · exact .inr (.inr (.inr rfl))
  · split
    · exact .inr (.inr (.inr rfl))
    · split
      · exact .inr (.inr (.inl rfl))
      split
      · exact .inr (.inl rfl)
      · exact .inl rfl
set_option maxRecDepth 100000 in
set_option maxHeartbeats 4000000 in
theorem drv_read0 (n : Nat) (l : List Byte) (Er : Int) (w : World) (h : DrvAt B K w d g M at_ a k c cs) (hB : B ≤ w.heap.size) (hx : ∀ x ∈ cs, x.d.l.length ≤ 140737488355328) (hr : M.look at_ = (l, Er)) (hn : n = l.length) (ha0 : -9223372036854775808 ≤ at_) (ha1 : at_ ≤ 9223372036854775806) :
    Calls Try.prog 101 #[.pointer (some ⟨d, 0, none⟩)] w fun e w' => ∃ a' c', e = .returned (.tuple #[.slice a' n c', .int .i64 Er]) ∧ Own w' w.heap.size 5 1 a' n c' (bvs l) ∧ DrvAt B K w' d g M (if Er = 8 then at_ else at_ + 1) a k c cs ∧ Mod (TF B K) w w' := by
  have HD := Lib.hid h
  have Hx := Lib.hid hx
  have HRd : Hid ((medOf M.cap cs).look at_ = (l, Er)) := Lib.hid (by rw [h.of]; exact hr)
  have Hn := Lib.hid hn
  have hk63 := h.len63
  have hdl := heap_lt h.obj
  have hE : Er = 0 ∨ Er = 6 ∨ Er = 15 ∨ Er = 8 := by have := look_err M at_; rw [hr] at this; exact this
  obtain ⟨d0, d1, d2, d3⟩ := h.cells
  clear h hx hr hn d3
  go_enter Try.func101, Try.ntmps101
  go_wp2_with fail
  refine wp_region_chainL (by kernel_rfl) [12, 13] (Badd.rel) [SpT.eq (.pointer (some ⟨d, 0, none⟩)), SpT.eq (.pointer (some ⟨d, 0, none⟩)), SpT.eq (.pointer (some ⟨d, 0, none⟩)), SpT.eq (.agg #[.int .i64 M.cap, .slice a k c]), SpT.eq (.pointer (some ⟨d, 0, none⟩)), SpT.eq (.pointer (some ⟨d, 0, none⟩)), SpT.eq (.pointer (some ⟨d, 2, none⟩)), SpT.eq (.int .i64 at_), ⟨fun w' v => ∃ (a' : Option Addr) (c' : Nat), v = .tuple #[.slice a' n c', .int .i64 Er] ∧ Own w' w.heap.size 5 1 a' n c' (bvs l), fun _ _ _ ⟨a', c', h, ho⟩ hb => ⟨a', c', h, ho.ext hb⟩⟩, ⟨fun w' v => ∃ (a' : Option Addr) (c' : Nat), v = .tuple #[.slice a' n c', .int .i64 Er] ∧ Own w' w.heap.size 5 1 a' n c' (bvs l), fun _ _ _ ⟨a', c', h, ho⟩ hb => ⟨a', c', h, ho.ext hb⟩⟩, ⟨fun w' v => ∃ (a' : Option Addr) (c' : Nat), v = .slice a' n c' ∧ Own w' w.heap.size 5 1 a' n c' (bvs l), fun _ _ _ ⟨a', c', h, ho⟩ hb => ⟨a', c', h, ho.ext hb⟩⟩, SpT.eq (.int .i64 Er), SpT.top, SpT.top] (by kernel_rfl) (by kernel_rfl) (by kernel_rfl) (by kernel_rfl) ?_ ?_
  · refine stepsL_free rfl ?_ (stepsL_free rfl ?_ (stepsL_free rfl ?_ (stepsL_free rfl ?_ (stepsL_free rfl ?_ (stepsL_free rfl ?_ (stepsL_free rfl ?_ (stepsL_free rfl ?_ (stepsL_free rfl ?_ (stepsL_free rfl ?_ (stepsL_free rfl ?_ (stepsL_free rfl ?_ (stepsL_chain rfl (stepsL_chain rfl (stepsL_nil))))))))))))))
    · intro ρ w' E
      have e0 : ρ (.tmp 0) = .pointer (some ⟨d, 0, none⟩) := E.out 0 rfl
      refine step_plain rfl ?_
      exact op_move (.inl rfl) e0 ⟨Below.refl _ _, rfl⟩
    · intro ρ w' E
      have e7 : ρ (.tmp 7) = .pointer (some ⟨d, 0, none⟩) := E.pre 0 rfl rfl
      refine step_plain rfl ?_
      refine op_val (v := .pointer (some ⟨d, 0, none⟩)) (w' := w') ?_ ⟨Below.refl _ _, rfl⟩
      have hcon := E.con
      clear E
      go_simp
    · intro ρ w' E
      have e8 : ρ (.tmp 8) = .pointer (some ⟨d, 0, none⟩) := E.pre 1 rfl rfl
      refine step_plain rfl ?_
      refine op_val (v := .pointer (some ⟨d, 0, none⟩)) (w' := w') ?_ ⟨Below.refl _ _, rfl⟩
      have hcon := E.con
      clear E
      go_simp
    · intro ρ w' E
      have e9 : ρ (.tmp 9) = .pointer (some ⟨d, 0, none⟩) := E.pre 2 rfl rfl
      refine step_plain rfl ?_
      refine op_val (v := .agg #[.int .i64 M.cap, .slice a k c]) (w' := w') ?_ ⟨Below.refl _ _, rfl⟩
      have k0 := (World.cell?_of_block (w := w) (E.t.block _ hdl)).trans d0
      have k1 := (World.cell?_of_block (w := w) (E.t.block _ hdl)).trans d1
      have hcon := E.con
      clear E d0 d1 d2
      go_simp
    · intro ρ w' E
      have e0 : ρ (.tmp 0) = .pointer (some ⟨d, 0, none⟩) := E.out 0 rfl
      refine step_plain rfl ?_
      exact op_move (.inl rfl) e0 ⟨Below.refl _ _, rfl⟩
    · intro ρ w' E
      have e11 : ρ (.tmp 11) = .pointer (some ⟨d, 0, none⟩) := E.pre 4 rfl rfl
      refine step_plain rfl ?_
      refine op_val (v := .pointer (some ⟨d, 0, none⟩)) (w' := w') ?_ ⟨Below.refl _ _, rfl⟩
      have hcon := E.con
      clear E
      go_simp
    · intro ρ w' E
      have e12 : ρ (.tmp 12) = .pointer (some ⟨d, 0, none⟩) := E.pre 5 rfl rfl
      refine step_plain rfl ?_
      refine op_val (v := .pointer (some ⟨d, 2, none⟩)) (w' := w') ?_ ⟨Below.refl _ _, rfl⟩
      have hcon := E.con
      clear E
      go_simp
    · intro ρ w' E
      have e13 : ρ (.tmp 13) = .pointer (some ⟨d, 2, none⟩) := E.pre 6 rfl rfl
      refine step_plain rfl ?_
      refine op_val (v := .int .i64 at_) (w' := w') ?_ ⟨Below.refl _ _, rfl⟩
      have k0 := (World.cell?_of_block (w := w) (E.t.block _ hdl)).trans d2
      have hcon := E.con
      clear E d0 d1 d2
      go_simp
    · intro ρ w' E
      have e10 : ρ (.tmp 10) = .agg #[.int .i64 M.cap, .slice a k c] := E.pre 3 rfl rfl
      have e14 : ρ (.tmp 14) = .int .i64 at_ := E.pre 7 rfl rfl
      refine step_plain rfl ?_
      refine op_call (f := 126) (args := #[.agg #[.int .i64 M.cap, .slice a k c], .int .i64 at_]) (w' := w') (by have hcon := E.con; have hfn := E.fn; clear E d0 d1 d2; go_simp) ?_
      refine (look_any M.cap a c k cs at_ l Er w' (HD.out.r.mat.ext E.t) HD.out.r.len.symm hk63 Hx.out HRd.out).mono ?_
      rintro e wz ⟨a', c', n', rfl, hn', ho', hb'⟩
      obtain rfl : n = n' := Hn.out.trans hn'.symm
      exact ⟨_, rfl, hb', a', c', rfl, ho'.mono E.t.size⟩
    · intro ρ w' E
      have p15 : (fun w' v => ∃ (a' : Option Addr) (c' : Nat), v = .tuple #[.slice a' n c', .int .i64 Er] ∧ Own w' w.heap.size 5 1 a' n c' (bvs l)) w' (ρ (.tmp 15)) := E.pre 8 rfl rfl
      refine step_plain rfl ?_
      exact op_move (.inl rfl) rfl ⟨Below.refl _ _, p15⟩
    · intro ρ w' E
      have p6 : (fun w' v => ∃ (a' : Option Addr) (c' : Nat), v = .tuple #[.slice a' n c', .int .i64 Er] ∧ Own w' w.heap.size 5 1 a' n c' (bvs l)) w' (ρ (.tmp 6)) := E.pre 9 rfl rfl
      refine step_plain rfl ?_
      obtain ⟨a', c', e6, ho⟩ := p6
      refine op_val (v := .slice a' n c') (w' := w') (by have hcon := E.con; clear E d0 d1 d2; go_simp) ⟨Below.refl _ _, a', c', rfl, ho⟩
    · intro ρ w' E
      have p6 : (fun w' v => ∃ (a' : Option Addr) (c' : Nat), v = .tuple #[.slice a' n c', .int .i64 Er] ∧ Own w' w.heap.size 5 1 a' n c' (bvs l)) w' (ρ (.tmp 6)) := E.pre 9 rfl rfl
      refine step_plain rfl ?_
      refine op_val (v := .int .i64 Er) (w' := w') ?_ ⟨Below.refl _ _, rfl⟩
      obtain ⟨a', c', e6, ho⟩ := p6
      have hcon := E.con
      clear E d0 d1 d2
      go_simp
  · intro ρ1 w1c G1 E1
    have p16 : (fun w' v => ∃ (a' : Option Addr) (c' : Nat), v = .slice a' n c' ∧ Own w' w.heap.size 5 1 a' n c' (bvs l)) w1c (ρ1 (.tmp 16)) := E1.pre 10 rfl rfl
    refine step_plain rfl ?_
    obtain ⟨a4, c4, e16, ho4⟩ := p16
    refine op_move (.inr rfl) e16 ⟨Below.refl _ _, ?_⟩
    intro ρ2 w2c G2 E2
    have e17 : ρ2 (.tmp 17) = .int .i64 Er := E2.pre 11 rfl rfl
    refine step_plain rfl ?_
    refine op_move (.inr rfl) e17 ⟨trivial, ?_⟩
    intro σ w2 GF hκ
    have h4 : σ 4 = .slice a4 n c4 := hκ 12 4 rfl rfl
    have h5 : σ 5 = .int .i64 Er := hκ 13 5 rfl rfl
    simp only [upd, updL, dstsOf', elemB, List.filterMap_cons, List.filterMap_nil, Nat.reduceAdd, Nat.reduceBEq, Bool.or_false, Bool.false_or, Bool.or_true, Bool.true_or, cond_true, cond_false, Nat.zero_add, h4, h5]
    have hb := bthen (bthen G1 G2 (Nat.le_refl _)) GF (Nat.le_refl _)
    have ho4 := (ho4.ext G2).ext GF
    have h2 := HD.out.ext hb
    have Hb := Lib.hid hb
    have Ho := Lib.hid ho4
    clear d0 d1 d2 hb ho4 h4 h5 G1 G2 GF hκ E1 E2 e17
    by_cases h8 : Er = 8
    · subst h8
      have H2 := Lib.hid h2
      clear h2 hE
      go_wp2
      go_ret2
      exact ⟨a4, c4, rfl, Ho.out, by first | exact H2.out | (rw [if_pos rfl]; exact H2.out), bmod Hb.out _⟩
    · obtain ⟨hF, hm⟩ := h2.set2 (at_ + 1)
      obtain ⟨d0, d1, d2, d3⟩ := h2.cells
      have hfz := frozen_of_row w2 d 2 _ _ h2.obj
      have H8 := Lib.hid h8
      have HF := Lib.hid hF
      have HM := Lib.hid ((bmod Hb.out (TF B K)).trans hm)
      have Ho2 := Lib.hid (Ho.out.mod ((Mod.refl (fun b T => T = 88) w2).setCell h2.obj rfl 2 (.int .i64 (at_ + 1))) fun _ _ _ hf => absurd (show 5 = 88 from hf) (by decide))
      clear hF hm h2 d0 d1 d3
      rcases hE with rfl | rfl | rfl | rfl
      · clear h8
        go_wp2
        go_ret2
        exact ⟨a4, c4, rfl, Ho2.out, by first | exact HF.out | (rw [if_neg H8.out]; exact HF.out), HM.out⟩
      · clear h8
        go_wp2
        go_ret2
        exact ⟨a4, c4, rfl, Ho2.out, by first | exact HF.out | (rw [if_neg H8.out]; exact HF.out), HM.out⟩
      · clear h8
        go_wp2
        go_ret2
        exact ⟨a4, c4, rfl, Ho2.out, by first | exact HF.out | (rw [if_neg H8.out]; exact HF.out), HM.out⟩
      · exact absurd rfl h8
end Go.Proofs.Ytclkkhpnnbkfmaa

/- drive.New, Load. -/
namespace Go.Proofs.Ytclkkhpnnbkfmaa
open Go.RowKit

theorem wpList_store_part {P : Program} {w : World} {ops : Array Oper} {rest : List Oper} {o : Oper} {ac : Act} {Q : Exit → Act → World → Prop} (hgd : o.guard = none) (hd : o.dst = none) (ty : TypeId) (xo vo : Operand) (ho : o.op = .store ty xo vo)
    (g i : Nat) (T : TypeId) (cur cs new : Array Value) (hg : w.heap[g]? = some (.cells cur T (0, 0))) (hs : i + cs.size ≤ cur.size) (hx : ac.eval xo = .pointer (some ⟨g, i, none⟩)) (hv : ac.eval vo = .agg cs) (hinfo : (P.info? ty).map (·.size) = some cs.size) (h1 : ∀ v ∈ cs.toList, v.oneCell' = true)
    (hnew : (cur.toList.take i ++ cs.toList ++ cur.toList.drop (i + cs.size)).toArray = new) (h : wpList P ops Q rest ac (w.setRow g new)) : wpList P ops Q (o :: rest) ac w := by
  subst hnew
  refine wpList_plain hgd fun K hK => ?_
  have hr := run_storeVar_elem (P := P) w g i T ty cur cs hg hs hinfo h1
  unfold Oper.wp execOp
  simp only [ho, hx, hv, Instr.storeAt, Instr.sureAddr, Sem.run_bind, Sem.run_pure, Result.andThen_ok, hr]
  have := hK _ _ h
  simp only [Oper.upon, hd, Act.put]
  exact this
variable {B : Nat} {K : Nat → Prop} {w w' : World} {d g : Nat} {M : Med} {at_ : Int} {a : Option Addr} {k c : Nat} {cs : List CellV}
set_option maxRecDepth 100000 in
set_option maxHeartbeats 4000000 in
/-- Load, at a variable of a drive's, whatever it holds. -/
theorem drv_load (x0 x1 : Value) (q cap : Int) (aM : Option Addr) (cM n : Nat) (us : List CellV) (w : World) (hobj : w.heap[d]? = some (.cells #[x0, x1, .int .i64 q, .pointer (some ⟨g, 0, none⟩)] 88 (0, 0))) (hlow : B ≤ d) (hkd : K d) (hB : Up B K w) (hs : CMat w aM us) (hn : n = us.length) (hn2 : n ≤ 100000) (hx : ∀ x ∈ us, x.d.l.length ≤ 140737488355328) :
    Calls Try.prog 71 #[.pointer (some ⟨d, 0, none⟩), .agg #[.int .i64 cap, .slice aM n cM]] w fun e w' => e = .returned (.tuple #[]) ∧ ∃ a' c' cs', DrvAt B K w' d g ⟨cap, pls us⟩ 0 a' n c' cs' ∧ Mod (TF B K) w w' := by
  have Hs := Lib.hid hs
  have Hn := Lib.hid hn
  have Hx := Lib.hid hx
  have Hobj := Lib.hid hobj
  have hz := heap_alloc_new w (.cells #[.int .i64 cap, .slice aM n cM] 31)
  have hb := ext_alloc w (.cells #[.int .i64 cap, .slice aM n cM] 31)
  have d0 := cell_of_row _ w.heap.size 0 _ _ _ hz
  have d1 := cell_of_row _ w.heap.size 1 _ _ _ hz
  clear hs hn hx hobj
  go_enter Try.func71, Try.ntmps71
  go_wp2_with fail
  clear d0 d1
  refine (med_twin cap aM cM n us _ (Hs.out.ext hb) Hn.out hn2 Hx.out).mono ?_
  rintro e w2 ⟨a2, c2, cs2, rfl, hl2, ho2, hp2, hb2⟩
  have hb02 := bthen hb hb2 (Nat.le_refl _)
  have hkr2 : RowIn K a2 n c2 := fun x hx => by
    have hrw := ho2.row
    rw [hl2] at hrw
    obtain ⟨_, h0 | ⟨g', cur, ha, hg', _⟩⟩ := hrw
    · exact .inl h0
    · rw [ha] at hx
      simp only [Option.some.injEq, Addr.mk.injEq, and_true] at hx
      subst hx
      exact .inr ((hB.grow hb.size).up g' hg')
  have hdu2 : ∀ x ∈ cs2, RowIn K x.d.a x.d.l.length x.d.c := fun x hx => (ho2.dat x hx).rowIn fun b h1 _ => (hB.grow hb.size).up b h1
  have hobj2 := (hb02.block d (heap_lt Hobj.out)).trans Hobj.out
  have hg3 := setRow_heap w2 d _ #[.int .i64 cap, .slice a2 n c2, .int .i64 q, .pointer (some ⟨g, 0, none⟩)] _ _ hobj2
  have hm3 : Mod (fun b T => b = d ∧ T = 88) w2 (w2.setRow d #[.int .i64 cap, .slice a2 n c2, .int .i64 q, .pointer (some ⟨g, 0, none⟩)]) := Mod.one (bsetRow (Below.refl d _) (Nat.le_refl _) _) (fun b hb => setRow_other _ _ b _ hb) hobj2 hg3 ⟨rfl, rfl⟩
  have h3 : DrvAt B K (w2.setRow d #[.int .i64 cap, .slice a2 n c2, .int .i64 q, .pointer (some ⟨g, 0, none⟩)]) d g ⟨cap, pls us⟩ q a2 n c2 cs2 :=
    ⟨hlow, hkd, hg3, ⟨(ho2.mono (hB.grow hb.size).le).mod hm3 fun b T hf => ⟨fun h => by rw [hf.2] at h; revert h; decide, fun h => by rw [hf.2] at h; revert h; decide⟩, hl2, hp2⟩, by have := ho2.row.len.1; rw [hl2] at this; exact this, hkr2, hdu2⟩
  obtain ⟨h4, hm4⟩ := h3.set2 0
  have H4 := Lib.hid h4
  have HM : Hid (Mod (TF B K) w ((w2.setRow d #[.int .i64 cap, .slice a2 n c2, .int .i64 q, .pointer (some ⟨g, 0, none⟩)]).setCell ⟨d, 2, none⟩ (.int .i64 0))) := Lib.hid (((bmod hb02 _).trans (hm3.mono fun b T _ hf => by rw [hf.1, hf.2]; exact TF_d hlow hkd)).trans hm4)
  have e2 := cell_of_row _ d 2 _ _ _ hg3
  have hfz := frozen_of_row _ d 2 _ _ hg3
  clear h3 h4 hm3 hm4 hg3 ho2 hp2 hb2 hdu2
  go_wp2_with (refine wpList_store_part rfl rfl 31 (.tmp 9) (.tmp 7) rfl d 0 88 #[x0, x1, .int .i64 q, .pointer (some ⟨g, 0, none⟩)] #[.int .i64 cap, .slice a2 n c2] #[.int .i64 cap, .slice a2 n c2, .int .i64 q, .pointer (some ⟨g, 0, none⟩)] hobj2 (by simp) rfl rfl (by kernel_rfl) (by simp [Value.oneCell']) (by simp) ?_)
  go_end0
  exact ⟨rfl, a2, c2, cs2, H4.out, HM.out⟩

set_option maxRecDepth 100000 in
set_option maxHeartbeats 4000000 in
theorem drv_new (cap : Int) (aM : Option Addr) (cM n : Nat) (us : List CellV) (w : World) (hs : CMat w aM us) (hn : n = us.length) (hn2 : n ≤ 100000) (hx : ∀ x ∈ us, x.d.l.length ≤ 140737488355328) (hok : (medOf cap us).ok = true) :
    Calls Try.prog 7 #[.pointer (some ⟨g, 0, none⟩), .agg #[.int .i64 cap, .slice aM n cM]] w fun e w' => ∃ d a' c' cs', e = .returned (.tuple #[.pointer (some ⟨d, 0, none⟩), .int .i64 0]) ∧ DrvAt w.heap.size (fun b => w.heap.size ≤ b) w' d g ⟨cap, pls us⟩ 0 a' n c' cs' ∧ Below w.heap.size w w' := by
  have Hs := Lib.hid hs
  have Hn := Lib.hid hn
  have Hx := Lib.hid hx
  have hz := heap_alloc_new w (.cells #[.int .i64 cap, .slice aM n cM] 31)
  have hb := ext_alloc w (.cells #[.int .i64 cap, .slice aM n cM] 31)
  clear hs hn hx
  go_enter Try.func7, Try.ntmps7
  go_wp2_with fail
  refine (check_any cap aM cM n us true _ (Hs.out.ext hb) Hn.out (by omega) hok).mono ?_
  rintro e w2 ⟨rfl, hb2⟩
  have hb02 := bthen hb hb2 (Nat.le_refl _)
  have hz2 := (hb2.block _ (heap_lt hz)).trans hz
  have hb3 := ext_alloc w2 (.cells #[.int .i64 0, .slice none 0 0, .int .i64 0, .pointer (some ⟨g, 0, none⟩)] 88)
  have hz3 := (hb3.block _ (heap_lt hz2)).trans hz2
  have d0 := cell_of_row _ w.heap.size 0 _ _ _ hz3
  have d1 := cell_of_row _ w.heap.size 1 _ _ _ hz3
  have hobj := heap_alloc_new w2 (.cells #[.int .i64 0, .slice none 0 0, .int .i64 0, .pointer (some ⟨g, 0, none⟩)] 88)
  have hb04 := bthen hb02 hb3 (Nat.le_refl _)
  have hzl := heap_lt hz3
  clear hb2 hz hok
  go_wp2_with fail
  generalize hW3 : w2.alloc (.cells #[.int .i64 0, .slice none 0 0, .int .i64 0, .pointer (some ⟨g, 0, none⟩)] 88) = W3 at *
  clear hW3
  refine wp_region_chainL (by kernel_rfl) [4] (Badd.rel) [SpT.eq (.pointer (some ⟨w2.heap.size, 0, none⟩)), SpT.eq (.pointer (some ⟨w2.heap.size, 0, none⟩)), SpT.eq (.pointer (some ⟨w2.heap.size, 0, none⟩)), SpT.eq (.agg #[.int .i64 cap, .slice aM n cM]), SpT.top] (by kernel_rfl) (by kernel_rfl) (by kernel_rfl) (by kernel_rfl) ?_ ?_
  · refine stepsL_free rfl ?_ (stepsL_free rfl ?_ (stepsL_free rfl ?_ (stepsL_free rfl ?_ (stepsL_chain rfl (stepsL_nil)))))
    · intro ρ w' E
      have e6 : ρ (.tmp 6) = .pointer (some ⟨w2.heap.size, 0, none⟩) := E.out 6 rfl
      refine step_plain rfl ?_
      exact op_move (.inl rfl) e6 ⟨Below.refl _ _, rfl⟩
    · intro ρ w' E
      have e17 : ρ (.tmp 17) = .pointer (some ⟨w2.heap.size, 0, none⟩) := E.pre 0 rfl rfl
      refine step_plain rfl ?_
      refine op_val (v := .pointer (some ⟨w2.heap.size, 0, none⟩)) (w' := w') ?_ ⟨Below.refl _ _, rfl⟩
      have hcon := E.con
      clear E
      go_simp
    · intro ρ w' E
      have e18 : ρ (.tmp 18) = .pointer (some ⟨w2.heap.size, 0, none⟩) := E.pre 1 rfl rfl
      refine step_plain rfl ?_
      refine op_val (v := .pointer (some ⟨w2.heap.size, 0, none⟩)) (w' := w') ?_ ⟨Below.refl _ _, rfl⟩
      have hcon := E.con
      clear E
      go_simp
    · intro ρ w' E
      have e3 : ρ (.tmp 3) = .pointer (some ⟨w.heap.size, 0, none⟩) := E.out 3 rfl
      refine step_plain rfl ?_
      refine op_val (v := .agg #[.int .i64 cap, .slice aM n cM]) (w' := w') ?_ ⟨Below.refl _ _, rfl⟩
      have k0 := (World.cell?_of_block (w := W3) (E.t.block _ hzl)).trans d0
      have k1 := (World.cell?_of_block (w := W3) (E.t.block _ hzl)).trans d1
      have hcon := E.con
      clear E d0 d1
      go_simp
  · intro ρ1 w1c G1 E1
    have e19 : ρ1 (.tmp 19) = .pointer (some ⟨w2.heap.size, 0, none⟩) := E1.pre 2 rfl rfl
    have e20 : ρ1 (.tmp 20) = .agg #[.int .i64 cap, .slice aM n cM] := E1.pre 3 rfl rfl
    refine step_plain rfl ?_
    refine op_call (f := 71) (args := #[.pointer (some ⟨w2.heap.size, 0, none⟩), .agg #[.int .i64 cap, .slice aM n cM]]) (w' := w1c) (by have hcon := E1.con; have hfn := E1.fn; clear E1 d0 d1; go_simp) ?_
    have hb05 := bthen hb04 G1 (Nat.le_refl _)
    refine (drv_load (B := w.heap.size) (K := fun b => w.heap.size ≤ b) _ _ 0 cap aM cM n us _ ((G1.block _ (heap_lt hobj)).trans hobj) hb02.size hb02.size ⟨hb05.size, fun b hb => Nat.le_trans hb05.size hb⟩ (Hs.out.ext hb05) Hn.out hn2 Hx.out).mono ?_
    rintro e w5 ⟨rfl, a5, c5, cs5, h5, hm5⟩
    refine ⟨_, rfl, trivial, ?_⟩
    intro σ wF GF hκ
    simp only [upd, updL, dstsOf', elemB, List.filterMap_cons, List.filterMap_nil, Nat.reduceAdd, Nat.reduceBEq, Bool.or_false, Bool.false_or, Bool.or_true, Bool.true_or, cond_true, cond_false, Nat.zero_add]
    have H5 := Lib.hid (h5.ext GF)
    have HbF := Lib.hid (bthen (hb05.trans (hm5.below (fun b T h => h.1) hb05.size)) GF (Nat.le_refl _))
    clear h5 hm5 d0 d1 hobj hb05 G1 GF hκ E1
    go_wp2
    go_ret2
    exact ⟨_, a5, c5, cs5, rfl, H5.out, HbF.out⟩
end Go.Proofs.Ytclkkhpnnbkfmaa
