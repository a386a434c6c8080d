/- A drive's tape: read. -/
import Derived.Test.YtnbpcdnpdcfiiaaDrvLay
import Derived.Test.YtnbpcdnpdcfiiaaMedRead
namespace Go.Proofs.Ytnbpcdnpdcfiiaa
open Go.RowKit

variable {B : Nat} {K : Nat → Prop} {w w' : World} {d g : Nat} {M : Med} {at_ : Int} {a : Option Addr} {k c : Nat} {cs : List CellV}
theorem Badd.rel : Trel (fun w1 w2 : World => Below w1.heap.size w1 w2) := ⟨fun h k => bthen h k (Nat.le_refl _), fun h => h⟩
theorem look_err (m : Med) (p : Int) : (m.look p).2 = 0 ∨ (m.look p).2 = 6 ∨ (m.look p).2 = 15 ∨ (m.look p).2 = 8 := by
  unfold Med.look
  split
  · exact .inr (.inr (.inr rfl))
  · split
    · exact .inr (.inr (.inr rfl))
    · split
      · exact .inr (.inr (.inl rfl))
      split
      · exact .inr (.inl rfl)
      · exact .inl rfl
set_option maxRecDepth 100000 in
set_option maxHeartbeats 4000000 in
theorem drv_read0 (n : Nat) (l : List Byte) (Er : Int) (w : World) (h : DrvAt B K w d g M at_ a k c cs) (hB : B ≤ w.heap.size) (hx : ∀ x ∈ cs, x.d.l.length ≤ 140737488355328) (hr : M.look at_ = (l, Er)) (hn : n = l.length) (ha0 : -9223372036854775808 ≤ at_) (ha1 : at_ ≤ 9223372036854775806) :
    Calls Try.prog 72 #[.pointer (some ⟨d, 0, none⟩)] w fun e w' => ∃ a' c', e = .returned (.tuple #[.slice a' n c', .int .i64 Er]) ∧ Own w' w.heap.size 5 1 a' n c' (bvs l) ∧ DrvAt B K w' d g M (if Er = 8 then at_ else at_ + 1) a k c cs ∧ Mod (TF B K) w w' := by
  have HD := Lib.hid h
  have Hx := Lib.hid hx
  have HRd : Hid ((medOf M.cap cs).look at_ = (l, Er)) := Lib.hid (by rw [h.of]; exact hr)
  have Hn := Lib.hid hn
  have hk63 := h.len63
  have hdl := heap_lt h.obj
  have hE : Er = 0 ∨ Er = 6 ∨ Er = 15 ∨ Er = 8 := by have := look_err M at_; rw [hr] at this; exact this
  obtain ⟨d0, d1, d2, d3⟩ := h.cells
  clear h hx hr hn d3
  go_enter Try.func72, Try.ntmps72
  go_wp2_with fail
  refine wp_region_chainL (by kernel_rfl) [12, 13] (Badd.rel) [SpT.eq (.pointer (some ⟨d, 0, none⟩)), SpT.eq (.pointer (some ⟨d, 0, none⟩)), SpT.eq (.pointer (some ⟨d, 0, none⟩)), SpT.eq (.agg #[.int .i64 M.cap, .slice a k c]), SpT.eq (.pointer (some ⟨d, 0, none⟩)), SpT.eq (.pointer (some ⟨d, 0, none⟩)), SpT.eq (.pointer (some ⟨d, 2, none⟩)), SpT.eq (.int .i64 at_), ⟨fun w' v => ∃ (a' : Option Addr) (c' : Nat), v = .tuple #[.slice a' n c', .int .i64 Er] ∧ Own w' w.heap.size 5 1 a' n c' (bvs l), fun _ _ _ ⟨a', c', h, ho⟩ hb => ⟨a', c', h, ho.ext hb⟩⟩, ⟨fun w' v => ∃ (a' : Option Addr) (c' : Nat), v = .tuple #[.slice a' n c', .int .i64 Er] ∧ Own w' w.heap.size 5 1 a' n c' (bvs l), fun _ _ _ ⟨a', c', h, ho⟩ hb => ⟨a', c', h, ho.ext hb⟩⟩, ⟨fun w' v => ∃ (a' : Option Addr) (c' : Nat), v = .slice a' n c' ∧ Own w' w.heap.size 5 1 a' n c' (bvs l), fun _ _ _ ⟨a', c', h, ho⟩ hb => ⟨a', c', h, ho.ext hb⟩⟩, SpT.eq (.int .i64 Er), SpT.top, SpT.top] (by kernel_rfl) (by kernel_rfl) (by kernel_rfl) (by kernel_rfl) ?_ ?_
  · refine stepsL_free rfl ?_ (stepsL_free rfl ?_ (stepsL_free rfl ?_ (stepsL_free rfl ?_ (stepsL_free rfl ?_ (stepsL_free rfl ?_ (stepsL_free rfl ?_ (stepsL_free rfl ?_ (stepsL_free rfl ?_ (stepsL_free rfl ?_ (stepsL_free rfl ?_ (stepsL_free rfl ?_ (stepsL_chain rfl (stepsL_chain rfl (stepsL_nil))))))))))))))
    · intro ρ w' E
      have e0 : ρ (.tmp 0) = .pointer (some ⟨d, 0, none⟩) := E.out 0 rfl
      refine step_plain rfl ?_
      exact op_move (.inl rfl) e0 ⟨Below.refl _ _, rfl⟩
    · intro ρ w' E
      have e7 : ρ (.tmp 7) = .pointer (some ⟨d, 0, none⟩) := E.pre 0 rfl rfl
      refine step_plain rfl ?_
      refine op_val (v := .pointer (some ⟨d, 0, none⟩)) (w' := w') ?_ ⟨Below.refl _ _, rfl⟩
      have hcon := E.con
      clear E
      go_simp
    · intro ρ w' E
      have e8 : ρ (.tmp 8) = .pointer (some ⟨d, 0, none⟩) := E.pre 1 rfl rfl
      refine step_plain rfl ?_
      refine op_val (v := .pointer (some ⟨d, 0, none⟩)) (w' := w') ?_ ⟨Below.refl _ _, rfl⟩
      have hcon := E.con
      clear E
      go_simp
    · intro ρ w' E
      have e9 : ρ (.tmp 9) = .pointer (some ⟨d, 0, none⟩) := E.pre 2 rfl rfl
      refine step_plain rfl ?_
      refine op_val (v := .agg #[.int .i64 M.cap, .slice a k c]) (w' := w') ?_ ⟨Below.refl _ _, rfl⟩
      have k0 := (World.cell?_of_block (w := w) (E.t.block _ hdl)).trans d0
      have k1 := (World.cell?_of_block (w := w) (E.t.block _ hdl)).trans d1
      have hcon := E.con
      clear E d0 d1 d2
      go_simp
    · intro ρ w' E
      have e0 : ρ (.tmp 0) = .pointer (some ⟨d, 0, none⟩) := E.out 0 rfl
      refine step_plain rfl ?_
      exact op_move (.inl rfl) e0 ⟨Below.refl _ _, rfl⟩
    · intro ρ w' E
      have e11 : ρ (.tmp 11) = .pointer (some ⟨d, 0, none⟩) := E.pre 4 rfl rfl
      refine step_plain rfl ?_
      refine op_val (v := .pointer (some ⟨d, 0, none⟩)) (w' := w') ?_ ⟨Below.refl _ _, rfl⟩
      have hcon := E.con
      clear E
      go_simp
    · intro ρ w' E
      have e12 : ρ (.tmp 12) = .pointer (some ⟨d, 0, none⟩) := E.pre 5 rfl rfl
      refine step_plain rfl ?_
      refine op_val (v := .pointer (some ⟨d, 2, none⟩)) (w' := w') ?_ ⟨Below.refl _ _, rfl⟩
      have hcon := E.con
      clear E
      go_simp
    · intro ρ w' E
      have e13 : ρ (.tmp 13) = .pointer (some ⟨d, 2, none⟩) := E.pre 6 rfl rfl
      refine step_plain rfl ?_
      refine op_val (v := .int .i64 at_) (w' := w') ?_ ⟨Below.refl _ _, rfl⟩
      have k0 := (World.cell?_of_block (w := w) (E.t.block _ hdl)).trans d2
      have hcon := E.con
      clear E d0 d1 d2
      go_simp
    · intro ρ w' E
      have e10 : ρ (.tmp 10) = .agg #[.int .i64 M.cap, .slice a k c] := E.pre 3 rfl rfl
      have e14 : ρ (.tmp 14) = .int .i64 at_ := E.pre 7 rfl rfl
      refine step_plain rfl ?_
      refine op_call (f := 100) (args := #[.agg #[.int .i64 M.cap, .slice a k c], .int .i64 at_]) (w' := w') (by have hcon := E.con; have hfn := E.fn; clear E d0 d1 d2; go_simp) ?_
      refine (look_any M.cap a c k cs at_ l Er w' (HD.out.r.mat.ext E.t) HD.out.r.len.symm hk63 Hx.out HRd.out).mono ?_
      rintro e wz ⟨a', c', n', rfl, hn', ho', hb'⟩
      obtain rfl : n = n' := Hn.out.trans hn'.symm
      exact ⟨_, rfl, hb', a', c', rfl, ho'.mono E.t.size⟩
    · intro ρ w' E
      have p15 : (fun w' v => ∃ (a' : Option Addr) (c' : Nat), v = .tuple #[.slice a' n c', .int .i64 Er] ∧ Own w' w.heap.size 5 1 a' n c' (bvs l)) w' (ρ (.tmp 15)) := E.pre 8 rfl rfl
      refine step_plain rfl ?_
      exact op_move (.inl rfl) rfl ⟨Below.refl _ _, p15⟩
    · intro ρ w' E
      have p6 : (fun w' v => ∃ (a' : Option Addr) (c' : Nat), v = .tuple #[.slice a' n c', .int .i64 Er] ∧ Own w' w.heap.size 5 1 a' n c' (bvs l)) w' (ρ (.tmp 6)) := E.pre 9 rfl rfl
      refine step_plain rfl ?_
      obtain ⟨a', c', e6, ho⟩ := p6
      refine op_val (v := .slice a' n c') (w' := w') (by have hcon := E.con; clear E d0 d1 d2; go_simp) ⟨Below.refl _ _, a', c', rfl, ho⟩
    · intro ρ w' E
      have p6 : (fun w' v => ∃ (a' : Option Addr) (c' : Nat), v = .tuple #[.slice a' n c', .int .i64 Er] ∧ Own w' w.heap.size 5 1 a' n c' (bvs l)) w' (ρ (.tmp 6)) := E.pre 9 rfl rfl
      refine step_plain rfl ?_
      refine op_val (v := .int .i64 Er) (w' := w') ?_ ⟨Below.refl _ _, rfl⟩
      obtain ⟨a', c', e6, ho⟩ := p6
      have hcon := E.con
      clear E d0 d1 d2
      go_simp
  · intro ρ1 w1c G1 E1
    have p16 : (fun w' v => ∃ (a' : Option Addr) (c' : Nat), v = .slice a' n c' ∧ Own w' w.heap.size 5 1 a' n c' (bvs l)) w1c (ρ1 (.tmp 16)) := E1.pre 10 rfl rfl
    refine step_plain rfl ?_
    obtain ⟨a4, c4, e16, ho4⟩ := p16
    refine op_move (.inr rfl) e16 ⟨Below.refl _ _, ?_⟩
    intro ρ2 w2c G2 E2
    have e17 : ρ2 (.tmp 17) = .int .i64 Er := E2.pre 11 rfl rfl
    refine step_plain rfl ?_
    refine op_move (.inr rfl) e17 ⟨trivial, ?_⟩
    intro σ w2 GF hκ
    have h4 : σ 4 = .slice a4 n c4 := hκ 12 4 rfl rfl
    have h5 : σ 5 = .int .i64 Er := hκ 13 5 rfl rfl
    simp only [upd, updL, dstsOf', elemB, List.filterMap_cons, List.filterMap_nil, Nat.reduceAdd, Nat.reduceBEq, Bool.or_false, Bool.false_or, Bool.or_true, Bool.true_or, cond_true, cond_false, Nat.zero_add, h4, h5]
    have hb := bthen (bthen G1 G2 (Nat.le_refl _)) GF (Nat.le_refl _)
    have ho4 := (ho4.ext G2).ext GF
    have h2 := HD.out.ext hb
    have Hb := Lib.hid hb
    have Ho := Lib.hid ho4
    clear d0 d1 d2 hb ho4 h4 h5 G1 G2 GF hκ E1 E2 e17
    by_cases h8 : Er = 8
    · subst h8
      have H2 := Lib.hid h2
      clear h2 hE
      go_wp2
      go_ret2
      exact ⟨a4, c4, rfl, Ho.out, by first | exact H2.out | (rw [if_pos rfl]; exact H2.out), bmod Hb.out _⟩
    · obtain ⟨hF, hm⟩ := h2.set2 (at_ + 1)
      obtain ⟨d0, d1, d2, d3⟩ := h2.cells
      have hfz := frozen_of_row w2 d 2 _ _ h2.obj
      have H8 := Lib.hid h8
      have HF := Lib.hid hF
      have HM := Lib.hid ((bmod Hb.out (TF B K)).trans hm)
      have Ho2 := Lib.hid (Ho.out.mod ((Mod.refl (fun b T => T = 60) w2).setCell h2.obj rfl 2 (.int .i64 (at_ + 1))) fun _ _ _ hf => absurd (show 5 = 60 from hf) (by decide))
      clear hF hm h2 d0 d1 d3
      rcases hE with rfl | rfl | rfl | rfl
      · clear h8
        go_wp2
        go_ret2
        exact ⟨a4, c4, rfl, Ho2.out, by first | exact HF.out | (rw [if_neg H8.out]; exact HF.out), HM.out⟩
      · clear h8
        go_wp2
        go_ret2
        exact ⟨a4, c4, rfl, Ho2.out, by first | exact HF.out | (rw [if_neg H8.out]; exact HF.out), HM.out⟩
      · clear h8
        go_wp2
        go_ret2
        exact ⟨a4, c4, rfl, Ho2.out, by first | exact HF.out | (rw [if_neg H8.out]; exact HF.out), HM.out⟩
      · exact absurd rfl h8
end Go.Proofs.Ytnbpcdnpdcfiiaa
