/- A drive's tape: lay, end, Load. -/
import Derived.Test.YtjngfkkbfkoedaaVolumeFormatsPartG
import Derived.Test.YtjngfkkbfkoedaaMedLay
import Derived.Test.YtjngfkkbfkoedaaVolumeFormatsPartE
import Derived.StillTailTactics
namespace Go.Proofs.Ytjngfkkbfkoedaa
open Go.RowKit

theorem OwnM.lay {W w' : World} {B p k c c' cd m g : Nat} {a a' ad : Option Addr} {cs : List CellV} {kind : Int} {l : List Byte} {T0 : TypeId} (h : OwnM W B a c cs) (hl : cs.length = k) (hp : p ≤ k)
    (hrow : Own w' B 30 3 a' (p + 1) c' (flt CellV.cells (cs.take p ++ [⟨kind, ⟨ad, cd, l⟩, false⟩]))) (hd : Own w' W.heap.size 5 1 ad m cd (bvs l)) (hm : m = l.length) (hmod : Mod (LF B g T0 a) W w') (hT8 : T0 ≠ 5) (hB : B ≤ W.heap.size) :
    OwnM w' B a' c' (cs.take p ++ [⟨kind, ⟨ad, cd, l⟩, false⟩]) := by
  subst hm
  refine ⟨?_, fun y hy => ?_, Apart.snoc (w := W) (w' := w') (B0 := B) (B := W.heap.size) (h.apart.sublist (List.take_sublist _ _)) (fun y hy => h.dat y (List.mem_of_mem_take hy)) hd (Nat.le_refl _)⟩
  · rw [List.length_append, List.length_take, hl, Nat.min_eq_left hp]
    exact hrow
  · rcases List.mem_append.1 hy with hy | hy
    · refine (h.dat y (List.mem_of_mem_take hy)).mod hmod fun b _ _ hf => ?_
      rcases hf with ⟨_, h⟩ | ⟨h, _⟩
      · exact hT8 h.symm
      · revert h; decide
    · rw [List.mem_singleton.1 hy]
      exact hd.mono hB
variable {B : Nat} {K : Nat → Prop} {w w' : World} {d g : Nat} {M : Med} {at_ : Int} {a : Option Addr} {k c : Nat} {cs : List CellV}

set_option maxRecDepth 100000 in
set_option maxHeartbeats 4000000 in
theorem drv_lay (p : Nat) (kind : Int) (ab : Option Addr) (m cb : Nat) (l : List Byte) (w : World) (h : DrvAt B K w d g M (p : Int) a k c cs) (hB : Up B K w) (hp : p ≤ k) (hk : k ≤ 90000) (hsb : Src w ab (bvs l)) (hm : m = l.length) (hm2 : m ≤ 140737488355328) :
    Calls Try.prog 65 #[.pointer (some ⟨d, 0, none⟩), .int .i64 kind, .slice ab m cb] w fun e w' => e = .returned (.tuple #[]) ∧ ∃ a' c' cs', DrvAt B K w' d g (M.lay p ⟨kind, l, false⟩) (p : Int) a' (p + 1) c' cs' ∧ Mod (TF B K) w w' := by
  have hbd := ext_drewN w 1 w.heap.size
  have H := Lib.hid h
  have H1 := Lib.hid (h.ext hbd)
  have Hsb := Lib.hid (hsb.ext hbd)
  have Hm := Lib.hid hm
  have hlow := h.low
  have hkd := h.kd
  obtain ⟨d0, d1, d2, d3⟩ := h.cells
  clear h hsb hm d0 d1 d3
  go_enter Try.func65, Try.ntmps65
  go_wp2_with fail
  go_still_tail 9, (by kernel_rfl)
  go_wp2_with fail
  refine (lay_any B d 0 p k c a cs _ _ kind ab m cb l (w.drewN 1) H1.out.obj (by decide) (by decide) H1.out.cells.2.1 (by have := H1.out.r.own.row; rw [H1.out.r.len] at this; exact this) H1.out.r.len.symm (by omega) hp Hsb.out Hm.out hm2 (hB.grow hbd.size).le).mono ?_
  rintro e w2 ⟨rfl, a2, c2, ad, cd, hg2, ho2, hd2, hm2', hwh⟩
  have hkr : RowIn K a2 (p + 1) c2 := by
    intro x hx
    rcases hwh with ⟨rfl, hn⟩ | h
    · exact .inr ((H1.out.kr x hx).resolve_left hn)
    · exact .inr ((hB.grow hbd.size).up x (h x hx))
  have hO := H1.out.r.own.lay H1.out.r.len hp ho2 hd2 Hm.out (hm2'.mono fun _ _ _ h => h.1) (by decide) (hB.grow hbd.size).le
  have hcl : p + 1 ≤ c2 := ho2.len.1
  have hdu : ∀ x ∈ cs.take p ++ [⟨kind, ⟨ad, cd, l⟩, false⟩], RowIn K x.d.a x.d.l.length x.d.c := by
    intro x hx
    rcases List.mem_append.1 hx with hx | hx
    · exact H1.out.du x (List.mem_of_mem_take hx)
    · rw [List.mem_singleton.1 hx]
      have := hd2
      rw [Hm.out] at this
      exact this.rowIn fun b h1 _ => (hB.grow hbd.size).up b h1
  have HF : Hid (DrvAt B K w2 d g (M.lay p ⟨kind, l, false⟩) (p : Int) a2 (p + 1) c2 (cs.take p ++ [⟨kind, ⟨ad, cd, l⟩, false⟩])) := Lib.hid ⟨hlow, hkd, hg2, ⟨hO, by rw [List.length_append, List.length_take, H1.out.r.len, Nat.min_eq_left hp]; rfl, by
    have := H1.out.r.pls
    unfold pls at this ⊢
    rw [List.map_append, List.map_take, this]; rfl⟩, hcl, hkr, hdu⟩
  have HM : Hid (Mod (TF B K) w w2) := Lib.hid ((bmod hbd _).trans (hm2'.mono fun b T _ hf => by
    rcases hf with ⟨⟨rfl, rfl⟩ | ⟨rfl, h1, h2⟩, hz⟩
    · exact TF_d hlow hkd
    · exact TF_c h1 ((H1.out.kr b h2).resolve_left (hz rfl))))
  clear hO hg2 ho2 hd2 hm2' d2 hwh hkr hdu
  go_wp2
  go_end0
  exact ⟨rfl, a2, c2, _, HF.out, HM.out⟩

theorem DrvAt.set1 (h : DrvAt B K w d g M at_ a k c cs) {M' : Med} {a' : Option Addr} {k' c' : Nat} {cs' : List CellV} (hr : MedR w B M' a' k' c' cs') (hc : k' ≤ c') (hcap : M'.cap = M.cap) (hkr : RowIn K a' k' c') (hdu : ∀ x ∈ cs', RowIn K x.d.a x.d.l.length x.d.c) : DrvAt B K (w.setCell ⟨d, 1, none⟩ (.slice a' k' c')) d g M' at_ a' k' c' cs' ∧ Mod (TF B K) w (w.setCell ⟨d, 1, none⟩ (.slice a' k' c')) := by
  have hm := (Mod.refl (fun b T => T = 49) w).setCell h.obj rfl 1 (.slice a' k' c')
  refine ⟨⟨h.low, h.kd, ?_, ⟨hr.own.mod hm fun b T hf => ⟨fun h => by subst hf; revert h; decide, fun h => by subst hf; revert h; decide⟩, hr.len, hr.pls⟩, hc, hkr, hdu⟩, (Mod.refl (TF B K) w).setCell h.obj (TF_d h.low h.kd) 1 _⟩
  rw [hcap]
  exact heap_setCell_same w d 1 _ _ (.slice a' k' c') h.obj
theorem DrvAt.set2 (h : DrvAt B K w d g M at_ a k c cs) (q : Int) : DrvAt B K (w.setCell ⟨d, 2, none⟩ (.int .i64 q)) d g M q a k c cs ∧ Mod (TF B K) w (w.setCell ⟨d, 2, none⟩ (.int .i64 q)) := by
  have hm := (Mod.refl (fun b T => T = 49) w).setCell h.obj rfl 2 (.int .i64 q)
  exact ⟨⟨h.low, h.kd, heap_setCell_same w d 2 _ _ (.int .i64 q) h.obj, ⟨h.r.own.mod hm fun b T hf => ⟨fun h => by subst hf; revert h; decide, fun h => by subst hf; revert h; decide⟩, h.r.len, h.r.pls⟩, h.cap, h.kr, h.du⟩, (Mod.refl (TF B K) w).setCell h.obj (TF_d h.low h.kd) 2 _⟩

set_option maxRecDepth 100000 in
set_option maxHeartbeats 4000000 in
theorem drv_end (p : Nat) (w : World) (h : DrvAt B K w d g M (p : Int) a k c cs) (hp : p ≤ k) :
    Calls Try.prog 77 #[.pointer (some ⟨d, 0, none⟩)] w fun e w' => e = .returned (.tuple #[]) ∧ ∃ a' c' cs', DrvAt B K w' d g ⟨M.cap, M.cells.take p⟩ (p : Int) a' p c' cs' ∧ Mod (TF B K) w w' := by
  have H := Lib.hid h
  have hdl := heap_lt h.obj
  have hpc : (p : Int) ≤ (c : Int) := by have := h.cap; omega
  obtain ⟨d0, d1, d2, d3⟩ := h.cells
  clear h d0 d3
  go_enter Try.func77, Try.ntmps77
  go_wp2_with fail
  refine wp_region_last2 _ _ (by simp only [lastSplit, Option.map_some]; rfl) (by kernel_rfl) [Sp.eq (.pointer (some ⟨d, 0, none⟩)), Sp.eq (.pointer (some ⟨d, 0, none⟩)), Sp.eq (.pointer (some ⟨d, 0, none⟩)), Sp.eq (.pointer (some ⟨d, 0, none⟩)), Sp.eq (.pointer (some ⟨d, 1, none⟩)), Sp.eq (.slice a k c), Sp.eq (.pointer (some ⟨d, 0, none⟩)), Sp.eq (.pointer (some ⟨d, 0, none⟩)), Sp.eq (.pointer (some ⟨d, 2, none⟩)), Sp.eq (.int .i64 (p : Int)), Sp.eq (.slice a p c), Sp.eq (.pointer (some ⟨d, 0, none⟩)), Sp.eq (.pointer (some ⟨d, 0, none⟩)), Sp.eq (.pointer (some ⟨d, 1, none⟩))] (by kernel_rfl) (by kernel_rfl) ?_ ?_
  · refine stepsOk_cons ?_ (stepsOk_cons ?_ (stepsOk_cons ?_ (stepsOk_cons ?_ (stepsOk_cons ?_ (stepsOk_cons ?_ (stepsOk_cons ?_ (stepsOk_cons ?_ (stepsOk_cons ?_ (stepsOk_cons ?_ (stepsOk_cons ?_ (stepsOk_cons ?_ (stepsOk_cons ?_ (stepsOk_cons ?_ (stepsOk_nil))))))))))))))
    · intro ρ w' E
      have e0 : ρ (.tmp 0) = .pointer (some ⟨d, 0, none⟩) := E.out 0 rfl
      refine step_plain rfl ?_
      exact op_move (.inl rfl) e0 ⟨Below.refl _ _, rfl⟩
    · intro ρ w' E
      have e0 : ρ (.tmp 0) = .pointer (some ⟨d, 0, none⟩) := E.out 0 rfl
      refine step_plain rfl ?_
      exact op_move (.inl rfl) e0 ⟨Below.refl _ _, rfl⟩
    · intro ρ w' E
      have e3 : ρ (.tmp 3) = .pointer (some ⟨d, 0, none⟩) := E.pre 1 rfl
      refine step_plain rfl ?_
      refine op_val (v := .pointer (some ⟨d, 0, none⟩)) (w' := w') ?_ ⟨Below.refl _ _, rfl⟩
      have hcon := E.con
      clear E
      go_simp
    · intro ρ w' E
      have e4 : ρ (.tmp 4) = .pointer (some ⟨d, 0, none⟩) := E.pre 2 rfl
      refine step_plain rfl ?_
      refine op_val (v := .pointer (some ⟨d, 0, none⟩)) (w' := w') ?_ ⟨Below.refl _ _, rfl⟩
      have hcon := E.con
      clear E
      go_simp
    · intro ρ w' E
      have e5 : ρ (.tmp 5) = .pointer (some ⟨d, 0, none⟩) := E.pre 3 rfl
      refine step_plain rfl ?_
      refine op_val (v := .pointer (some ⟨d, 1, none⟩)) (w' := w') ?_ ⟨Below.refl _ _, rfl⟩
      have hcon := E.con
      clear E
      go_simp
    · intro ρ w' E
      have e6 : ρ (.tmp 6) = .pointer (some ⟨d, 1, none⟩) := E.pre 4 rfl
      refine step_plain rfl ?_
      refine op_val (v := .slice a k c) (w' := w') ?_ ⟨Below.refl _ _, rfl⟩
      have hk := (World.cell?_of_block (w := w) (E.below.block _ hdl)).trans d1
      have hcon := E.con
      clear E d1 d2
      go_simp
    · intro ρ w' E
      have e0 : ρ (.tmp 0) = .pointer (some ⟨d, 0, none⟩) := E.out 0 rfl
      refine step_plain rfl ?_
      exact op_move (.inl rfl) e0 ⟨Below.refl _ _, rfl⟩
    · intro ρ w' E
      have e8 : ρ (.tmp 8) = .pointer (some ⟨d, 0, none⟩) := E.pre 6 rfl
      refine step_plain rfl ?_
      refine op_val (v := .pointer (some ⟨d, 0, none⟩)) (w' := w') ?_ ⟨Below.refl _ _, rfl⟩
      have hcon := E.con
      clear E
      go_simp
    · intro ρ w' E
      have e9 : ρ (.tmp 9) = .pointer (some ⟨d, 0, none⟩) := E.pre 7 rfl
      refine step_plain rfl ?_
      refine op_val (v := .pointer (some ⟨d, 2, none⟩)) (w' := w') ?_ ⟨Below.refl _ _, rfl⟩
      have hcon := E.con
      clear E
      go_simp
    · intro ρ w' E
      have e10 : ρ (.tmp 10) = .pointer (some ⟨d, 2, none⟩) := E.pre 8 rfl
      refine step_plain rfl ?_
      refine op_val (v := .int .i64 (p : Int)) (w' := w') ?_ ⟨Below.refl _ _, rfl⟩
      have hk := (World.cell?_of_block (w := w) (E.below.block _ hdl)).trans d2
      have hcon := E.con
      clear E d1 d2
      go_simp
    · intro ρ w' E
      have e7 : ρ (.tmp 7) = .slice a k c := E.pre 5 rfl
      have e11 : ρ (.tmp 11) = .int .i64 (p : Int) := E.pre 9 rfl
      refine step_plain rfl ?_
      refine op_val (v := .slice a p c) (w' := w') ?_ ⟨Below.refl _ _, rfl⟩
      have hcon := E.con
      clear E d1 d2
      go_simp
    · intro ρ w' E
      have e2 : ρ (.tmp 2) = .pointer (some ⟨d, 0, none⟩) := E.pre 0 rfl
      refine step_plain rfl ?_
      refine op_val (v := .pointer (some ⟨d, 0, none⟩)) (w' := w') ?_ ⟨Below.refl _ _, rfl⟩
      have hcon := E.con
      clear E
      go_simp
    · intro ρ w' E
      have e13 : ρ (.tmp 13) = .pointer (some ⟨d, 0, none⟩) := E.pre 11 rfl
      refine step_plain rfl ?_
      refine op_val (v := .pointer (some ⟨d, 0, none⟩)) (w' := w') ?_ ⟨Below.refl _ _, rfl⟩
      have hcon := E.con
      clear E
      go_simp
    · intro ρ w' E
      have e14 : ρ (.tmp 14) = .pointer (some ⟨d, 0, none⟩) := E.pre 12 rfl
      refine step_plain rfl ?_
      refine op_val (v := .pointer (some ⟨d, 1, none⟩)) (w' := w') ?_ ⟨Below.refl _ _, rfl⟩
      have hcon := E.con
      clear E
      go_simp
  · intro σ w2 hb hall
    obtain ⟨_, _, _, _, _, _, _, _, _, _, h12, _, _, h15, _⟩ := hall
    have h12 : σ 12 = .slice a p c := h12
    have h15 : σ 15 = .pointer (some ⟨d, 1, none⟩) := h15
    simp only [upd, updL, dstsOf', elemB, List.filterMap_cons, List.filterMap_nil, Nat.reduceAdd, Nat.reduceBEq, Bool.or_false, Bool.false_or, Bool.or_true, Bool.true_or, cond_true, cond_false, Nat.zero_add, h12, h15]
    have h2 := H.out.ext hb
    have hr : MedR w2 B ⟨M.cap, M.cells.take p⟩ a p c (cs.take p) := ⟨by
      refine ⟨?_, fun y hy => h2.r.own.dat y (List.mem_of_mem_take hy), h2.r.own.apart.sublist (List.take_sublist _ _)⟩
      rw [List.length_take, h2.r.len, Nat.min_eq_left hp, flt_take CellV.len]
      have := h2.r.own.row
      rw [h2.r.len] at this
      exact this.take p hp, by rw [List.length_take, h2.r.len, Nat.min_eq_left hp], by have := h2.r.pls; unfold pls at this ⊢; rw [List.map_take, this]⟩
    obtain ⟨hF, hm⟩ := h2.set1 hr (by have := h2.cap; omega) rfl (fun x hx => (h2.kr x hx).imp (fun h => by have := h2.cap; omega) id) (fun x hx => h2.du x (List.mem_of_mem_take hx))
    have HF := Lib.hid hF
    have HM := Lib.hid ((bmod hb (TF B K)).trans hm)
    have k1 := h2.cells.2.1
    have hfz := frozen_of_row w2 d 1 _ _ h2.obj
    clear hF hm hr h2 h12 h15 d1 d2 hb
    go_wp2
    go_end0
    exact ⟨rfl, a, c, _, HF.out, HM.out⟩
end Go.Proofs.Ytjngfkkbfkoedaa
