/- The page's drive, as it lies; its Read. -/
import Derived.Test.YtmaagkdehdmhlaaRefPow
import Derived.Test.YtmaagkdehdmhlaaRobotExactPartQ
import Derived.Test.YtmaagkdehdmhlaaRefTear
import Derived.Test.YtmaagkdehdmhlaaRobotExactPartO
namespace Go.Proofs.Ytmaagkdehdmhlaa
open Go.RowKit

/-- In block rd stands the page's drive, of the power in block q, with the tape M. -/
structure RDr (B : Nat) (w : World) (rd q : Nat) (M : Med) (at_ : Int) (a : Option Addr) (k c : Nat) (cs : List CellV) : Prop where
  low : B ≤ rd
  obj : w.heap[rd]? = some (.cells #[.pointer (some ⟨q, 0, none⟩), .int .i64 M.cap, .slice a k c, .int .i64 at_] 63 (0, 0))
  r : MedR w B M a k c cs
  cap : k ≤ c
theorem RDr.ext {B : Nat} {w w' : World} {rd q : Nat} {M : Med} {at_ : Int} {a : Option Addr} {k c : Nat} {cs : List CellV} (h : RDr B w rd q M at_ a k c cs) (hb : Below w.heap.size w w') : RDr B w' rd q M at_ a k c cs := ⟨h.low, (hb.block rd (heap_lt h.obj)).trans h.obj, h.r.ext hb, h.cap⟩
theorem RDr.cells {B : Nat} {w : World} {rd q : Nat} {M : Med} {at_ : Int} {a : Option Addr} {k c : Nat} {cs : List CellV} (h : RDr B w rd q M at_ a k c cs) :
    w.cell? ⟨rd, 0, none⟩ = some (.pointer (some ⟨q, 0, none⟩)) ∧ w.cell? ⟨rd, 1, none⟩ = some (.int .i64 M.cap) ∧ w.cell? ⟨rd, 2, none⟩ = some (.slice a k c) ∧ w.cell? ⟨rd, 3, none⟩ = some (.int .i64 at_) :=
  ⟨cell_of_row _ _ _ _ _ _ h.obj, cell_of_row _ _ _ _ _ _ h.obj, cell_of_row _ _ _ _ _ _ h.obj, cell_of_row _ _ _ _ _ _ h.obj⟩
/-- A tape's row, and its rows of bytes, lie in Z. -/
def RowsIn (Z : Nat → Prop) (a : Option Addr) (k c : Nat) (cs : List CellV) : Prop := RowIn Z a k c ∧ ∀ x ∈ cs, RowIn Z x.d.a x.d.l.length x.d.c
/-- With its power, whatever rows it has; its rows lie in Z. -/
def RDrvP (B : Nat) (Z : Nat → Prop) (w : World) (rd q : Nat) (M : Med) (at_ : Int) (s : PS) : Prop := (∃ a k c cs, RDr B w rd q M at_ a k c cs ∧ RowsIn Z a k c cs) ∧ RPow B w q s
/-- What its methods may write. -/
abbrev RVF (B rd : Nat) : Nat → TypeId → Prop := fun b T => B ≤ b ∧ (T = 84 ∨ b = rd ∧ T = 63)
theorem RPF.rvf {B rd : Nat} {w w' : World} (h : Mod (RPF B) w w') : Mod (RVF B rd) w w' := h.mono fun b T _ hf => ⟨hf.1, .inl hf.2⟩
theorem RowIn.mono {Z Z' : Nat → Prop} {a : Option Addr} {k c : Nat} (h : RowIn Z a k c) (hZ : ∀ b, Z b → Z' b) : RowIn Z' a k c := fun x hx => (h x hx).imp id (hZ x)
theorem RowsIn.mono {Z Z' : Nat → Prop} {a : Option Addr} {k c : Nat} {cs : List CellV} (h : RowsIn Z a k c cs) (hZ : ∀ b, Z b → Z' b) : RowsIn Z' a k c cs := ⟨h.1.mono hZ, fun x hx => (h.2 x hx).mono hZ⟩
theorem RDr.rpf {B : Nat} {w w' : World} {rd q : Nat} {M : Med} {at_ : Int} {a : Option Addr} {k c : Nat} {cs : List CellV} (h : RDr B w rd q M at_ a k c cs) (hm : Mod (RPF B) w w') : RDr B w' rd q M at_ a k c cs :=
  ⟨h.low, hm.keep h.obj fun hf => absurd hf.2 (by decide), ⟨h.r.own.mod hm fun b T hf => ⟨by rw [hf.2]; decide, by rw [hf.2]; decide⟩, h.r.len, h.r.pls⟩, h.cap⟩
/-- A new row lies behind all that was there. -/
theorem MedR.newRow {w : World} {B : Nat} {M : Med} {a : Option Addr} {k c : Nat} {cs : List CellV} (h : MedR w B M a k c cs) : RowsIn (fun b => B ≤ b ∧ b < w.heap.size) a k c cs := by
  have hr := h.own.row
  rw [h.len] at hr
  exact ⟨hr.rowIn fun b h1 h2 => ⟨h1, h2⟩, fun x hx => (h.own.dat x hx).rowIn fun b h1 h2 => ⟨h1, h2⟩⟩

set_option maxRecDepth 100000 in
set_option maxHeartbeats 2000000 in
theorem rdrv_read {B : Nat} {Z : Nat → Prop} {rd q : Nat} {M : Med} {at_ : Int} (n : Nat) (l : List Byte) (Er at' : Int) (s : PS) (w : World) (hd : RDrvP B Z w rd q M at_ s) (hx : ∀ x ∈ M.cells, x.data.length ≤ 140737488355328) (hn : n = l.length) (ha0 : -9223372036854775808 ≤ at_) (ha1 : at_ ≤ 9223372036854775806)
    (hr : (if s.off then (([] : List Byte), (5 : Int), at_) else ((M.look at_).1, (M.look at_).2, if (M.look at_).2 = 8 then at_ else at_ + 1)) = (l, Er, at')) :
    Calls Try.prog 34 #[.pointer (some ⟨rd, 0, none⟩)] w fun e w' => ∃ a' c', e = .returned (.tuple #[.slice a' n c', .int .i64 Er]) ∧ Own w' w.heap.size 5 1 a' n c' (bvs l) ∧ RDrvP B Z w' rd q M at' s ∧ Mod (RVF B rd) w w' := by
  obtain ⟨⟨a, k, c, cs, h, hz⟩, hpw⟩ := hd
  have H := Lib.hid h
  have HP := Lib.hid hpw
  have HZ := Lib.hid hz
  have HR := Lib.hid hr
  have Hn := Lib.hid hn
  have Hx := Lib.hid (h.r.short hx)
  obtain ⟨d0, d1, d2, d3⟩ := h.cells
  have hlr := heap_lt h.obj
  have hk63 := h.r.len63
  have f3 := frozen_of_row _ rd 3 _ _ h.obj
  have hpw0 := hpw
  obtain ⟨armed, ta, tn, tc, tear, ka, kc, hq⟩ := hpw0
  have p0 := cell_of_row _ q 0 _ _ _ hq.obj
  clear h hpw hz hr hn hx hq
  obtain ⟨wZ, hwZ0⟩ : ∃ wZ, wZ = w.heap.size := ⟨_, rfl⟩
  have hwZ : wZ ≤ w.heap.size := by omega
  have HwZ := Lib.hid hwZ0
  clear hwZ0
  go_enter Try.func34, Try.ntmps34
  cases hoff : s.off with
  | true =>
    rw [hoff] at p0
    have hl := HR.out
    rw [if_pos hoff] at hl
    simp only [Prod.mk.injEq] at hl
    obtain ⟨rfl, rfl, rfl⟩ := hl
    obtain rfl : n = 0 := Hn.out
    clear hoff
    go_wp2
    go_ret2
    exact ⟨none, 0, rfl, Own.nil _ _ _ _ _, ⟨⟨a, k, c, cs, H.out, HZ.out⟩, HP.out⟩, Mod.refl _ _⟩
  | false =>
    rw [hoff] at p0
    have hl := HR.out
    rw [if_neg (by rw [hoff]; decide)] at hl
    simp only [Prod.mk.injEq] at hl
    obtain ⟨h1, h2, h3⟩ := hl
    rw [h2] at h3
    have HL : Hid ((medOf M.cap cs).look at_ = (l, Er)) := Lib.hid (by rw [H.out.r.of, ← h1, ← h2])
    have H3 := Lib.hid h3
    clear h1 h2 h3 HR hoff
    go_wp2_with fail
    refine wp_region_phase (by kernel_rfl) [] (by kernel_rfl) (by kernel_rfl) ?_
    refine stage_last [Sp.eq (.pointer (some ⟨rd, 0, none⟩)), Sp.eq (.pointer (some ⟨rd, 0, none⟩)), Sp.eq (.pointer (some ⟨rd, 1, none⟩)), Sp.eq (.agg #[.int .i64 M.cap, .slice a k c]), Sp.eq (.pointer (some ⟨rd, 0, none⟩)), Sp.eq (.pointer (some ⟨rd, 0, none⟩)), Sp.eq (.pointer (some ⟨rd, 3, none⟩)), Sp.eq (.int .i64 at_), ⟨fun w v => ∃ a' c', v = .tuple #[.slice a' n c', .int .i64 Er] ∧ Own w wZ 5 1 a' n c' (bvs l), fun _ _ _ ⟨a', c', h, ho⟩ hb => ⟨a', c', h, ho.ext hb⟩⟩, ⟨fun w v => ∃ a' c', v = .tuple #[.slice a' n c', .int .i64 Er] ∧ Own w wZ 5 1 a' n c' (bvs l), fun _ _ _ ⟨a', c', h, ho⟩ hb => ⟨a', c', h, ho.ext hb⟩⟩, ⟨fun w v => ∃ a' c', v = .slice a' n c' ∧ Own w wZ 5 1 a' n c' (bvs l), fun _ _ _ ⟨a', c', h, ho⟩ hb => ⟨a', c', h, ho.ext hb⟩⟩, Sp.eq (.int .i64 Er), ⟨fun w v => ∃ a' c', v = .slice a' n c' ∧ Own w wZ 5 1 a' n c' (bvs l), fun _ _ _ ⟨a', c', h, ho⟩ hb => ⟨a', c', h, ho.ext hb⟩⟩, Sp.eq (.int .i64 Er)] ?_ ?_
    · refine stepsG_cons ?_ (stepsG_cons ?_ (stepsG_cons ?_ (stepsG_cons ?_ (stepsG_cons ?_ (stepsG_cons ?_ (stepsG_cons ?_ (stepsG_cons ?_ (stepsG_cons ?_ (stepsG_cons ?_ (stepsG_cons ?_ (stepsG_cons ?_ (stepsG_cons ?_ (stepsG_cons ?_ (stepsG_nil))))))))))))))
      · intro ρ w' E
        have e0 : ρ (.tmp 0) = .pointer (some ⟨rd, 0, none⟩) := E.out 0 rfl
        refine step_plain rfl ?_
        exact op_move (.inl rfl) e0 ⟨Below.refl _ _, rfl⟩
      · intro ρ w' E
        have e14 : ρ (.tmp 14) = .pointer (some ⟨rd, 0, none⟩) := E.pre 0 rfl rfl
        refine step_plain rfl ?_
        refine op_val (v := .pointer (some ⟨rd, 0, none⟩)) (w' := w') ?_ ⟨Below.refl _ _, rfl⟩
        have hcon := E.con
        clear E
        go_simp
      · intro ρ w' E
        have e15 : ρ (.tmp 15) = .pointer (some ⟨rd, 0, none⟩) := E.pre 1 rfl rfl
        refine step_plain rfl ?_
        refine op_val (v := .pointer (some ⟨rd, 1, none⟩)) (w' := w') ?_ ⟨Below.refl _ _, rfl⟩
        have hcon := E.con
        clear E
        go_simp
      · intro ρ w' E
        have e16 : ρ (.tmp 16) = .pointer (some ⟨rd, 1, none⟩) := E.pre 2 rfl rfl
        refine step_plain rfl ?_
        refine op_val (v := .agg #[.int .i64 M.cap, .slice a k c]) (w' := w') ?_ ⟨Below.refl _ _, rfl⟩
        have k0 : w'.cell? ⟨rd, 1, none⟩ = some (.int .i64 M.cap) := (World.cell?_of_block (w := w) (E.below.block _ hlr)).trans d1
        have k1 : w'.cell? ⟨rd, 2, none⟩ = some (.slice a k c) := (World.cell?_of_block (w := w) (E.below.block _ hlr)).trans d2
        have hcon := E.con
        clear E d1 d2 d3
        go_simp
      · intro ρ w' E
        have e0 : ρ (.tmp 0) = .pointer (some ⟨rd, 0, none⟩) := E.out 0 rfl
        refine step_plain rfl ?_
        exact op_move (.inl rfl) e0 ⟨Below.refl _ _, rfl⟩
      · intro ρ w' E
        have e18 : ρ (.tmp 18) = .pointer (some ⟨rd, 0, none⟩) := E.pre 4 rfl rfl
        refine step_plain rfl ?_
        refine op_val (v := .pointer (some ⟨rd, 0, none⟩)) (w' := w') ?_ ⟨Below.refl _ _, rfl⟩
        have hcon := E.con
        clear E
        go_simp
      · intro ρ w' E
        have e19 : ρ (.tmp 19) = .pointer (some ⟨rd, 0, none⟩) := E.pre 5 rfl rfl
        refine step_plain rfl ?_
        refine op_val (v := .pointer (some ⟨rd, 3, none⟩)) (w' := w') ?_ ⟨Below.refl _ _, rfl⟩
        have hcon := E.con
        clear E
        go_simp
      · intro ρ w' E
        have e20 : ρ (.tmp 20) = .pointer (some ⟨rd, 3, none⟩) := E.pre 6 rfl rfl
        refine step_plain rfl ?_
        refine op_val (v := .int .i64 at_) (w' := w') ?_ ⟨Below.refl _ _, rfl⟩
        have k3 := (World.cell?_of_block (w := w) (E.below.block _ hlr)).trans d3
        have hcon := E.con
        clear E d1 d2 d3
        go_simp
      · intro ρ w' E
        have e17 : ρ (.tmp 17) = .agg #[.int .i64 M.cap, .slice a k c] := E.pre 3 rfl rfl
        have e21 : ρ (.tmp 21) = .int .i64 at_ := E.pre 7 rfl rfl
        refine step_plain rfl ?_
        refine op_call (f := 62) (args := #[.agg #[.int .i64 M.cap, .slice a k c], .int .i64 at_]) (w' := w') (by have hcon := E.con; have hfn := E.fn; clear E; go_simp) ?_
        refine (refread_any M.cap a c k cs at_ l Er w' ((H.out.r.ext E.below).mat) H.out.r.len.symm (by omega) Hx.out HL.out).mono ?_
        rintro e w2 ⟨a', c', kk, rfl, hkk, ho, hb⟩
        rw [← Hn.out] at hkk
        subst hkk
        exact ⟨_, rfl, hb, a', c', rfl, ho.mono (Nat.le_trans hwZ E.below.size)⟩
      · intro ρ w' E
        have p22 : (fun w v => ∃ a' c', v = .tuple #[.slice a' n c', .int .i64 Er] ∧ Own w wZ 5 1 a' n c' (bvs l)) w' (ρ (.tmp 22)) := E.pre 8 rfl rfl
        refine step_plain rfl ?_
        exact op_move (.inl rfl) rfl ⟨Below.refl _ _, p22⟩
      · intro ρ w' E
        have p13 : (fun w v => ∃ a' c', v = .tuple #[.slice a' n c', .int .i64 Er] ∧ Own w wZ 5 1 a' n c' (bvs l)) w' (ρ (.tmp 13)) := E.pre 9 rfl rfl
        refine step_plain rfl ?_
        obtain ⟨a', c', e5, ho⟩ := p13
        refine op_val (v := .slice a' n c') (w' := w') (by have hcon := E.con; clear E d1 d2 d3; go_simp) ⟨Below.refl _ _, a', c', rfl, ho⟩
      · intro ρ w' E
        have p13 : (fun w v => ∃ a' c', v = .tuple #[.slice a' n c', .int .i64 Er] ∧ Own w wZ 5 1 a' n c' (bvs l)) w' (ρ (.tmp 13)) := E.pre 9 rfl rfl
        refine step_plain rfl ?_
        refine op_val (v := .int .i64 Er) (w' := w') ?_ ⟨Below.refl _ _, rfl⟩
        obtain ⟨a', c', e5, _⟩ := p13
        have hcon := E.con
        clear E d1 d2 d3
        go_simp
      · intro ρ w' E
        have p23 : (fun w v => ∃ a' c', v = .slice a' n c' ∧ Own w wZ 5 1 a' n c' (bvs l)) w' (ρ (.tmp 23)) := E.pre 10 rfl rfl
        refine step_plain rfl ?_
        exact op_move (.inr rfl) rfl ⟨Below.refl _ _, p23⟩
      · intro ρ w' E
        have e24 : ρ (.tmp 24) = .int .i64 Er := E.pre 11 rfl rfl
        refine step_plain rfl ?_
        exact op_move (.inr rfl) e24 ⟨Below.refl _ _, rfl⟩
    · intro σF wF GF OF HF
      have x4 : (fun w v => ∃ a' c', v = .slice a' n c' ∧ Own w wZ 5 1 a' n c' (bvs l)) wF (σF 4) := HF 12 rfl rfl
      have s5 : σF 5 = .int .i64 Er := HF 13 rfl rfl
      obtain ⟨a', c', h4, ho4⟩ := x4
      have h4' : σF 4 = .slice a' n c' := h4
      have h5' : σF 5 = .int .i64 Er := s5
      rw [HwZ.out] at ho4
      clear OF HF h4 s5 p0
      simp only [upd, updL, dstsOf', elemB, List.filterMap_cons, List.filterMap_nil, Nat.reduceAdd, Nat.reduceBEq, Bool.or_false, Bool.false_or, Bool.or_true, Bool.true_or, cond_true, cond_false, Nat.zero_add, h4', h5']
      have HF := Lib.hid (H.out.ext GF)
      have HPF := Lib.hid (HP.out.ext GF)
      have HO := Lib.hid ho4
      have HM := Lib.hid (bmod GF (RVF B rd))
      have hobj := HF.out.obj
      have k3 := cell_of_row wF rd 3 _ _ _ hobj
      have f3' := frozen_of_row wF rd 3 _ _ hobj
      have hltF := heap_lt hobj
      clear ho4 GF hobj h4' h5' d0 d1 d2 d3 f3
      by_cases h8 : Er = 8
      · subst h8
        have h3 := H3.out
        rw [if_pos rfl] at h3
        subst h3
        go_wp2_with fail
        go_ret2
        exact ⟨a', c', rfl, HO.out, ⟨⟨a, k, c, cs, HF.out, HZ.out⟩, HPF.out⟩, HM.out⟩
      · have h3 := H3.out
        rw [if_neg h8] at h3
        subst h3
        have h8' : (Er != 8) = true := by simpa using h8
        have hw1 : IntKind.i64.wrap (at_ + 1) = at_ + 1 := by rw [IntKind.wrap_i64]; omega
        have hg := heap_setCell_same wF rd 3 _ _ (.int .i64 (at_ + 1)) HF.out.obj
        have hm := (Mod.refl (fun b T => b = rd ∧ T = 63) wF).setCell HF.out.obj ⟨rfl, rfl⟩ 3 (.int .i64 (at_ + 1))
        have HF2 : Hid (RDr B (wF.setCell ⟨rd, 3, none⟩ (.int .i64 (at_ + 1))) rd q M (at_ + 1) a k c cs) := Lib.hid ⟨HF.out.low, hg, ⟨HF.out.r.own.mod hm fun b T hf => ⟨by rw [hf.2]; decide, by rw [hf.2]; decide⟩, HF.out.r.len, HF.out.r.pls⟩, HF.out.cap⟩
        have HP2 := Lib.hid (HPF.out.mod hm fun b T hf => ⟨by rw [hf.2]; decide, by rw [hf.2]; decide⟩)
        have HO2 := Lib.hid (HO.out.mod hm fun _ _ _ hf => absurd hf.2 (by decide))
        have HM2 := Lib.hid (HM.out.trans (hm.mono fun b T _ hf => ⟨by rw [hf.1]; exact HF.out.low, .inr ⟨hf.1, hf.2⟩⟩))
        clear hg hm h8
        go_wp2_with fail
        go_ret2
        exact ⟨a', c', rfl, HO2.out, ⟨⟨a, k, c, cs, HF2.out, HZ.out⟩, HP2.out⟩, HM2.out⟩
end Go.Proofs.Ytmaagkdehdmhlaa
