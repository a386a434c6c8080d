/- Several texts of this claim, one behind the other: DrvLocate, DrvCalls, DrvMono. -/
import Derived.Test.YtmaagkdehdmhlaaDrvWrite
import Derived.Test.YtmaagkdehdmhlaaRobotExactPartF
import Derived.Test.YtmaagkdehdmhlaaRobotExactPartL
/- A drive's tape: locate. -/
namespace Go.Proofs.Ytmaagkdehdmhlaa
open Go.RowKit

variable {B : Nat} {K : Nat → Prop} {w w' : World} {d g : Nat} {M : Med} {at_ : Int} {a : Option Addr} {k c : Nat} {cs : List CellV}
def isMark (c : CellP) : Bool := decide (c.kind = 2)
def Med.locate (m : Med) (n block at_ : Int) : Int × Int :=
  if n < 0 ∨ block < 0 then (1, at_) else
  if (m.behind n).2 ≠ 0 ∨ (m.cells.length : Int) - (m.behind n).1 < block then (8, at_) else
  if ((m.cells.drop (m.behind n).1.toNat).take block.toNat).any isMark then (8, at_) else (0, (m.behind n).1 + block)
theorem behind_bound (cs : List CellP) (i : Nat) (n : Int) : ((behind cs i n).2 = 0 ∧ (i : Int) ≤ (behind cs i n).1 ∧ (behind cs i n).1 ≤ (i : Int) + (cs.length : Int)) ∨ ((behind cs i n).2 = 8 ∧ (behind cs i n).1 = 0) := by
  induction cs generalizing i n with
  | nil => exact .inr ⟨rfl, rfl⟩
  | cons c cs ih =>
    unfold behind
    split
    · split
      · exact .inl ⟨rfl, by dsimp only; omega, by simp only [List.length_cons]; omega⟩
      · rcases ih (i + 1) (n - 1) with h | h
        · exact .inl ⟨h.1, by omega, by simp only [List.length_cons]; omega⟩
        · exact .inr h
    · rcases ih (i + 1) n with h | h
      · exact .inl ⟨h.1, by omega, by simp only [List.length_cons]; omega⟩
      · exact .inr h
theorem Med.behind_bound (m : Med) (n : Int) : ((m.behind n).2 = 0 ∧ 0 ≤ (m.behind n).1 ∧ (m.behind n).1 ≤ (m.cells.length : Int)) ∨ ((m.behind n).2 = 8 ∧ (m.behind n).1 = 0) := by
  unfold Med.behind
  split
  · exact .inl ⟨rfl, by decide, by dsimp only; omega⟩
  · rcases Go.Proofs.Ytmaagkdehdmhlaa.behind_bound m.cells 0 n with h | h
    · exact .inl ⟨h.1, by have := h.2.1; simpa using this, by have := h.2.2; simpa using this⟩
    · exact .inr h

set_option maxRecDepth 100000 in
set_option maxHeartbeats 4000000 in
theorem drv_locate0 (n block E at' : Int) (w : World) (h : DrvAt B K w d g M at_ a k c cs) (hk : k ≤ 90000) (hn1 : n ≤ 9223372036854775807) (hb0 : block ≤ 9223372036854775807) (hr : M.locate n block at_ = (E, at')) :
    Calls Try.prog 59 #[.pointer (some ⟨d, 0, none⟩), .int .i64 n, .int .i64 block] w fun e w' => e = .returned (.int .i64 E) ∧ DrvAt B K w' d g M at' a k c cs ∧ Mod (TF B K) w w' := by
  have H := Lib.hid h
  have HR := Lib.hid hr
  have hkl : M.cells.length = k := h.r.size
  have hdl := heap_lt h.obj
  obtain ⟨d0, d1, d2, d3⟩ := h.cells
  clear h hr d2 d3
  go_enter Try.func59, Try.ntmps59
  by_cases hneg : n < 0 ∨ block < 0
  · have hl := HR.out
    unfold Med.locate at hl
    rw [if_pos hneg] at hl
    simp only [Prod.mk.injEq] at hl
    obtain ⟨rfl, rfl⟩ := hl
    by_cases h1 : n < 0
    · clear hneg
      go_wp2
      go_ret
      exact ⟨rfl, H.out, Mod.refl _ _⟩
    · have h2 : block < 0 := by omega
      clear hneg
      go_wp2
      go_ret
      exact ⟨rfl, H.out, Mod.refl _ _⟩
  have h1 : ¬ n < 0 := by omega
  obtain ⟨bk, rfl⟩ := Int.eq_ofNat_of_zero_le (show 0 ≤ block by omega)
  have h2 : ¬ (bk : Int) < 0 := by omega
  obtain ⟨⟨R, Eb⟩, hbh⟩ : ∃ x, x = M.behind n := ⟨_, rfl⟩
  have hl := HR.out
  unfold Med.locate at hl
  rw [if_neg hneg, ← hbh, hkl, Int.toNat_natCast] at hl
  have hbd := M.behind_bound n
  rw [← hbh, hkl] at hbd
  have HL := Lib.hid hl
  have Hbh := Lib.hid hbh.symm
  clear hl HR hbh hneg
  go_wp2_with fail
  refine (behind_any M.cap a c k cs n R Eb w H.out.r.mat H.out.r.len.symm (by omega) (by omega) hn1 (by rw [H.out.of]; exact Hbh.out)).mono ?_
  rintro e w2 ⟨rfl, hb⟩
  have H2 := Lib.hid (H.out.ext hb)
  have Hb := Lib.hid hb
  clear hb d0 d1
  obtain ⟨d0, d1, d2, d3⟩ := H2.out.cells
  clear d0 d3
  rcases hbd with ⟨hE, hR0, hRk⟩ | ⟨hE, hR⟩
  · have hE : Eb = 0 := hE
    have hR0 : 0 ≤ R := hR0
    have hRk : R ≤ (k : Int) := hRk
    subst hE
    obtain ⟨R, rfl⟩ := Int.eq_ofNat_of_zero_le hR0
    by_cases hlen : (k : Int) - (R : Int) < (bk : Int)
    · have hl := HL.out
      rw [if_pos (.inr hlen)] at hl
      simp only [Prod.mk.injEq] at hl
      obtain ⟨rfl, rfl⟩ := hl
      go_wp2
      go_ret
      exact ⟨rfl, H2.out, bmod Hb.out _⟩
    · have hl := HL.out
      rw [if_neg (by simp; omega), Int.toNat_natCast] at hl
      have HL2 := Lib.hid hl
      have hcap := H2.out.cap
      have hRk2 : R + bk ≤ k := by omega
      clear hl HL hR0
      have hRc : (R : Int) + (bk : Int) ≤ (c : Int) := by omega
      by_cases hcR : c = R
      · have hbk : bk = 0 := by omega
        subst hbk
        have hl := HL2.out
        rw [List.take_zero] at hl
        simp only [List.any_nil, Bool.false_eq_true, if_false, Prod.mk.injEq] at hl
        obtain ⟨rfl, rfl⟩ := hl
        clear HL2
        go_wp2_with fail
        go_loopw [51] (fun i wr => i = .int .i64 0 ∧ wr = w2) (fun i _ => 0)
        case atStart => exact ⟨rfl, rfl⟩
        case round =>
          obtain ⟨rfl, rfl⟩ := hrel
          obtain ⟨h5, hm5⟩ := H2.out.set2 ((R : Int) + ((0 : Nat) : Int))
          have hfz := frozen_of_row _ d 2 _ _ H2.out.obj
          have HF := Lib.hid h5
          have HMF := Lib.hid ((bmod Hb.out (TF B K)).trans hm5)
          clear h5 hm5
          go_wp2
          go_ret
          first | exact ⟨rfl, HF.out, HMF.out⟩ | exact ⟨rfl, by simpa using HF.out, by simpa using HMF.out⟩
      · have hrow := H2.out.r.own.row
        rw [H2.out.r.len] at hrow
        obtain ⟨x, rfl⟩ : ∃ x, a = some ⟨x, 0, none⟩ := by
          obtain ⟨_, h0 | ⟨g', cur, ha, _⟩⟩ := hrow
          · omega
          · exact ⟨g', ha⟩
        have Hrow := Lib.hid hrow
        have Hal : Hid (∀ (j : Nat), j < bk → ∃ v : CellV, (∀ (wz : World), Below w2.heap.size w2 wz → wz.cell? ⟨x, R * 3 + j * 3, none⟩ = some (.int .i64 v.kind) ∧ wz.cell? ⟨x, R * 3 + j * 3 + 1, none⟩ = some (.slice v.d.a v.d.l.length v.d.c) ∧ wz.cell? ⟨x, R * 3 + j * 3 + 2, none⟩ = some (.bool v.bad)) ∧ ((M.cells.drop R).take (j + 1)).any isMark = (((M.cells.drop R).take j).any isMark || decide (v.kind = 2))) := Lib.hid fun j hj => by
          have hjc : R + j < cs.length := by rw [H2.out.r.len]; omega
          obtain ⟨x', hx', _, hlx, hat, _⟩ := H2.out.r.own.row.elem CellV.len (by decide) hjc
          obtain rfl : x = x' := by simpa using hx'
          refine ⟨cs[R + j], fun wz hbz => ⟨?_, ?_, ?_⟩, ?_⟩
          · rw [← Nat.add_mul]
            exact (World.cell?_of_block (w := w2) (a := ⟨x, (R + j) * 3, none⟩) (hbz.block x hlx)).trans (hat 0 _ rfl)
          · rw [← Nat.add_mul]
            exact (World.cell?_of_block (w := w2) (a := ⟨x, (R + j) * 3 + 1, none⟩) (hbz.block x hlx)).trans (hat 1 _ rfl)
          · rw [← Nat.add_mul]
            exact (World.cell?_of_block (w := w2) (a := ⟨x, (R + j) * 3 + 2, none⟩) (hbz.block x hlx)).trans (hat 2 _ rfl)
          · have hjm : j < (M.cells.drop R).length := by rw [List.length_drop, hkl]; omega
            rw [take_succ_list _ j hjm, List.any_append]
            congr 1
            have hg : (M.cells.drop R)[j] = cs[R + j].pl := by
              have h1 := pls_get hjc
              rw [H2.out.r.pls] at h1
              rw [List.getElem_drop]
              exact (List.getElem?_eq_some_iff.1 h1).2
            rw [hg]
            simp [isMark, CellV.pl]
        clear hrow hkl
        go_wp2_with fail
        go_loopw [51] (fun i wr => ∃ (j : Nat), j ≤ bk ∧ i = .int .i64 (j : Int) ∧ Below w2.heap.size w2 wr ∧ ((M.cells.drop R).take j).any isMark = false) (fun i _ => bk - (intOf i).toNat)
        case atStart => exact ⟨0, by omega, rfl, Below.refl _ _, rfl⟩
        case round =>
          rename_i wr
          obtain ⟨j, hj, rfl, hbr, han⟩ := hrel
          have Han := Lib.hid han
          clear han
          by_cases hjb : j < bk
          · obtain ⟨v, hv, hvs⟩ := Hal.out j hjb
            obtain ⟨c0, c1, c2⟩ := hv wr hbr
            have Hvs := Lib.hid hvs
            clear hv hvs
            obtain ⟨kd, ⟨xa, xc, xl⟩, bd⟩ := v
            dsimp only at c0 c1 c2
            have hput := CellAt.put wr #[.int .i64 0, .slice none 0 0, .bool false] _ rfl ⟨kd, ⟨xa, xc, xl⟩, bd⟩
            have hbp := below_putc wr #[.int .i64 0, .slice none 0 0, .bool false] _ rfl ⟨kd, ⟨xa, xc, xl⟩, bd⟩
            obtain ⟨m0, m1, m2⟩ := hput.cells
            dsimp only at hput hbp m0 m1 m2
            have hb03 := bthen hbr hbp (Nat.le_refl _)
            by_cases hm : kd = 2
            · subst hm
              have hall : ((M.cells.drop R).take bk).any isMark = true := by
                rw [List.any_eq_true]
                have h1 : ((M.cells.drop R).take (j + 1)).any isMark = true := by rw [Hvs.out]; simp
                rw [List.any_eq_true] at h1
                obtain ⟨y, hy, hm⟩ := h1
                refine ⟨y, ?_, hm⟩
                rw [show (M.cells.drop R).take (j + 1) = ((M.cells.drop R).take bk).take (j + 1) by rw [List.take_take, Nat.min_eq_left (by omega)]] at hy
                exact List.mem_of_mem_take hy
              have hl := HL2.out
              rw [if_pos hall] at hl
              simp only [Prod.mk.injEq] at hl
              obtain ⟨rfl, rfl⟩ := hl
              have HF := Lib.hid (H2.out.ext hb03)
              clear hall
              go_wp2_with (refine wpList_store_row rfl rfl 42 (.tmp 10) (.tmp 54) rfl wr.heap.size rfl 42 #[.int .i64 0, .slice none 0 0, .bool false] #[.int .i64 2, .slice xa xl.length xc, .bool bd] rfl (heap_alloc_new wr _) rfl (by kernel_rfl) (CellV.one ⟨2, ⟨xa, xc, xl⟩, bd⟩) ?_)
              go_ret
              first | exact ⟨rfl, HF.out, bmod (bthen Hb.out hb03 (Nat.le_refl _)) _⟩ | exact ⟨rfl, H2.out.ext (bthen hbr (ext_alloc _ _) (Nat.le_refl _)), bmod (bthen Hb.out (bthen hbr (ext_alloc _ _) (Nat.le_refl _)) (Nat.le_refl _)) _⟩
            · have e2 : (kd == 2) = false := by simpa using hm
              have Hn2 : Hid (((M.cells.drop R).take (j + 1)).any isMark = false) := Lib.hid (by rw [Hvs.out, Han.out]; simp [hm])
              clear hm
              go_wp2_with (refine wpList_store_row rfl rfl 42 (.tmp 10) (.tmp 54) rfl wr.heap.size rfl 42 #[.int .i64 0, .slice none 0 0, .bool false] #[.int .i64 kd, .slice xa xl.length xc, .bool bd] rfl (heap_alloc_new wr _) rfl (by kernel_rfl) (CellV.one ⟨kd, ⟨xa, xc, xl⟩, bd⟩) ?_)
              go_roundw
              case rel => exact ⟨j + 1, by omega, by go_num, hb03, Hn2.out⟩
              case measure => simp [intOf]; omega
          · obtain rfl : j = bk := by omega
            have hl := HL2.out
            rw [if_neg (by rw [Han.out]; decide)] at hl
            simp only [Prod.mk.injEq] at hl
            obtain ⟨rfl, rfl⟩ := hl
            have H3 := H2.out.ext hbr
            obtain ⟨h5, hm5⟩ := H3.set2 ((R : Int) + (j : Int))
            have hfz := frozen_of_row _ d 2 _ _ H3.obj
            have e2 := H3.cells.2.2.1
            have HF := Lib.hid h5
            have HMF := Lib.hid ((bmod (bthen Hb.out hbr (Nat.le_refl _)) (TF B K)).trans hm5)
            clear h5 hm5 H3
            go_wp2
            go_ret
            exact ⟨rfl, HF.out, HMF.out⟩
  · subst hE hR
    have hl := HL.out
    rw [if_pos (.inl (by decide))] at hl
    simp only [Prod.mk.injEq] at hl
    obtain ⟨rfl, rfl⟩ := hl
    go_wp2
    go_ret
    exact ⟨rfl, H2.out, bmod Hb.out _⟩
end Go.Proofs.Ytmaagkdehdmhlaa

/- drive.Drive's Locate, Read; what they leave. -/
namespace Go.Proofs.Ytmaagkdehdmhlaa
open Go.RowKit

variable {B : Nat} {K : Nat → Prop} {w w' : World} {d g : Nat} {M : Med} {at_ : Int}
set_option maxRecDepth 100000 in
set_option maxHeartbeats 2000000 in
theorem drv_locate (n block E at' : Int) (s : PS) (w : World) (hd : DrvP B K w d g M at_ s) (hk : M.cells.length ≤ 90000) (hn1 : n ≤ 9223372036854775807) (hb0 : block ≤ 9223372036854775807) (hr : (if s.off then (5, at_) else M.locate n block at_) = (E, at')) :
    Calls Try.prog 31 #[.pointer (some ⟨d, 0, none⟩), .int .i64 n, .int .i64 block] w fun e w' => e = .returned (.int .i64 E) ∧ DrvP B K w' d g M at' s ∧ Mod (VF B K) w w' := by
  obtain ⟨⟨a, k, c, cs, h⟩, hpw⟩ := hd
  have hk : k ≤ 90000 := by rw [← h.r.size]; exact hk
  have H := Lib.hid h
  have HR := Lib.hid hr
  have HP := Lib.hid hpw
  obtain ⟨d0, d1, d2, d3⟩ := h.cells
  clear h hpw hr d0 d1 d2
  go_enter Try.func31, Try.ntmps31
  go_wp2_with fail
  cases hoff : s.off with
  | true =>
    have hl := HR.out
    rw [if_pos hoff] at hl
    simp only [Prod.mk.injEq] at hl
    obtain ⟨rfl, rfl⟩ := hl
    refine (off_at HP.out hoff).mono ?_
    rintro e w2 ⟨rfl, rfl⟩
    go_wp2
    go_ret
    exact ⟨rfl, ⟨⟨a, k, c, cs, H.out⟩, HP.out⟩, Mod.refl _ _⟩
  | false =>
    have hl := HR.out
    rw [if_neg (by rw [hoff]; decide)] at hl
    have HL := Lib.hid hl
    clear hl HR
    refine (off_at HP.out hoff).mono ?_
    rintro e w2 ⟨rfl, rfl⟩
    clear hoff
    go_wp2_with fail
    refine (drv_locate0 n block E at' w H.out hk hn1 hb0 HL.out).mono ?_
    rintro e w3 ⟨rfl, h3, hm3⟩
    have HF : Hid (DrvP B K w3 d g M at' s) := Lib.hid ⟨⟨_, _, _, _, h3⟩, HP.out.tf hm3⟩
    have HMF := Lib.hid (TF.vf (K := K) hm3)
    clear h3 hm3 d3
    go_wp2
    go_ret
    exact ⟨rfl, HF.out, HMF.out⟩
set_option maxRecDepth 100000 in
set_option maxHeartbeats 2000000 in
theorem drv_read (n : Nat) (l : List Byte) (Er at' : Int) (s : PS) (w : World) (hd : DrvP B K w d g M at_ s) (hB : B ≤ w.heap.size) (hx : ∀ x ∈ M.cells, x.data.length ≤ 140737488355328) (hn : n = l.length) (ha0 : -9223372036854775808 ≤ at_) (ha1 : at_ ≤ 9223372036854775806)
    (hr : (if s.off then (([] : List Byte), (5 : Int), at_) else ((M.look at_).1, (M.look at_).2, if (M.look at_).2 = 8 then at_ else at_ + 1)) = (l, Er, at')) :
    Calls Try.prog 33 #[.pointer (some ⟨d, 0, none⟩)] w fun e w' => ∃ a' c', e = .returned (.tuple #[.slice a' n c', .int .i64 Er]) ∧ Own w' w.heap.size 5 1 a' n c' (bvs l) ∧ DrvP B K w' d g M at' s ∧ Mod (VF B K) w w' := by
  obtain ⟨⟨a, k, c, cs, h⟩, hpw⟩ := hd
  have H := Lib.hid h
  have HR := Lib.hid hr
  have HP := Lib.hid hpw
  have Hn := Lib.hid hn
  have Hx := Lib.hid (h.short hx)
  obtain ⟨d0, d1, d2, d3⟩ := h.cells
  clear h hpw hr hn hx d0 d1 d2
  go_enter Try.func33, Try.ntmps33
  go_wp2_with fail
  cases hoff : s.off with
  | true =>
    have hl := HR.out
    rw [if_pos hoff] at hl
    simp only [Prod.mk.injEq] at hl
    obtain ⟨rfl, rfl, rfl⟩ := hl
    have hn0 : n = 0 := Hn.out
    subst hn0
    refine (off_at HP.out hoff).mono ?_
    rintro e w2 ⟨rfl, rfl⟩
    go_wp2
    go_ret2
    exact ⟨none, 0, rfl, Own.nil _ _ _ _ _, ⟨⟨a, k, c, cs, H.out⟩, HP.out⟩, Mod.refl _ _⟩
  | false =>
    have hl := HR.out
    rw [if_neg (by rw [hoff]; decide)] at hl
    simp only [Prod.mk.injEq] at hl
    obtain ⟨h1, h2, h3⟩ := hl
    have HL : Hid (M.look at_ = (l, Er)) := Lib.hid (by rw [← h1, ← h2])
    have HA : Hid ((if Er = 8 then at_ else at_ + 1) = at') := Lib.hid (by rw [← h2]; exact h3)
    clear h1 h2 h3 HR
    refine (off_at HP.out hoff).mono ?_
    rintro e w2 ⟨rfl, rfl⟩
    clear hoff
    go_wp2_with fail
    refine (drv_read0 n l Er w H.out hB Hx.out HL.out Hn.out ha0 ha1).mono ?_
    rintro e w3 ⟨a3, c3, rfl, ho3, h3, hm3⟩
    rw [HA.out] at h3
    have HO := Lib.hid ho3
    have HF : Hid (DrvP B K w3 d g M at' s) := Lib.hid ⟨⟨_, _, _, _, h3⟩, HP.out.tf hm3⟩
    have HMF := Lib.hid (TF.vf (K := K) hm3)
    clear h3 hm3 d3 ho3
    go_wp2
    go_ret2
    exact ⟨a3, c3, rfl, HO.out, HF.out, HMF.out⟩
/-- Place, Left, Medium, of a drive with its power. -/
theorem drv_placeP {s : PS} (w : World) (hd : DrvP B K w d g M at_ s) :
    Calls Try.prog 26 #[.pointer (some ⟨d, 0, none⟩)] w fun e w' => e = .returned (.int .i64 at_) ∧ w = w' := by
  obtain ⟨⟨a, k, c, cs, h⟩, _⟩ := hd
  exact drv_place w h
theorem drv_mediumP {s : PS} (w : World) (hd : DrvP B K w d g M at_ s) (hk : M.cells.length ≤ 100000) (hx : ∀ x ∈ M.cells, x.data.length ≤ 140737488355328) :
    Calls Try.prog 49 #[.pointer (some ⟨d, 0, none⟩)] w fun e w' => ∃ a' c' cs' k, e = .returned (.agg #[.int .i64 M.cap, .slice a' k c']) ∧ MedR w' w.heap.size M a' k c' cs' ∧ k ≤ c' ∧ Below w.heap.size w w' := by
  obtain ⟨⟨a, k, c, cs, h⟩, _⟩ := hd
  refine (drv_medium w h (by rw [← h.r.size]; exact hk) (h.short hx)).mono ?_
  rintro e w2 ⟨a', c', cs', rfl, h2, hc, hb⟩
  exact ⟨a', c', cs', k, rfl, h2, hc, hb⟩
theorem DrvP.ext {s : PS} (h : DrvP B K w d g M at_ s) (hb : Below w.heap.size w w') : DrvP B K w' d g M at_ s := by
  obtain ⟨⟨a, k, c, cs, h⟩, hp⟩ := h
  exact ⟨⟨a, k, c, cs, h.ext hb⟩, hp.ext hb⟩
end Go.Proofs.Ytmaagkdehdmhlaa

/- A drive, from a lower bound; bytes that stay. -/
namespace Go.Proofs.Ytmaagkdehdmhlaa
open Go.RowKit

variable {B : Nat} {K : Nat → Prop} {w w' : World} {d g : Nat} {M : Med} {at_ : Int}
theorem DrvAt.mono {B' : Nat} {K' : Nat → Prop} {a : Option Addr} {k c : Nat} {cs : List CellV} (h : DrvAt B K w d g M at_ a k c cs) (hB : B' ≤ B) (hK : ∀ b, B ≤ b → K b → K' b) : DrvAt B' K' w d g M at_ a k c cs := by
  have hrw := h.r.own.row
  rw [h.r.len] at hrw
  exact ⟨Nat.le_trans hB h.low, hK _ h.low h.kd, h.obj, h.r.mono hB, h.cap, hrw.rowInAnd h.kr fun b h1 _ => hK b h1, fun x hx => (h.r.own.dat x hx).rowInAnd (h.du x hx) fun b h1 _ => hK b h1⟩
/-- Bytes in a block of bytes stay, whatever drives do. -/
theorem src_vf {x : Nat} {l : List Byte} {m : Nat × Nat} (hg : w.heap[x]? = some (.cells (bvs l).toArray 5 m)) : ∀ w', Mod (VF B K) w w' → Src w' (some ⟨x, 0, none⟩) (bvs l) := fun w' hm =>
  Or.inr ⟨x, 0, _, _, _, rfl, hm.keep hg (VF_no_u8 x), by rw [List.drop_zero]; exact List.take_length⟩
end Go.Proofs.Ytmaagkdehdmhlaa
