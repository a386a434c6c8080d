/- A drive's tape: locate. -/
import Derived.Test.YtjngfkkbfkoedaaDrvWrite
import Derived.Test.YtjngfkkbfkoedaaVolumeFormatsPartD
import Derived.Test.YtjngfkkbfkoedaaVolumeFormatsPartJ
namespace Go.Proofs.Ytjngfkkbfkoedaa
open Go.RowKit

variable {B : Nat} {K : Nat → Prop} {w w' : World} {d g : Nat} {M : Med} {at_ : Int} {a : Option Addr} {k c : Nat} {cs : List CellV}
def isMark (c : CellP) : Bool := decide (c.kind = 2)
def Med.locate (m : Med) (n block at_ : Int) : Int × Int :=
  if n < 0 ∨ block < 0 then (1, at_) else
  if (m.behind n).2 ≠ 0 ∨ (m.cells.length : Int) - (m.behind n).1 < block then (8, at_) else
  if ((m.cells.drop (m.behind n).1.toNat).take block.toNat).any isMark then (8, at_) else (0, (m.behind n).1 + block)
theorem behind_bound (cs : List CellP) (i : Nat) (n : Int) : ((behind cs i n).2 = 0 ∧ (i : Int) ≤ (behind cs i n).1 ∧ (behind cs i n).1 ≤ (i : Int) + (cs.length : Int)) ∨ ((behind cs i n).2 = 8 ∧ (behind cs i n).1 = 0) := by
  induction cs generalizing i n with
  | nil => exact .inr ⟨rfl, rfl⟩
  | cons c cs ih =>
    unfold behind
    split
    · split
      · exact .inl ⟨rfl, by dsimp only; omega, by simp only [List.length_cons]; omega⟩
      · rcases ih (i + 1) (n - 1) with h | h
        · exact .inl ⟨h.1, by omega, by simp only [List.length_cons]; omega⟩
        · exact .inr h
    · rcases ih (i + 1) n with h | h
      · exact .inl ⟨h.1, by omega, by simp only [List.length_cons]; omega⟩
      · exact .inr h
theorem Med.behind_bound (m : Med) (n : Int) : ((m.behind n).2 = 0 ∧ 0 ≤ (m.behind n).1 ∧ (m.behind n).1 ≤ (m.cells.length : Int)) ∨ ((m.behind n).2 = 8 ∧ (m.behind n).1 = 0) := by
  unfold Med.behind
  split
  · exact .inl ⟨rfl, by decide, by dsimp only; omega⟩
  · rcases Go.Proofs.Ytjngfkkbfkoedaa.behind_bound m.cells 0 n with h | h
    · exact .inl ⟨h.1, by have := h.2.1; simpa using this, by have := h.2.2; simpa using this⟩
    · exact .inr h

set_option maxRecDepth 100000 in
set_option maxHeartbeats 4000000 in
theorem drv_locate0 (n block E at' : Int) (w : World) (h : DrvAt B K w d g M at_ a k c cs) (hk : k ≤ 90000) (hn1 : n ≤ 9223372036854775807) (hb0 : block ≤ 9223372036854775807) (hr : M.locate n block at_ = (E, at')) :
    Calls Try.prog 61 #[.pointer (some ⟨d, 0, none⟩), .int .i64 n, .int .i64 block] w fun e w' => e = .returned (.int .i64 E) ∧ DrvAt B K w' d g M at' a k c cs ∧ Mod (TF B K) w w' := by
  have H := Lib.hid h
  have HR := Lib.hid hr
  have hkl : M.cells.length = k := h.r.size
  have hdl := heap_lt h.obj
  obtain ⟨d0, d1, d2, d3⟩ := h.cells
  clear h hr d2 d3
  go_enter Try.func61, Try.ntmps61
  by_cases hneg : n < 0 ∨ block < 0
  · have hl := HR.out
    unfold Med.locate at hl
    rw [if_pos hneg] at hl
    simp only [Prod.mk.injEq] at hl
    obtain ⟨rfl, rfl⟩ := hl
    by_cases h1 : n < 0
    · clear hneg
      go_wp2
      go_ret
      exact ⟨rfl, H.out, Mod.refl _ _⟩
    · have h2 : block < 0 := by omega
      clear hneg
      go_wp2
      go_ret
      exact ⟨rfl, H.out, Mod.refl _ _⟩
  have h1 : ¬ n < 0 := by omega
  obtain ⟨bk, rfl⟩ := Int.eq_ofNat_of_zero_le (show 0 ≤ block by omega)
  have h2 : ¬ (bk : Int) < 0 := by omega
  obtain ⟨⟨R, Eb⟩, hbh⟩ : ∃ x, x = M.behind n := ⟨_, rfl⟩
  have hl := HR.out
  unfold Med.locate at hl
  rw [if_neg hneg, ← hbh, hkl, Int.toNat_natCast] at hl
  have hbd := M.behind_bound n
  rw [← hbh, hkl] at hbd
  have HL := Lib.hid hl
  have Hbh := Lib.hid hbh.symm
  clear hl HR hbh hneg
  go_wp2_with fail
  refine (behind_any M.cap a c k cs n R Eb w H.out.r.mat H.out.r.len.symm (by omega) (by omega) hn1 (by rw [H.out.of]; exact Hbh.out)).mono ?_
  rintro e w2 ⟨rfl, hb⟩
  have H2 := Lib.hid (H.out.ext hb)
  have Hb := Lib.hid hb
  clear hb d0 d1
  obtain ⟨d0, d1, d2, d3⟩ := H2.out.cells
  clear d0 d3
  rcases hbd with ⟨hE, hR0, hRk⟩ | ⟨hE, hR⟩
  · have hE : Eb = 0 := hE
    have hR0 : 0 ≤ R := hR0
    have hRk : R ≤ (k : Int) := hRk
    subst hE
    obtain ⟨R, rfl⟩ := Int.eq_ofNat_of_zero_le hR0
    by_cases hlen : (k : Int) - (R : Int) < (bk : Int)
    · have hl := HL.out
      rw [if_pos (.inr hlen)] at hl
      simp only [Prod.mk.injEq] at hl
      obtain ⟨rfl, rfl⟩ := hl
      go_wp2
      go_ret
      exact ⟨rfl, H2.out, bmod Hb.out _⟩
    · have hl := HL.out
      rw [if_neg (by simp; omega), Int.toNat_natCast] at hl
      have HL2 := Lib.hid hl
      have hcap := H2.out.cap
      have hRk2 : R + bk ≤ k := by omega
      clear hl HL hR0
      have hRc : (R : Int) + (bk : Int) ≤ (c : Int) := by omega
      by_cases hcR : c = R
      · have hbk : bk = 0 := by omega
        subst hbk
        have hl := HL2.out
        rw [List.take_zero] at hl
        simp only [List.any_nil, Bool.false_eq_true, if_false, Prod.mk.injEq] at hl
        obtain ⟨rfl, rfl⟩ := hl
        clear HL2
        go_wp2_with fail
        go_loopw [51] (fun i wr => i = .int .i64 0 ∧ wr = w2) (fun i _ => 0)
        case atStart => exact ⟨rfl, rfl⟩
        case round =>
          obtain ⟨rfl, rfl⟩ := hrel
          obtain ⟨h5, hm5⟩ := H2.out.set2 ((R : Int) + ((0 : Nat) : Int))
          have hfz := frozen_of_row _ d 2 _ _ H2.out.obj
          have HF := Lib.hid h5
          have HMF := Lib.hid ((bmod Hb.out (TF B K)).trans hm5)
          clear h5 hm5
          go_wp2
          go_ret
          first | exact ⟨rfl, HF.out, HMF.out⟩ | exact ⟨rfl, by simpa using HF.out, by simpa using HMF.out⟩
      · have hrow := H2.out.r.own.row
        rw [H2.out.r.len] at hrow
        obtain ⟨x, rfl⟩ : ∃ x, a = some ⟨x, 0, none⟩ := by
          obtain ⟨_, h0 | ⟨g', cur, ha, _⟩⟩ := hrow
          · omega
          · exact ⟨g', ha⟩
        have Hrow := Lib.hid hrow
        have Hal : Hid (∀ (j : Nat), j < bk → ∃ v : CellV, (∀ (wz : World), Below w2.heap.size w2 wz → wz.cell? ⟨x, R * 3 + j * 3, none⟩ = some (.int .i64 v.kind) ∧ wz.cell? ⟨x, R * 3 + j * 3 + 1, none⟩ = some (.slice v.d.a v.d.l.length v.d.c) ∧ wz.cell? ⟨x, R * 3 + j * 3 + 2, none⟩ = some (.bool v.bad)) ∧ ((M.cells.drop R).take (j + 1)).any isMark = (((M.cells.drop R).take j).any isMark || decide (v.kind = 2))) := Lib.hid fun j hj => by
          have hjc : R + j < cs.length := by rw [H2.out.r.len]; omega
          obtain ⟨x', hx', _, hlx, hat, _⟩ := H2.out.r.own.row.elem CellV.len (by decide) hjc
          obtain rfl : x = x' := by simpa using hx'
          refine ⟨cs[R + j], fun wz hbz => ⟨?_, ?_, ?_⟩, ?_⟩
          · rw [← Nat.add_mul]
            exact (World.cell?_of_block (w := w2) (a := ⟨x, (R + j) * 3, none⟩) (hbz.block x hlx)).trans (hat 0 _ rfl)
          · rw [← Nat.add_mul]
            exact (World.cell?_of_block (w := w2) (a := ⟨x, (R + j) * 3 + 1, none⟩) (hbz.block x hlx)).trans (hat 1 _ rfl)
          · rw [← Nat.add_mul]
            exact (World.cell?_of_block (w := w2) (a := ⟨x, (R + j) * 3 + 2, none⟩) (hbz.block x hlx)).trans (hat 2 _ rfl)
          · have hjm : j < (M.cells.drop R).length := by rw [List.length_drop, hkl]; omega
            rw [take_succ_list _ j hjm, List.any_append]
            congr 1
            have hg : (M.cells.drop R)[j] = cs[R + j].pl := by
              have h1 := pls_get hjc
              rw [H2.out.r.pls] at h1
              rw [List.getElem_drop]
              exact (List.getElem?_eq_some_iff.1 h1).2
            rw [hg]
            simp [isMark, CellV.pl]
        clear hrow hkl
        go_wp2_with fail
        go_loopw [51] (fun i wr => ∃ (j : Nat), j ≤ bk ∧ i = .int .i64 (j : Int) ∧ Below w2.heap.size w2 wr ∧ ((M.cells.drop R).take j).any isMark = false) (fun i _ => bk - (intOf i).toNat)
        case atStart => exact ⟨0, by omega, rfl, Below.refl _ _, rfl⟩
        case round =>
          rename_i wr
          obtain ⟨j, hj, rfl, hbr, han⟩ := hrel
          have Han := Lib.hid han
          clear han
          by_cases hjb : j < bk
          · obtain ⟨v, hv, hvs⟩ := Hal.out j hjb
            obtain ⟨c0, c1, c2⟩ := hv wr hbr
            have Hvs := Lib.hid hvs
            clear hv hvs
            obtain ⟨kd, ⟨xa, xc, xl⟩, bd⟩ := v
            dsimp only at c0 c1 c2
            have hput := CellAt.put wr #[.int .i64 0, .slice none 0 0, .bool false] _ rfl ⟨kd, ⟨xa, xc, xl⟩, bd⟩
            have hbp := below_putc wr #[.int .i64 0, .slice none 0 0, .bool false] _ rfl ⟨kd, ⟨xa, xc, xl⟩, bd⟩
            obtain ⟨m0, m1, m2⟩ := hput.cells
            dsimp only at hput hbp m0 m1 m2
            have hb03 := bthen hbr hbp (Nat.le_refl _)
            by_cases hm : kd = 2
            · subst hm
              have hall : ((M.cells.drop R).take bk).any isMark = true := by
                rw [List.any_eq_true]
                have h1 : ((M.cells.drop R).take (j + 1)).any isMark = true := by rw [Hvs.out]; simp
                rw [List.any_eq_true] at h1
                obtain ⟨y, hy, hm⟩ := h1
                refine ⟨y, ?_, hm⟩
                rw [show (M.cells.drop R).take (j + 1) = ((M.cells.drop R).take bk).take (j + 1) by rw [List.take_take, Nat.min_eq_left (by omega)]] at hy
                exact List.mem_of_mem_take hy
              have hl := HL2.out
              rw [if_pos hall] at hl
              simp only [Prod.mk.injEq] at hl
              obtain ⟨rfl, rfl⟩ := hl
              have HF := Lib.hid (H2.out.ext hb03)
              clear hall
              go_wp2_with (refine wpList_store_row rfl rfl 30 (.tmp 10) (.tmp 54) rfl wr.heap.size rfl 30 #[.int .i64 0, .slice none 0 0, .bool false] #[.int .i64 2, .slice xa xl.length xc, .bool bd] rfl (heap_alloc_new wr _) rfl (by kernel_rfl) (CellV.one ⟨2, ⟨xa, xc, xl⟩, bd⟩) ?_)
              go_ret
              first | exact ⟨rfl, HF.out, bmod (bthen Hb.out hb03 (Nat.le_refl _)) _⟩ | exact ⟨rfl, H2.out.ext (bthen hbr (ext_alloc _ _) (Nat.le_refl _)), bmod (bthen Hb.out (bthen hbr (ext_alloc _ _) (Nat.le_refl _)) (Nat.le_refl _)) _⟩
            · have e2 : (kd == 2) = false := by simpa using hm
              have Hn2 : Hid (((M.cells.drop R).take (j + 1)).any isMark = false) := Lib.hid (by rw [Hvs.out, Han.out]; simp [hm])
              clear hm
              go_wp2_with (refine wpList_store_row rfl rfl 30 (.tmp 10) (.tmp 54) rfl wr.heap.size rfl 30 #[.int .i64 0, .slice none 0 0, .bool false] #[.int .i64 kd, .slice xa xl.length xc, .bool bd] rfl (heap_alloc_new wr _) rfl (by kernel_rfl) (CellV.one ⟨kd, ⟨xa, xc, xl⟩, bd⟩) ?_)
              go_roundw
              case rel => exact ⟨j + 1, by omega, by go_num, hb03, Hn2.out⟩
              case measure => simp [intOf]; omega
          · obtain rfl : j = bk := by omega
            have hl := HL2.out
            rw [if_neg (by rw [Han.out]; decide)] at hl
            simp only [Prod.mk.injEq] at hl
            obtain ⟨rfl, rfl⟩ := hl
            have H3 := H2.out.ext hbr
            obtain ⟨h5, hm5⟩ := H3.set2 ((R : Int) + (j : Int))
            have hfz := frozen_of_row _ d 2 _ _ H3.obj
            have e2 := H3.cells.2.2.1
            have HF := Lib.hid h5
            have HMF := Lib.hid ((bmod (bthen Hb.out hbr (Nat.le_refl _)) (TF B K)).trans hm5)
            clear h5 hm5 H3
            go_wp2
            go_ret
            exact ⟨rfl, HF.out, HMF.out⟩
  · subst hE hR
    have hl := HL.out
    rw [if_pos (.inl (by decide))] at hl
    simp only [Prod.mk.injEq] at hl
    obtain ⟨rfl, rfl⟩ := hl
    go_wp2
    go_ret
    exact ⟨rfl, H2.out, bmod Hb.out _⟩
end Go.Proofs.Ytjngfkkbfkoedaa
