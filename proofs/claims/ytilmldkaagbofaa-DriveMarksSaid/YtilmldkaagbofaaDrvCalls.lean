/- drive.Drive's Locate, Read; what they leave. -/
import Derived.Test.YtilmldkaagbofaaDrvLocate
namespace Go.Proofs.Ytilmldkaagbofaa
open Go.RowKit

variable {B : Nat} {K : Nat → Prop} {w w' : World} {d g : Nat} {M : Med} {at_ : Int}
set_option maxRecDepth 100000 in
set_option maxHeartbeats 2000000 in
theorem drv_locate (n block E at' : Int) (s : PS) (w : World) (hd : DrvP B K w d g M at_ s) (hk : M.cells.length ≤ 90000) (hn1 : n ≤ 9223372036854775807) (hb0 : block ≤ 9223372036854775807) (hr : (if s.off then (5, at_) else M.locate n block at_) = (E, at')) :
    Calls Try.prog 17 #[.pointer (some ⟨d, 0, none⟩), .int .i64 n, .int .i64 block] w fun e w' => e = .returned (.int .i64 E) ∧ DrvP B K w' d g M at' s ∧ Mod (VF B K) w w' := by
  obtain ⟨⟨a, k, c, cs, h⟩, hpw⟩ := hd
  have hk : k ≤ 90000 := by rw [← h.r.size]; exact hk
  have H := Lib.hid h
  have HR := Lib.hid hr
  have HP := Lib.hid hpw
  obtain ⟨d0, d1, d2, d3⟩ := h.cells
  clear h hpw hr d0 d1 d2
  go_enter Try.func17, Try.ntmps17
  go_wp2_with fail
  cases hoff : s.off with
  | true =>
    have hl := HR.out
    rw [if_pos hoff] at hl
    simp only [Prod.mk.injEq] at hl
    obtain ⟨rfl, rfl⟩ := hl
    refine (off_at HP.out hoff).mono ?_
    rintro e w2 ⟨rfl, rfl⟩
    go_wp2
    go_ret
    exact ⟨rfl, ⟨⟨a, k, c, cs, H.out⟩, HP.out⟩, Mod.refl _ _⟩
  | false =>
    have hl := HR.out
    rw [if_neg (by rw [hoff]; decide)] at hl
    have HL := Lib.hid hl
    clear hl HR
    refine (off_at HP.out hoff).mono ?_
    rintro e w2 ⟨rfl, rfl⟩
    clear hoff
    go_wp2_with fail
    refine (drv_locate0 n block E at' w H.out hk hn1 hb0 HL.out).mono ?_
    rintro e w3 ⟨rfl, h3, hm3⟩
    have HF : Hid (DrvP B K w3 d g M at' s) := Lib.hid ⟨⟨_, _, _, _, h3⟩, HP.out.tf hm3⟩
    have HMF := Lib.hid (TF.vf (K := K) hm3)
    clear h3 hm3 d3
    go_wp2
    go_ret
    exact ⟨rfl, HF.out, HMF.out⟩
set_option maxRecDepth 100000 in
set_option maxHeartbeats 2000000 in
theorem drv_read (n : Nat) (l : List Byte) (Er at' : Int) (s : PS) (w : World) (hd : DrvP B K w d g M at_ s) (hB : B ≤ w.heap.size) (hx : ∀ x ∈ M.cells, x.data.length ≤ 140737488355328) (hn : n = l.length) (ha0 : -9223372036854775808 ≤ at_) (ha1 : at_ ≤ 9223372036854775806)
    (hr : (if s.off then (([] : List Byte), (5 : Int), at_) else ((M.look at_).1, (M.look at_).2, if (M.look at_).2 = 8 then at_ else at_ + 1)) = (l, Er, at')) :
    Calls Try.prog 31 #[.pointer (some ⟨d, 0, none⟩)] w fun e w' => ∃ a' c', e = .returned (.tuple #[.slice a' n c', .int .i64 Er]) ∧ Own w' w.heap.size 5 1 a' n c' (bvs l) ∧ DrvP B K w' d g M at' s ∧ Mod (VF B K) w w' := by
  obtain ⟨⟨a, k, c, cs, h⟩, hpw⟩ := hd
  have H := Lib.hid h
  have HR := Lib.hid hr
  have HP := Lib.hid hpw
  have Hn := Lib.hid hn
  have Hx := Lib.hid (h.short hx)
  obtain ⟨d0, d1, d2, d3⟩ := h.cells
  clear h hpw hr hn hx d0 d1 d2
  go_enter Try.func31, Try.ntmps31
  go_wp2_with fail
  cases hoff : s.off with
  | true =>
    have hl := HR.out
    rw [if_pos hoff] at hl
    simp only [Prod.mk.injEq] at hl
    obtain ⟨rfl, rfl, rfl⟩ := hl
    have hn0 : n = 0 := Hn.out
    subst hn0
    refine (off_at HP.out hoff).mono ?_
    rintro e w2 ⟨rfl, rfl⟩
    go_wp2
    go_ret2
    exact ⟨none, 0, rfl, Own.nil _ _ _ _ _, ⟨⟨a, k, c, cs, H.out⟩, HP.out⟩, Mod.refl _ _⟩
  | false =>
    have hl := HR.out
    rw [if_neg (by rw [hoff]; decide)] at hl
    simp only [Prod.mk.injEq] at hl
    obtain ⟨h1, h2, h3⟩ := hl
    have HL : Hid (M.look at_ = (l, Er)) := Lib.hid (by rw [← h1, ← h2])
    have HA : Hid ((if Er = 8 then at_ else at_ + 1) = at') := Lib.hid (by rw [← h2]; exact h3)
    clear h1 h2 h3 HR
    refine (off_at HP.out hoff).mono ?_
    rintro e w2 ⟨rfl, rfl⟩
    clear hoff
    go_wp2_with fail
    refine (drv_read0 n l Er w H.out hB Hx.out HL.out Hn.out ha0 ha1).mono ?_
    rintro e w3 ⟨a3, c3, rfl, ho3, h3, hm3⟩
    rw [HA.out] at h3
    have HO := Lib.hid ho3
    have HF : Hid (DrvP B K w3 d g M at' s) := Lib.hid ⟨⟨_, _, _, _, h3⟩, HP.out.tf hm3⟩
    have HMF := Lib.hid (TF.vf (K := K) hm3)
    clear h3 hm3 d3 ho3
    go_wp2
    go_ret2
    exact ⟨a3, c3, rfl, HO.out, HF.out, HMF.out⟩
/-- Place, Left, Medium, of a drive with its power. -/
theorem drv_placeP {s : PS} (w : World) (hd : DrvP B K w d g M at_ s) :
    Calls Try.prog 23 #[.pointer (some ⟨d, 0, none⟩)] w fun e w' => e = .returned (.int .i64 at_) ∧ w = w' := by
  obtain ⟨⟨a, k, c, cs, h⟩, _⟩ := hd
  exact drv_place w h
theorem drv_leftP {s : PS} (R : Int) (w : World) (hd : DrvP B K w d g M at_ s) (hR : R = M.cap - at_) (h0 : -9223372036854775808 ≤ R) (h1 : R ≤ 9223372036854775807) :
    Calls Try.prog 33 #[.pointer (some ⟨d, 0, none⟩)] w fun e w' => e = .returned (.int .i64 R) ∧ Below w.heap.size w w' := by
  obtain ⟨⟨a, k, c, cs, h⟩, _⟩ := hd
  exact drv_left R w h hR h0 h1
theorem drv_mediumP {s : PS} (w : World) (hd : DrvP B K w d g M at_ s) (hk : M.cells.length ≤ 100000) (hx : ∀ x ∈ M.cells, x.data.length ≤ 140737488355328) :
    Calls Try.prog 18 #[.pointer (some ⟨d, 0, none⟩)] w fun e w' => ∃ a' c' cs' k, e = .returned (.agg #[.int .i64 M.cap, .slice a' k c']) ∧ MedR w' w.heap.size M a' k c' cs' ∧ k ≤ c' ∧ Below w.heap.size w w' := by
  obtain ⟨⟨a, k, c, cs, h⟩, _⟩ := hd
  refine (drv_medium w h (by rw [← h.r.size]; exact hk) (h.short hx)).mono ?_
  rintro e w2 ⟨a', c', cs', rfl, h2, hc, hb⟩
  exact ⟨a', c', cs', k, rfl, h2, hc, hb⟩
theorem DrvP.ext {s : PS} (h : DrvP B K w d g M at_ s) (hb : Below w.heap.size w w') : DrvP B K w' d g M at_ s := by
  obtain ⟨⟨a, k, c, cs, h⟩, hp⟩ := h
  exact ⟨⟨a, k, c, cs, h.ext hb⟩, hp.ext hb⟩
end Go.Proofs.Ytilmldkaagbofaa
