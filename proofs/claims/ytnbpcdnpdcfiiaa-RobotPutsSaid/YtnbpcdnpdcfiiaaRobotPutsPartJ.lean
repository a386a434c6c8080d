/- Several texts of this claim, one behind the other: DrvCalls, DrvWakes. -/
import Derived.Test.YtnbpcdnpdcfiiaaDrvLocate
import Derived.Lib.SlBytesConst
/- drive.Drive's Locate, Read; what they leave. -/
namespace Go.Proofs.Ytnbpcdnpdcfiiaa
open Go.RowKit

variable {B : Nat} {K : Nat → Prop} {w w' : World} {d g : Nat} {M : Med} {at_ : Int}
set_option maxRecDepth 100000 in
set_option maxHeartbeats 2000000 in
theorem drv_locate (n block E at' : Int) (s : PS) (w : World) (hd : DrvP B K w d g M at_ s) (hk : M.cells.length ≤ 90000) (hn1 : n ≤ 9223372036854775807) (hb0 : block ≤ 9223372036854775807) (hr : (if s.off then (5, at_) else M.locate n block at_) = (E, at')) :
    Calls Try.prog 26 #[.pointer (some ⟨d, 0, none⟩), .int .i64 n, .int .i64 block] w fun e w' => e = .returned (.int .i64 E) ∧ DrvP B K w' d g M at' s ∧ Mod (VF B K) w w' := by
  obtain ⟨⟨a, k, c, cs, h⟩, hpw⟩ := hd
  have hk : k ≤ 90000 := by rw [← h.r.size]; exact hk
  have H := Lib.hid h
  have HR := Lib.hid hr
  have HP := Lib.hid hpw
  obtain ⟨d0, d1, d2, d3⟩ := h.cells
  clear h hpw hr d0 d1 d2
  go_enter Try.func26, Try.ntmps26
  go_wp2_with fail
  cases hoff : s.off with
  | true =>
    have hl := HR.out
    rw [if_pos hoff] at hl
    simp only [Prod.mk.injEq] at hl
    obtain ⟨rfl, rfl⟩ := hl
    refine (off_at HP.out hoff).mono ?_
    rintro e w2 ⟨rfl, rfl⟩
    go_wp2
    go_ret
    exact ⟨rfl, ⟨⟨a, k, c, cs, H.out⟩, HP.out⟩, Mod.refl _ _⟩
  | false =>
    have hl := HR.out
    rw [if_neg (by rw [hoff]; decide)] at hl
    have HL := Lib.hid hl
    clear hl HR
    refine (off_at HP.out hoff).mono ?_
    rintro e w2 ⟨rfl, rfl⟩
    clear hoff
    go_wp2_with fail
    refine (drv_locate0 n block E at' w H.out hk hn1 hb0 HL.out).mono ?_
    rintro e w3 ⟨rfl, h3, hm3⟩
    have HF : Hid (DrvP B K w3 d g M at' s) := Lib.hid ⟨⟨_, _, _, _, h3⟩, HP.out.tf hm3⟩
    have HMF := Lib.hid (TF.vf (K := K) hm3)
    clear h3 hm3 d3
    go_wp2
    go_ret
    exact ⟨rfl, HF.out, HMF.out⟩
set_option maxRecDepth 100000 in
set_option maxHeartbeats 2000000 in
theorem drv_read (n : Nat) (l : List Byte) (Er at' : Int) (s : PS) (w : World) (hd : DrvP B K w d g M at_ s) (hB : B ≤ w.heap.size) (hx : ∀ x ∈ M.cells, x.data.length ≤ 140737488355328) (hn : n = l.length) (ha0 : -9223372036854775808 ≤ at_) (ha1 : at_ ≤ 9223372036854775806)
    (hr : (if s.off then (([] : List Byte), (5 : Int), at_) else ((M.look at_).1, (M.look at_).2, if (M.look at_).2 = 8 then at_ else at_ + 1)) = (l, Er, at')) :
    Calls Try.prog 18 #[.pointer (some ⟨d, 0, none⟩)] w fun e w' => ∃ a' c', e = .returned (.tuple #[.slice a' n c', .int .i64 Er]) ∧ Own w' w.heap.size 5 1 a' n c' (bvs l) ∧ DrvP B K w' d g M at' s ∧ Mod (VF B K) w w' := by
  obtain ⟨⟨a, k, c, cs, h⟩, hpw⟩ := hd
  have H := Lib.hid h
  have HR := Lib.hid hr
  have HP := Lib.hid hpw
  have Hn := Lib.hid hn
  have Hx := Lib.hid (h.short hx)
  obtain ⟨d0, d1, d2, d3⟩ := h.cells
  clear h hpw hr hn hx d0 d1 d2
  go_enter Try.func18, Try.ntmps18
  go_wp2_with fail
  cases hoff : s.off with
  | true =>
    have hl := HR.out
    rw [if_pos hoff] at hl
    simp only [Prod.mk.injEq] at hl
    obtain ⟨rfl, rfl, rfl⟩ := hl
    have hn0 : n = 0 := Hn.out
    subst hn0
    refine (off_at HP.out hoff).mono ?_
    rintro e w2 ⟨rfl, rfl⟩
    go_wp2
    go_ret2
    exact ⟨none, 0, rfl, Own.nil _ _ _ _ _, ⟨⟨a, k, c, cs, H.out⟩, HP.out⟩, Mod.refl _ _⟩
  | false =>
    have hl := HR.out
    rw [if_neg (by rw [hoff]; decide)] at hl
    simp only [Prod.mk.injEq] at hl
    obtain ⟨h1, h2, h3⟩ := hl
    have HL : Hid (M.look at_ = (l, Er)) := Lib.hid (by rw [← h1, ← h2])
    have HA : Hid ((if Er = 8 then at_ else at_ + 1) = at') := Lib.hid (by rw [← h2]; exact h3)
    clear h1 h2 h3 HR
    refine (off_at HP.out hoff).mono ?_
    rintro e w2 ⟨rfl, rfl⟩
    clear hoff
    go_wp2_with fail
    refine (drv_read0 n l Er w H.out hB Hx.out HL.out Hn.out ha0 ha1).mono ?_
    rintro e w3 ⟨a3, c3, rfl, ho3, h3, hm3⟩
    rw [HA.out] at h3
    have HO := Lib.hid ho3
    have HF : Hid (DrvP B K w3 d g M at' s) := Lib.hid ⟨⟨_, _, _, _, h3⟩, HP.out.tf hm3⟩
    have HMF := Lib.hid (TF.vf (K := K) hm3)
    clear h3 hm3 d3 ho3
    go_wp2
    go_ret2
    exact ⟨a3, c3, rfl, HO.out, HF.out, HMF.out⟩
/-- Place, Left, Medium, of a drive with its power. -/
theorem drv_placeP {s : PS} (w : World) (hd : DrvP B K w d g M at_ s) :
    Calls Try.prog 38 #[.pointer (some ⟨d, 0, none⟩)] w fun e w' => e = .returned (.int .i64 at_) ∧ w = w' := by
  obtain ⟨⟨a, k, c, cs, h⟩, _⟩ := hd
  exact drv_place w h
theorem drv_leftP {s : PS} (R : Int) (w : World) (hd : DrvP B K w d g M at_ s) (hR : R = M.cap - at_) (h0 : -9223372036854775808 ≤ R) (h1 : R ≤ 9223372036854775807) :
    Calls Try.prog 39 #[.pointer (some ⟨d, 0, none⟩)] w fun e w' => e = .returned (.int .i64 R) ∧ Below w.heap.size w w' := by
  obtain ⟨⟨a, k, c, cs, h⟩, _⟩ := hd
  exact drv_left R w h hR h0 h1
theorem drv_mediumP {s : PS} (w : World) (hd : DrvP B K w d g M at_ s) (hk : M.cells.length ≤ 100000) (hx : ∀ x ∈ M.cells, x.data.length ≤ 140737488355328) :
    Calls Try.prog 37 #[.pointer (some ⟨d, 0, none⟩)] w fun e w' => ∃ a' c' cs' k, e = .returned (.agg #[.int .i64 M.cap, .slice a' k c']) ∧ MedR w' w.heap.size M a' k c' cs' ∧ k ≤ c' ∧ Below w.heap.size w w' := by
  obtain ⟨⟨a, k, c, cs, h⟩, _⟩ := hd
  refine (drv_medium w h (by rw [← h.r.size]; exact hk) (h.short hx)).mono ?_
  rintro e w2 ⟨a', c', cs', rfl, h2, hc, hb⟩
  exact ⟨a', c', cs', k, rfl, h2, hc, hb⟩
theorem DrvP.ext {s : PS} (h : DrvP B K w d g M at_ s) (hb : Below w.heap.size w w') : DrvP B K w' d g M at_ s := by
  obtain ⟨⟨a, k, c, cs, h⟩, hp⟩ := h
  exact ⟨⟨a, k, c, cs, h.ext hb⟩, hp.ext hb⟩
end Go.Proofs.Ytnbpcdnpdcfiiaa

/- cellarerlaw12.wakes. -/
namespace Go.Proofs.Ytnbpcdnpdcfiiaa
open Go.RowKit

variable {B : Nat} {K : Nat → Prop} {w w' : World} {d g : Nat} {M : Med} {at_ : Int}
theorem DrvAt.mono {B' : Nat} {K' : Nat → Prop} {a : Option Addr} {k c : Nat} {cs : List CellV} (h : DrvAt B K w d g M at_ a k c cs) (hB : B' ≤ B) (hK : ∀ b, B ≤ b → K b → K' b) : DrvAt B' K' w d g M at_ a k c cs := by
  have hrw := h.r.own.row
  rw [h.r.len] at hrw
  exact ⟨Nat.le_trans hB h.low, hK _ h.low h.kd, h.obj, h.r.mono hB, h.cap, hrw.rowInAnd h.kr fun b h1 _ => hK b h1, fun x hx => (h.r.own.dat x hx).rowInAnd (h.du x hx) fun b h1 _ => hK b h1⟩
/-- Bytes in a block of bytes stay, whatever drives do. -/
theorem src_vf {x : Nat} {l : List Byte} {m : Nat × Nat} (hg : w.heap[x]? = some (.cells (bvs l).toArray 5 m)) : ∀ w', Mod (VF B K) w w' → Src w' (some ⟨x, 0, none⟩) (bvs l) := fun w' hm =>
  Or.inr ⟨x, 0, _, _, _, rfl, hm.keep hg (VF_no_u8 x), by rw [List.drop_zero]; exact List.take_length⟩
set_option maxRecDepth 100000 in
set_option maxHeartbeats 4000000 in
theorem wakes12_any (w : World) :
    Calls Try.prog 16 #[] w fun e w' => e = .returned (.bool true) ∧ Below w.heap.size w w' := by
  have kc := fun (w : World) (C : Array Value) (n c : Nat) => Lib.run_convert_bytes_const (P := Try.prog) w 42 5 C n c Try.underlying42 Try.underlying5
  go_enter Try.func16, Try.ntmps16
  go_wp2_with fail
  refine (power_new w).mono ?_
  rintro e w1 ⟨g, rfl, hp1, hb1⟩
  go_wp2_with fail
  refine (drv_new (g := g) 9 none 0 0 [] w1 (CMat.nil _ _) rfl (by decide) (by simp) (by rfl)).mono ?_
  rintro e w2 ⟨d, a2, c2, cs2, rfl, h2, hb2⟩
  have hd2 : DrvP w.heap.size AllK w2 d g ⟨9, []⟩ 0 PS.new := ⟨⟨_, _, _, _, h2.mono hb1.size fun _ _ _ => trivial⟩, hp1.ext hb2⟩
  have hb02 := bthen hb1 hb2 (Nat.le_refl _)
  have hba := ext_alloc w2 (.cells #[.int .u8 120] 5 (1, 2))
  have hga := heap_alloc_new w2 (.cells #[.int .u8 120] 5 (1, 2))
  have HD := Lib.hid (hd2.ext hba)
  have HB := Lib.hid (bthen hb02 hba (Nat.le_refl _))
  have HS := Lib.hid (src_vf (B := w.heap.size) (K := AllK) (l := [120#8]) hga)
  clear h2 hp1 hb1 hb2 hd2 hb02
  go_wp2_with fail
  refine (drv_write 0 (some ⟨w2.heap.size, 0, none⟩) 1 1 [120#8] PS.new PS.new 0 ⟨9, [⟨1, [120#8], false⟩]⟩ 1 _ HD.out (Up.all HB.out.size) (by decide) (by decide) HS.out rfl (by decide) (by decide) rfl).mono ?_
  rintro e w3 ⟨rfl, hd3, hm3⟩
  have HD3 := Lib.hid hd3
  have HB3 := Lib.hid (HB.out.trans (hm3.below (fun b T h => h.1) HB.out.size))
  clear hd3 hm3 hba hga HD HB HS
  go_wp2_with fail
  refine (drv_mark 1 PS.new PS.new 0 ⟨9, [⟨1, [120#8], false⟩, ⟨2, [], false⟩]⟩ 2 w3 HD3.out (Up.all HB3.out.size) (by decide) (by decide) rfl).mono ?_
  rintro e w4 ⟨rfl, hd4, hm4⟩
  have HD4 := Lib.hid hd4
  have HB4 := Lib.hid (HB3.out.trans (hm4.below (fun b T h => h.1) HB3.out.size))
  clear hd4 hm4 HD3 HB3
  go_wp2_with fail
  refine (drv_locate 1 0 0 2 PS.new w4 HD4.out (by decide) (by decide) (by decide) (by rfl)).mono ?_
  rintro e w5 ⟨rfl, hd5, hm5⟩
  have HD5 := Lib.hid hd5
  have HB5 := Lib.hid (HB4.out.trans (hm5.below (fun b T h => h.1) HB4.out.size))
  clear hd5 hm5 HD4 HB4
  go_wp2_with fail
  refine (drv_placeP w5 HD5.out).mono ?_
  rintro e w6 ⟨rfl, rfl⟩
  go_wp2_with fail
  refine (drv_leftP 7 w5 HD5.out (by rfl) (by decide) (by decide)).mono ?_
  rintro e w6 ⟨rfl, hb6⟩
  have hbF := bthen HB5.out hb6 (Nat.le_refl _)
  clear hb6
  go_wp2
  go_ret
  exact ⟨rfl, hbF⟩
end Go.Proofs.Ytnbpcdnpdcfiiaa
