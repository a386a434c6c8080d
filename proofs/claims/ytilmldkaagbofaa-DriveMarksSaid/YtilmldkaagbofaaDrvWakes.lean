/- cellarerlaw12.wakes. -/
import Derived.Test.YtilmldkaagbofaaDrvCalls
import Derived.Lib.SlBytesConst
namespace Go.Proofs.Ytilmldkaagbofaa
open Go.RowKit

variable {B : Nat} {K : Nat → Prop} {w w' : World} {d g : Nat} {M : Med} {at_ : Int}
theorem DrvAt.mono {B' : Nat} {K' : Nat → Prop} {a : Option Addr} {k c : Nat} {cs : List CellV} (h : DrvAt B K w d g M at_ a k c cs) (hB : B' ≤ B) (hK : ∀ b, B ≤ b → K b → K' b) : DrvAt B' K' w d g M at_ a k c cs := ⟨Nat.le_trans hB h.low, hK _ h.low h.kd, h.obj, h.r.mono hB, h.cap, fun x hx => by
  rcases h.kr x hx with h0 | hk
  · exact .inl h0
  · have hrw := h.r.own.row
    rw [h.r.len] at hrw
    obtain ⟨_, h0 | ⟨g', cur, ha, hg', _⟩⟩ := hrw
    · exact .inl h0
    · rw [ha] at hx
      simp only [Option.some.injEq, Addr.mk.injEq, and_true] at hx
      subst hx
      exact .inr (hK _ hg' hk)⟩
/-- Bytes in a block of bytes stay, whatever drives do. -/
theorem src_vf {x : Nat} {l : List Byte} {m : Nat × Nat} (hg : w.heap[x]? = some (.cells (bvs l).toArray 5 m)) : ∀ w', Mod (VF B K) w w' → Src w' (some ⟨x, 0, none⟩) (bvs l) := fun w' hm =>
  Or.inr ⟨x, 0, _, _, _, rfl, hm.keep hg (VF_no_u8 x), by rw [List.drop_zero]; exact List.take_length⟩
set_option maxRecDepth 100000 in
set_option maxHeartbeats 4000000 in
theorem wakes12_any (w : World) :
    Calls Try.prog 26 #[] w fun e w' => e = .returned (.bool true) ∧ Below w.heap.size w w' := by
  have kc := fun (w : World) (C : Array Value) (n c : Nat) => Lib.run_convert_bytes_const (P := Try.prog) w 23 5 C n c Try.underlying23 Try.underlying5
  go_enter Try.func26, Try.ntmps26
  go_wp2_with fail
  refine (power_new w).mono ?_
  rintro e w1 ⟨g, rfl, hp1, hb1⟩
  go_wp2_with fail
  refine (drv_new (g := g) 9 none 0 0 [] w1 (CMat.nil _ _) rfl (by decide) (by simp) (by rfl)).mono ?_
  rintro e w2 ⟨d, a2, c2, cs2, rfl, h2, hb2⟩
  have hd2 : DrvP w.heap.size AllK w2 d g ⟨9, []⟩ 0 PS.new := ⟨⟨_, _, _, _, h2.mono hb1.size fun _ _ _ => trivial⟩, hp1.ext hb2⟩
  have hb02 := bthen hb1 hb2 (Nat.le_refl _)
  have hba := ext_alloc w2 (.cells #[.int .u8 120] 5 (1, 2))
  have hga := heap_alloc_new w2 (.cells #[.int .u8 120] 5 (1, 2))
  have HD := Lib.hid (hd2.ext hba)
  have HB := Lib.hid (bthen hb02 hba (Nat.le_refl _))
  have HS := Lib.hid (src_vf (B := w.heap.size) (K := AllK) (l := [120#8]) hga)
  clear h2 hp1 hb1 hb2 hd2 hb02
  go_wp2_with fail
  refine (drv_write 0 (some ⟨w2.heap.size, 0, none⟩) 1 1 [120#8] PS.new PS.new 0 ⟨9, [⟨1, [120#8], false⟩]⟩ 1 _ HD.out (Up.all HB.out.size) (by decide) (by decide) HS.out rfl (by decide) (by decide) rfl).mono ?_
  rintro e w3 ⟨rfl, hd3, hm3⟩
  have HD3 := Lib.hid hd3
  have HB3 := Lib.hid (HB.out.trans (hm3.below (fun b T h => h.1) HB.out.size))
  clear hd3 hm3 hba hga HD HB HS
  go_wp2_with fail
  refine (drv_mark 1 PS.new PS.new 0 ⟨9, [⟨1, [120#8], false⟩, ⟨2, [], false⟩]⟩ 2 w3 HD3.out (Up.all HB3.out.size) (by decide) (by decide) rfl).mono ?_
  rintro e w4 ⟨rfl, hd4, hm4⟩
  have HD4 := Lib.hid hd4
  have HB4 := Lib.hid (HB3.out.trans (hm4.below (fun b T h => h.1) HB3.out.size))
  clear hd4 hm4 HD3 HB3
  go_wp2_with fail
  refine (drv_locate 1 0 0 2 PS.new w4 HD4.out (by decide) (by decide) (by decide) (by rfl)).mono ?_
  rintro e w5 ⟨rfl, hd5, hm5⟩
  have HD5 := Lib.hid hd5
  have HB5 := Lib.hid (HB4.out.trans (hm5.below (fun b T h => h.1) HB4.out.size))
  clear hd5 hm5 HD4 HB4
  go_wp2_with fail
  refine (drv_placeP w5 HD5.out).mono ?_
  rintro e w6 ⟨rfl, rfl⟩
  go_wp2_with fail
  refine (drv_leftP 7 w5 HD5.out (by rfl) (by decide) (by decide)).mono ?_
  rintro e w6 ⟨rfl, hb6⟩
  have hbF := bthen HB5.out hb6 (Nat.le_refl _)
  clear hb6
  go_wp2
  go_ret
  exact ⟨rfl, hbF⟩
end Go.Proofs.Ytilmldkaagbofaa
