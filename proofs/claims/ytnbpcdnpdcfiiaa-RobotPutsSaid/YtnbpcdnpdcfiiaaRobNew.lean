/- robot.New. -/
import Derived.Test.YtnbpcdnpdcfiiaaRobotPutsPartO
import Derived.Test.YtnbpcdnpdcfiiaaAppMod
namespace Go.Proofs.Ytnbpcdnpdcfiiaa
open Go.RowKit

theorem infoMed : (Try.prog.info? 24).map (fun i => (i.zero, i.size, i.bytes)) = some (some (.agg #[.int .i64 0, .slice none 0 0]), 2, 32) := by kernel_rfl
theorem infoBay : (Try.prog.info? 127).map (fun i => (i.zero, i.size, i.bytes)) = some (some (.agg #[.pointer none, .int .i64 0, .int .i64 0]), 3, 24) := by kernel_rfl
def tv0 (size : Int) : TapeV := ⟨⟨size, []⟩, none, 0, 0, []⟩
def bv0 : BayV := ⟨⟨-1, 0, ⟨0, []⟩, 0⟩, 0⟩
theorem flt_rep_succ {α : Type} {f : α → List Value} (k : Nat) (x : α) : flt f (List.replicate (k + 1) x) = flt f (List.replicate k x) ++ f x := by
  rw [List.replicate_succ', flt_snoc]
/-- A new robot on its way. -/
structure RNew (w : World) (W r g : Nat) (size : Int) (k m : Nat) (aM aB : Option Addr) (cM cB : Nat) : Prop where
  obj : w.heap[r]? = some (.cells #[.pointer (some ⟨g, 0, none⟩), .int .i64 size, .slice aM k cM, .slice aB m cB, .int .i64 0, .int .i64 0] 125 (0, 0))
  low : W ≤ r
  rowM : Own w W 24 2 aM k cM (flt TapeV.cells (List.replicate k (tv0 size)))
  rowB : Own w W 127 3 aB m cB (flt BayV.cells (List.replicate m bv0))
theorem RNew.cells {w : World} {W r g : Nat} {size : Int} {k m : Nat} {aM aB : Option Addr} {cM cB : Nat} (h : RNew w W r g size k m aM aB cM cB) : w.cell? ⟨r, 2, none⟩ = some (.slice aM k cM) ∧ w.cell? ⟨r, 3, none⟩ = some (.slice aB m cB) :=
  ⟨cell_of_row _ _ _ _ _ _ h.obj, cell_of_row _ _ _ _ _ _ h.obj⟩
theorem RNew.ext {w w' : World} {W r g : Nat} {size : Int} {k m : Nat} {aM aB : Option Addr} {cM cB : Nat} (h : RNew w W r g size k m aM aB cM cB) (hb : Below w.heap.size w w') : RNew w' W r g size k m aM aB cM cB :=
  ⟨(hb.block r (heap_lt h.obj)).trans h.obj, h.low, h.rowM.ext hb, h.rowB.ext hb⟩
theorem RNew.appM {w w' : World} {W r g : Nat} {size : Int} {k m : Nat} {aM aB : Option Addr} {cM cB : Nat} (h : RNew w W r g size k m aM aB cM cB) {a' : Option Addr} {c' : Nat} (hA : AppR w w' W 24 2 aM k cM a' (k + 1) c' (flt TapeV.cells (List.replicate k (tv0 size)) ++ (tv0 size).cells)) :
    RNew (w'.setCell ⟨r, 2, none⟩ (.slice a' (k + 1) c')) W r g size (k + 1) m a' aB c' cB ∧ (∃ v, w'.cell? ⟨r, 2, none⟩ = some v) ∧ w'.frozen? ⟨r, 2, none⟩ = false ∧ Below W w (w'.setCell ⟨r, 2, none⟩ (.slice a' (k + 1) c')) := by
  have hm : Mod (fun _ T => T = 24) w w' := hA.mod _ fun _ _ _ _ => rfl
  have hobj := hm.keep h.obj (by decide)
  have hm2 : Mod (fun b T => b = r ∧ T = 125) w' (w'.setCell ⟨r, 2, none⟩ (.slice a' (k + 1) c')) := (Mod.refl _ w').setCell hobj ⟨rfl, rfl⟩ _ _
  refine ⟨⟨heap_setCell_same w' r 2 _ _ _ hobj, h.low, ?_, ?_⟩, ⟨_, cell_of_row _ _ 2 _ _ _ hobj⟩, frozen_of_row _ _ _ _ _ hobj, hA.below.setCell (p := ⟨r, 2, none⟩) h.low _⟩
  · rw [flt_rep_succ]
    exact hA.own.mod hm2 fun b _ _ hf => absurd hf.2 (by decide)
  · exact (h.rowB.mod hm fun b _ _ hf => absurd hf (by decide)).mod hm2 fun b _ _ hf => absurd hf.2 (by decide)
theorem RNew.appB {w w' : World} {W r g : Nat} {size : Int} {k m : Nat} {aM aB : Option Addr} {cM cB : Nat} (h : RNew w W r g size k m aM aB cM cB) {a' : Option Addr} {c' : Nat} (hA : AppR w w' W 127 3 aB m cB a' (m + 1) c' (flt BayV.cells (List.replicate m bv0) ++ bv0.cells)) :
    RNew (w'.setCell ⟨r, 3, none⟩ (.slice a' (m + 1) c')) W r g size k (m + 1) aM a' cM c' ∧ (∃ v, w'.cell? ⟨r, 3, none⟩ = some v) ∧ w'.frozen? ⟨r, 3, none⟩ = false ∧ Below W w (w'.setCell ⟨r, 3, none⟩ (.slice a' (m + 1) c')) := by
  have hm : Mod (fun _ T => T = 127) w w' := hA.mod _ fun _ _ _ _ => rfl
  have hobj := hm.keep h.obj (by decide)
  have hm2 : Mod (fun b T => b = r ∧ T = 125) w' (w'.setCell ⟨r, 3, none⟩ (.slice a' (m + 1) c')) := (Mod.refl _ w').setCell hobj ⟨rfl, rfl⟩ _ _
  refine ⟨⟨heap_setCell_same w' r 3 _ _ _ hobj, h.low, ?_, ?_⟩, ⟨_, cell_of_row _ _ 3 _ _ _ hobj⟩, frozen_of_row _ _ _ _ _ hobj, hA.below.setCell (p := ⟨r, 3, none⟩) h.low _⟩
  · exact (h.rowM.mod hm fun b _ _ hf => absurd hf (by decide)).mod hm2 fun b _ _ hf => absurd hf.2 (by decide)
  · rw [flt_rep_succ]
    exact hA.own.mod hm2 fun b _ _ hf => absurd hf.2 (by decide)
theorem rnew_ok (vols size drives : Nat) (hv : 1 ≤ vols ∧ vols ≤ 8) (hs : 1 ≤ size ∧ size ≤ 400) (hd : 1 ≤ drives ∧ drives ≤ 4) : (RS.new vols size drives).ok := by
  refine ⟨by simpa [RS.new] using hv, by simpa [RS.new] using hd, by show 1 ≤ (size : Int) ∧ (size : Int) ≤ 400; omega, ?_, ?_, ?_, ⟨Int.le_refl _, by show (0 : Int) ≤ _; omega⟩, ⟨Int.le_refl _, Int.le_refl _⟩⟩
  · intro m hm
    obtain rfl := List.eq_of_mem_replicate hm
    refine ⟨Med.ok_iff.2 ⟨⟨by show 1 ≤ (size : Int); omega, by show (size : Int) ≤ 400; omega, by show ((0 : Nat) : Int) ≤ size; omega⟩, fun x hx => by cases hx⟩, rfl⟩
  · intro b hb
    obtain rfl := List.eq_of_mem_replicate hb
    exact ⟨⟨Int.le_refl _, by show (-1 : Int) < _; have := hv.1; simp [RS.new]; omega⟩, ⟨Int.le_refl _, Int.le_refl _⟩, fun h => absurd h (by decide)⟩
  · intro i j bi bj hi hj _ h0
    obtain rfl := List.eq_of_mem_replicate (List.mem_of_getElem? hi)
    exact absurd h0 (by decide)
theorem RNew.done {B : Nat} {K : Nat → Prop} {w : World} {W r g : Nat} {size : Nat} {k m : Nat} {aM aB : Option Addr} {cM cB : Nat} (h : RNew w W r g size k m aM aB cM cB) (hB : B ≤ W) (hK : ∀ b, W ≤ b → K b) (D : Nat → Nat) {s : PS} (hp : Pow B w g s) (hv : 1 ≤ k ∧ k ≤ 8) (hs : 1 ≤ size ∧ size ≤ 400) (hd : 1 ≤ m ∧ m ≤ 4) : RobP B K w r g (RS.new k size m) D s := by
  refine ⟨⟨⟨aM, cM, aB, cB, List.replicate k (tv0 size), List.replicate m bv0, fun _ => 0⟩, ⟨Nat.le_trans hB h.low, hK _ h.low, ?_, ?_, ?_, ?_, ?_, ?_, ?_, ?_, ?_⟩, ?_⟩, rnew_ok k size m hv hs hd, hp⟩
  · simp only [RS.new, List.length_replicate]; exact h.obj
  · simp [RS.new, tv0, List.map_replicate]
  · simp [RS.new, bv0, List.map_replicate]
  · simp only [RS.new, List.length_replicate]; exact h.rowM.mono hB
  · simp only [RS.new, List.length_replicate]; exact h.rowB.mono hB
  · simp only [RS.new, List.length_replicate]; exact h.rowM.rowIn fun b hb _ => hK b hb
  · simp only [RS.new, List.length_replicate]; exact h.rowB.rowIn fun b hb _ => hK b hb
  · intro x hx
    obtain rfl := List.eq_of_mem_replicate hx
    exact ⟨⟨OwnM.nil _ _ _, rfl, rfl⟩, Nat.le_refl _, ⟨(fun x hx => .inl ⟨rfl, rfl⟩), (fun x hx => by cases hx)⟩⟩
  · intro i x hx h0
    obtain rfl := List.eq_of_mem_replicate (List.mem_of_getElem? hx)
    exact absurd h0 (by decide)
  · intro i x hx h0
    obtain rfl := List.eq_of_mem_replicate (List.mem_of_getElem? hx)
    exact absurd h0 (by decide)

set_option maxRecDepth 100000 in
set_option maxHeartbeats 4000000 in
theorem rob_new {B : Nat} {K : Nat → Prop} {g : Nat} {s : PS} (D : Nat → Nat) (vols size drives : Nat) (w : World) (hu : Up B K w) (hp : Pow B w g s) (hv : 1 ≤ vols ∧ vols ≤ 8) (hs : 1 ≤ size ∧ size ≤ 400) (hd : 1 ≤ drives ∧ drives ≤ 4) :
    Calls Try.prog 41 #[.pointer (some ⟨g, 0, none⟩), .int .i64 vols, .int .i64 size, .int .i64 drives] w fun e w' => ∃ r, e = .returned (.tuple #[.pointer (some ⟨r, 0, none⟩), .int .i64 0]) ∧ RobP B K w' r g (RS.new vols size drives) D s ∧ Below w.heap.size w w' := by
  obtain ⟨i0, hi, hz0, hz1, hz2⟩ := info_parts infoMed
  obtain ⟨i1, hj, hy0, hy1, hy2⟩ := info_parts infoBay
  have e0 : decide ((vols : Int) < 1) = false := by simp; omega
  have e1 : decide ((vols : Int) > 8) = false := by simp; omega
  have e2 : decide ((size : Int) < 1) = false := by simp; omega
  have e3 : decide ((size : Int) > 400) = false := by simp; omega
  have e4 : decide ((drives : Int) < 1) = false := by simp; omega
  have e5 : decide ((drives : Int) > 4) = false := by simp; omega
  have HU := Lib.hid hu
  have HP := Lib.hid hp
  obtain ⟨W, hW⟩ : ∃ W, W = w.heap.size := ⟨_, rfl⟩
  have h0 : RNew (w.alloc (.cells #[.pointer (some ⟨g, 0, none⟩), .int .i64 size, .slice none 0 0, .slice none 0 0, .int .i64 0, .int .i64 0] 125)) W w.heap.size g size 0 0 none none 0 0 :=
    ⟨heap_alloc_new w _, by omega, Own.nil _ _ _ _ _, Own.nil _ _ _ _ _⟩
  have hb0 := ext_alloc w (.cells #[.pointer (some ⟨g, 0, none⟩), .int .i64 size, .slice none 0 0, .slice none 0 0, .int .i64 0, .int .i64 0] 125)
  obtain ⟨r, hr⟩ : ∃ r, r = w.heap.size := ⟨_, rfl⟩
  rw [← hr] at h0
  rw [← hW] at hb0
  have H0 := Lib.hid h0
  have HB0 := Lib.hid hb0
  have HW := Lib.hid hW
  have Hr := Lib.hid hr
  clear h0 hb0 hu hp hW
  go_enter Try.func41, Try.ntmps41
  go_wp2_with fail
  rw [← Hr.out]
  clear hr
  generalize w.alloc (.cells #[.pointer (some ⟨g, 0, none⟩), .int .i64 size, .slice none 0 0, .slice none 0 0, .int .i64 0, .int .i64 0] 125) = wA at *
  clear e0 e1 e2 e3 e4 e5
  go_loopw [42] (fun i wr => ∃ (k : Nat) (aM : Option Addr) (cM : Nat) (wx : World), wx = wr ∧ k ≤ vols ∧ i = .int .i64 (k : Int) ∧ RNew wx W r g size k 0 aM none cM 0 ∧ Below W w wx) (fun i _ => vols - (intOf i).toNat)
  case atStart => exact ⟨0, none, 0, _, rfl, by omega, rfl, H0.out, HB0.out⟩
  case round =>
    obtain ⟨k, aM, cM, wx, hwx, hk, rfl, hR, hB⟩ := hrel
    subst hwx
    clear H0 HB0
    have HR := Lib.hid hR
    have HB := Lib.hid hB
    obtain ⟨c2, c3⟩ := hR.cells
    clear hR hB
    by_cases hlt : k < vols
    · have hba := ext_alloc wx (.cells #[.int .i64 size, .slice none 0 0] 24)
      have HR1 := Lib.hid (HR.out.ext hba)
      have HB1 := Lib.hid (HB.out.trans (hba.mono (by have := HB.out.size; have := HW.out; omega)))
      have HS1 : W ≤ (wx.alloc (.cells #[.int .i64 size, .slice none 0 0] 24)).heap.size := by have := HB1.out.size; have := HW.out; omega
      have HO := Lib.hid HR1.out.rowM
      have hsrc : Src (wx.alloc (.cells #[.int .i64 size, .slice none 0 0] 24)) (some ⟨wx.heap.size, 0, none⟩) (tv0 size).cells := src_new wx _ _
      clear hba
      go_wp2_with (refine wpList_appm rfl (.tmp 48) (.tmp 51) 87 rfl W 24 i0 (.agg #[.int .i64 0, .slice none 0 0]) 2 32 Try.underlying87 hi hz0 hz1 hz2 rfl (by decide) aM k cM (flt TapeV.cells (List.replicate k (tv0 size))) rfl HO.out (some ⟨wx.heap.size, 0, none⟩) 1 1 (tv0 size).cells rfl rfl hsrc (TapeV.one _) (by unfold maxLen; omega) (by omega) HS1 ?_; intro a4 c4 w4 hA4; obtain ⟨hR5, ⟨v5, c5⟩, f5, hb5⟩ := HR1.out.appM hA4; have HR5 := Lib.hid hR5; have HB5 := Lib.hid (HB1.out.trans hb5); clear hR5 hb5 hA4 hsrc HO HS1)
      go_roundw
      case rel => exact ⟨k + 1, a4, c4, _, rfl, by omega, by go_num, HR5.out, HB5.out⟩
      case measure => simp [intOf]; omega
    · obtain rfl : k = vols := by omega
      clear c2 c3
      go_wp2_with fail
      go_loopw [57] (fun i wr => ∃ (m : Nat) (aB : Option Addr) (cB : Nat) (wx : World), wx = wr ∧ m ≤ drives ∧ i = .int .i64 (m : Int) ∧ RNew wx W r g size k m aM aB cM cB ∧ Below W w wx) (fun i _ => drives - (intOf i).toNat)
      case atStart => exact ⟨0, none, 0, _, rfl, by omega, rfl, HR.out, HB.out⟩
      case round =>
        obtain ⟨m, aB, cB, wy, hwy, hm, rfl, hR, hB⟩ := hrel
        subst hwy
        clear HR HB
        have HR := Lib.hid hR
        have HB := Lib.hid hB
        obtain ⟨c2, c3⟩ := hR.cells
        clear hR hB
        by_cases hlt : m < drives
        · have hba := ext_alloc wy (.cells #[.pointer none, .int .i64 (-1), .int .i64 0] 127)
          have HR1 := Lib.hid (HR.out.ext hba)
          have HB1 := Lib.hid (HB.out.trans (hba.mono (by have := HB.out.size; have := HW.out; omega)))
          have HS1 : W ≤ (wy.alloc (.cells #[.pointer none, .int .i64 (-1), .int .i64 0] 127)).heap.size := by have := HB1.out.size; have := HW.out; omega
          have HO := Lib.hid HR1.out.rowB
          have hsrc : Src (wy.alloc (.cells #[.pointer none, .int .i64 (-1), .int .i64 0] 127)) (some ⟨wy.heap.size, 0, none⟩) bv0.cells := src_new wy _ _
          clear hba
          go_wp2_with (refine wpList_appm rfl (.tmp 63) (.tmp 65) 123 rfl W 127 i1 (.agg #[.pointer none, .int .i64 0, .int .i64 0]) 3 24 Try.underlying123 hj hy0 hy1 hy2 rfl (by decide) aB m cB (flt BayV.cells (List.replicate m bv0)) rfl HO.out (some ⟨wy.heap.size, 0, none⟩) 1 1 bv0.cells rfl rfl hsrc (BayV.one _) (by unfold maxLen; omega) (by omega) HS1 ?_; intro a4 c4 w4 hA4; obtain ⟨hR5, ⟨v5, c5⟩, f5, hb5⟩ := HR1.out.appB hA4; have HR5 := Lib.hid hR5; have HB5 := Lib.hid (HB1.out.trans hb5); clear hR5 hb5 hA4 hsrc HO HS1)
          go_roundw
          case rel => exact ⟨m + 1, a4, c4, _, rfl, by omega, by go_num, HR5.out, HB5.out⟩
          case measure => simp [intOf]; omega
        · obtain rfl : m = drives := by omega
          clear c2 c3
          go_wp2
          go_ret2
          have hb := HB.out
          rw [HW.out] at hb
          exact ⟨r, rfl, HR.out.done (by rw [HW.out]; exact HU.out.le) (fun b hb => HU.out.up b (by rw [← HW.out]; exact hb)) D (HP.out.ext hb) hv hs hd, hb⟩
end Go.Proofs.Ytnbpcdnpdcfiiaa
