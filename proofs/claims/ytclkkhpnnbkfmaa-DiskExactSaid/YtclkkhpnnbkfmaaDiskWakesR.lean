/- cellarerlaw09.wakes; a new power with a new disk. -/
import Derived.Test.YtclkkhpnnbkfmaaDiskLawR
namespace Go.Proofs.Ytclkkhpnnbkfmaa
open Go.RowKit
variable {R : Nat}

theorem fb_ne (b : Byte) : fb b 256 ≠ [] := by
  intro h
  have := congrArg List.length h
  rw [fb_length] at this
  cases this
theorem wakes_plain (l : List Byte) (hl : l.length = 256) : DS.read ⟨0, [Sec.nought, Sec.nought], [Sec.nought, ⟨l, false⟩], [(1, l)]⟩ ⟨false, 1, [true], -1, none⟩ 1 = (l, 0) := by
  have hne : l ≠ [] := by intro h; rw [h] at hl; simp at hl
  simp [DS.read, DS.wake, applyP, PS.kept, DS.get, DS.inB, Sec.bytes, hne]

set_option maxRecDepth 100000 in
set_option maxHeartbeats 2000000 in
theorem wakes09_any (w : World) :
    Calls Try.prog 57 #[] w fun e w' => e = .returned (.bool true) ∧ Below w.heap.size w w' := by
  go_enter Try.func57, Try.ntmps57
  go_wp2_with fail
  refine (power_new w).mono ?_
  rintro e w1 ⟨pg, rfl, hp', hb1⟩
  have hp := hp' 0
  clear hp'
  go_wp2_with fail
  refine (disk_new pg PS.new 2 w.heap.size w1 hp (by decide) (by decide)).mono ?_
  rintro e w2 ⟨g, rfl, hd, hb2⟩
  have hb02 := bthen hb1 hb2 (Nat.le_refl _)
  have HD2 : Hid (DW 0 (fun _ => False) w.heap.size w2 g pg 2 (DS.new 0 2) PS.new 0) := Lib.hid ⟨hd.base hb1.size, hp.ext hb2, DS.new_ok 0 2, by have := hb02.size; omega, Nat.le_refl _⟩
  clear hd hp hb1 hb2
  go_wp2_with fail
  have hF := fill_any 7#8 w2
  rw [show ((7#8 : Byte).toNat : Int) = 7 from rfl] at hF
  refine hF.mono ?_
  rintro e w3 ⟨a3, c3, rfl, ho3, hb3⟩
  clear hF
  have HD3 := Lib.hid (HD2.out.ext hb3)
  have Ho3 := Lib.hid ho3
  have hb03 := bthen hb02 hb3 (Nat.le_refl _)
  clear hb3 ho3
  go_wp2_with fail
  have HL := Lib.hid (fb_length 7#8 256)
  refine (HD3.out.write (by decide) (by decide) (by decide) 1 a3 c3 256 (fb 7#8 256) (fun w' hm => (Ho3.out.mod hm fun b _ _ => DF_no_u8 b).src) HL.out.symm (by decide) (E := 0) (d' := ⟨0, [Sec.nought, Sec.nought], [Sec.nought, ⟨fb 7#8 256, false⟩], [(1, fb 7#8 256)]⟩) (p' := PS.new)
    ((write_on (n := 2) (i := 1) (DS.new_ok 0 2) rfl rfl rfl (by decide) HL.out))).mono ?_
  rintro e w4 ⟨rfl, hd4, hm4⟩
  have hb04 := hb03.trans (hm4.below (fun b T h => h.1) hb03.size)
  have hb5 := ext_alloc w4 (.cells #[.bool true] 4)
  have hs5 := src_new w4 [.bool true] 4
  have HD5 := Lib.hid (hd4.ext hb5)
  have hb05 := bthen hb04 hb5 (Nat.le_refl _)
  clear hd4 hm4 hb03 hb04 hb5
  go_wp2_with fail
  generalize w4.alloc (.cells #[.bool true] 4) = w5 at *
  refine (HD5.out.cut _ 1 1 [true] (-1) hs5 rfl (by decide) (p' := ⟨true, 0, [true], -1, none⟩) rfl).mono ?_
  rintro e w6 ⟨rfl, hd6, hm6⟩
  have HD6 := Lib.hid hd6
  have hb06 := hb05.trans (hm6.below (fun b T h => h.1) hb05.size)
  clear hd6 hm6 hb05 hs5
  go_wp2_with fail
  refine (HD6.out.start (by decide) (by decide) (p' := ⟨false, 1, [true], -1, none⟩) rfl).mono ?_
  rintro e w7 ⟨rfl, hd7, hm7⟩
  have HD7 := Lib.hid hd7
  have hb07 := hb06.trans (hm7.below (fun b T h => h.1) hb06.size)
  clear hd7 hm7 hb06
  go_wp2_with fail
  refine (HD7.out.read (by decide) (by decide) (by decide) 1 (wakes_plain _ HL.out)).mono ?_
  rintro e w8 ⟨a8, c8, k8, rfl, hk8, ho8, hd8, hm8⟩
  have hb08 := hb07.trans (hm8.below (fun b T h => h.1) hb07.size)
  rw [HL.out] at hk8
  subst hk8
  obtain ⟨b, o, rfl, hlt, hat⟩ := src_bytes_at (l := fb 7#8 256) ho8.src (i := 9) (by rw [HL.out]; decide)
  have h9 := hat 9 (by rw [HL.out]; decide)
  have e9 : (fb 7#8 256)[9]'(by rw [HL.out]; decide) = 7#8 := by simp [fb]
  rw [e9, show ((7#8 : Byte).toNat : Int) = 7 from rfl] at h9
  clear hat e9 ho8 hd8 hm8
  go_wp2
  go_ret
  exact ⟨rfl, hb08⟩
/-- A new disk of n sectors, of a new power. -/
theorem new_dw {n : Nat} {w w1 w2 : World} {pg g : Nat} (hp : Pow R w.heap.size w1 pg PS.new) (hb1 : Below w.heap.size w w1) (hd : DiskAt (fun _ => False) w1.heap.size w2 g pg (DS.new PS.new.life n)) (hb2 : Below w1.heap.size w1 w2) (hR : R ≤ w2.heap.size) :
    DW R (fun _ => False) w.heap.size w2 g pg n (DS.new 0 n) PS.new 0 := ⟨hd.base hb1.size, hp.ext hb2, DS.new_ok 0 n, by have := (bthen hb1 hb2 (Nat.le_refl _)).size; omega, Nat.le_refl _⟩
end Go.Proofs.Ytclkkhpnnbkfmaa
