/- cellarerlaw10.wakes. -/
import Derived.Test.YtogcejmnhiphgaaStoreLaw
import Derived.Laws.IdiomStrings
import Derived.Lib.SlBytesConst
namespace Go.Proofs.Ytogcejmnhiphgaa
open Go.RowKit

set_option maxRecDepth 100000 in
set_option maxHeartbeats 4000000 in
theorem wakes10_any (w : World) :
    Calls Try.prog 31 #[] w fun e w' => e = .returned (.bool true) ∧ Below w.heap.size w w' := by
  have kc := fun (w : World) (C : Array Value) (n c : Nat) => Lib.run_convert_bytes_const (P := Try.prog) w 34 5 C n c Try.underlying34 Try.underlying5
  go_enter Try.func31, Try.ntmps31
  go_wp2_with fail
  refine (power_new w).mono ?_
  rintro e w1 ⟨pg, rfl, hp, hb1⟩
  go_wp2_with fail
  refine (disk_new pg PS.new 300 w.heap.size w1 hp (by decide) (by decide)).mono ?_
  rintro e w2 ⟨g, rfl, hd, hb2⟩
  have hb02 := bthen hb1 hb2 (Nat.le_refl _)
  have HD2 := Lib.hid ((new_dws hp hb1 hd hb2).mono (K' := fun _ => True) (m' := 0) (fun _ _ _ => trivial) (Nat.le_refl _))
  have HB2 := Lib.hid hb02
  clear hd hp hb1 hb2 hb02
  go_wp2_with fail
  refine (sopen_good HD2.out (by decide) (by decide) (by decide) rfl rfl (good_new 300)).mono ?_
  rintro e w3 ⟨gs, rfl, hs3, hd3, hm3⟩
  have hb03 := HB2.out.trans (hm3.below (fun b T h => h.1) HB2.out.size)
  have hba := ext_alloc w3 (.cells #[.int .u8 120] 5 (1, 2))
  have HD3 := Lib.hid (hd3.ext hba)
  have HS3 := Lib.hid (hs3.ext hba)
  have HX3 : Hid (SrcS w.heap.size (w3.alloc (.cells #[.int .u8 120] 5 (1, 2))) (some ⟨w3.heap.size, 0, none⟩) (bvs [120#8])) := Lib.hid (SrcS.new w3 _ _)
  have HB3 := Lib.hid (bthen hb03 hba (Nat.le_refl _))
  have hws : w.heap.size ≤ w2.heap.size := HB2.out.size
  clear hs3 hd3 hm3 hb03 hba HD2 HB2
  go_wp2_with fail
  refine (ssave_good HD3.out HS3.out (by decide) (by decide) (by decide) rfl rfl rfl (good_new 300) (by decide) (some ⟨w3.heap.size, 0, none⟩) 1 1 [120#8] HX3.out rfl (by decide) (by decide)).mono ?_
  rintro e w4 ⟨d4, rfl, hd4, hl4, hG4, _, _, _, _, hm4⟩
  have hgs : w.heap.size ≤ gs := Nat.le_trans hws HS3.out.base
  have HB4 := Lib.hid (HB3.out.trans (hm4.below (SvF.base hgs) HB3.out.size))
  have HD4 := Lib.hid (hd4.mono (K' := fun _ => True) (m' := 0) (fun _ _ _ => trivial) (Nat.le_refl _))
  have HG4 := Lib.hid hG4
  have HL4 := Lib.hid hl4
  clear hd4 hl4 hG4 hm4 HD3 HS3 HX3 HB3
  go_wp2_with fail
  refine (sopen_good HD4.out (by decide) (by decide) (by decide) rfl HL4.out HG4.out).mono ?_
  rintro e w5 ⟨gs5, rfl, hs5, hd5, hm5⟩
  have HB5 := Lib.hid (HB4.out.trans (hm5.below (fun b T h => h.1) HB4.out.size))
  have HS5 := Lib.hid hs5
  clear hs5 hd5 hm5 HD4 HB4 HG4 HL4
  go_wp2_with fail
  refine (sstate_any HS5.out (L := 1) rfl).mono ?_
  rintro e w6 ⟨a6, c6, rfl, ho6, hb6⟩
  have HS6 := Lib.hid (HS5.out.ext hb6)
  have HB6 := Lib.hid (bthen HB5.out hb6 (Nat.le_refl _))
  obtain ⟨x6, rfl, _, _, hat, _⟩ := ho6.at (i := 0) (by decide)
  have r0 : w6.cell? ⟨x6, 0, none⟩ = some (.int .u8 120) := hat 0 (by decide)
  have kb : (convert 34 9 (.slice (some ⟨x6, 0, none⟩) 1 c6)).run Try.prog w6 = .ok (.string ⟨#[120]⟩) w6 := run_convert_bytes_back (P := Try.prog) w6 34 9 5 ⟨x6, 0, none⟩ c6 [120] Try.underlying34 Try.underlying5 Try.underlying9 (fun j hj => by
    obtain rfl : j = 0 := by simpa using hj
    exact r0)
  clear hat ho6 hb6 HS5 HB5 r0
  go_wp2_with fail
  refine (scount_any HS6.out).mono ?_
  rintro e w7 ⟨rfl, rfl⟩
  go_wp2
  go_ret
  exact ⟨rfl, HB6.out⟩
end Go.Proofs.Ytogcejmnhiphgaa
