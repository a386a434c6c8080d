/- crc.Bytes. -/
import Derived.Test.YtogcejmnhiphgaaCrcSum
import Derived.Test.YtogcejmnhiphgaaKeep
namespace Go.Proofs.Ytogcejmnhiphgaa
open Go.RowKit

theorem crcBytes_cells (z : BitVec 32) : #[Value.int IntKind.u8 ((z.toNat : Int) % 256), Value.int IntKind.u8 ((z.toNat : Int) / 256 % 256), Value.int IntKind.u8 ((z.toNat : Int) / 65536 % 256), Value.int IntKind.u8 ((z.toNat : Int) / 16777216)] = (bvs (crcBytesOf z)).toArray := by
  have h := z.isLt
  simp only [crcBytesOf, bvs, u8v, List.map_cons, List.map_nil, BitVec.toNat_setWidth, BitVec.toNat_ushiftRight, Nat.shiftRight_eq_div_pow]
  congr 1
  simp
  omega

set_option maxRecDepth 100000 in
set_option maxHeartbeats 1000000 in
theorem crcbytes_any (a : Option Addr) (c : Nat) (ps : List Bsl) (w : World) (hm : Mat w a ps) (hn : ps.length ≤ 9223372036854775807) :
    Calls Try.prog 52 #[.slice a ps.length c] w fun e w' => e = .returned (.agg (bvs (crcBytesOf (crc (flat ps)))).toArray) ∧ Below w.heap.size w w' := by
  go_enter Try.func52, Try.ntmps52
  go_wp2_with fail
  have hg0 := heap_alloc_new w (.cells #[.int .u8 0, .int .u8 0, .int .u8 0, .int .u8 0] 92)
  refine (sum_any a c ps _ (hm.ext (ext_alloc w _)) hn).mono ?_
  rintro e w1 ⟨rfl, hb1⟩
  generalize hz : crc (flat ps) = z
  have Hz := Lib.hid hz
  clear hz
  have hg := (hb1.block w.heap.size (by simp)).trans hg0
  go_wp2_with (refine wpList_store_row rfl rfl 92 (.tmp 2) (.tmp 17) rfl w.heap.size rfl 92 #[.int .u8 0, .int .u8 0, .int .u8 0, .int .u8 0] #[Value.int IntKind.u8 ((z.toNat : Int) % 256), Value.int IntKind.u8 ((z.toNat : Int) / 256 % 256), Value.int IntKind.u8 ((z.toNat : Int) / 65536 % 256), Value.int IntKind.u8 ((z.toNat : Int) / 16777216)] rfl hg rfl (by kernel_rfl) (by simp [Value.oneCell']) ?_)
  rw [crcBytes_cells]
  exact bodyPost_ret (v := .agg _) (results_cell_row (p := 2) rfl _ _ w.heap.size _ (bvs (crcBytesOf z)).toArray _ _ rfl (setRow_heap w1 w.heap.size _ _ _ _ hg) Try.underlying92 rfl (by kernel_rfl)) rfl
    ⟨by rw [Hz.out], bsetRow ((ext_alloc w _).trans (hb1.mono (by simp))) (Nat.le_refl _) _⟩

theorem crcbytes_at (a : Option Addr) (c : Nat) (ps : List Bsl) (w : World) (n : Nat) (r : BitVec 32) (hm : Mat w a ps) (hn : n = ps.length) (hl : n ≤ 9223372036854775807) (hr : crc (flat ps) = r) :
    Calls Try.prog 52 #[.slice a n c] w fun e w' => e = .returned (.agg (bvs (crcBytesOf r)).toArray) ∧ Below w.heap.size w w' := by
  subst hn; subst hr; exact crcbytes_any a c ps w hm hl
end Go.Proofs.Ytogcejmnhiphgaa
