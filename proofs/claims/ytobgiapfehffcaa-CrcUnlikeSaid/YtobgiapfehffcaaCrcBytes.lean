/- The law CrcBytes, walked. -/
import Derived.Test.YtobgiapfehffcaaCrcRef
namespace Go.Proofs.Ytobgiapfehffcaa
open Go.RowKit

theorem crc_nil : crc [] = 0#32 := by decide +kernel

theorem or4 (z : BitVec 32) (b0 b1 b2 b3 : Byte) (h : crcBytesOf z = [b0, b1, b2, b3]) :
    bits .or .u32 (bits .or .u32 (bits .or .u32 (b0.toNat : Int) ((b1.toNat : Int) * 256)) ((b2.toNat : Int) * 65536)) ((b3.toNat : Int) * 16777216) = (z.toNat : Int) := by
  simp only [crcBytesOf, List.cons.injEq, and_true] at h
  obtain ⟨h0, h1, h2, h3⟩ := h
  have e0 : b0.toNat = z.toNat % 256 := by rw [← h0, BitVec.toNat_setWidth]
  have e1 : b1.toNat = z.toNat / 256 % 256 := by rw [← h1, BitVec.toNat_setWidth, BitVec.toNat_ushiftRight, Nat.shiftRight_eq_div_pow]
  have e2 : b2.toNat = z.toNat / 65536 % 256 := by rw [← h2, BitVec.toNat_setWidth, BitVec.toNat_ushiftRight, Nat.shiftRight_eq_div_pow]
  have e3 : b3.toNat = z.toNat / 16777216 % 256 := by rw [← h3, BitVec.toNat_setWidth, BitVec.toNat_ushiftRight, Nat.shiftRight_eq_div_pow]
  have hz := z.isLt
  generalize z.toNat = n at *
  rw [e0, e1, e2, e3]
  have c1 : ((n / 256 % 256 : Nat) : Int) * 256 = ((n / 256 % 256 * 256 : Nat) : Int) := by omega
  have c2 : ((n / 65536 % 256 : Nat) : Int) * 65536 = ((n / 65536 % 256 * 65536 : Nat) : Int) := by omega
  have c3 : ((n / 16777216 % 256 : Nat) : Int) * 16777216 = ((n / 16777216 % 256 * 16777216 : Nat) : Int) := by omega
  rw [c1, c2, c3, u32_or_nat _ _ (by omega) (by omega), Nat.or_comm, nat_join 8 _ _ (by omega) (by omega),
    u32_or_nat _ _ (by omega) (by omega), Nat.or_comm, nat_join 16 _ _ (by omega) (by omega),
    u32_or_nat _ _ (by omega) (by omega), Nat.or_comm, nat_join 24 _ _ (by omega) (by omega)]
  omega

set_option maxRecDepth 100000 in
set_option maxHeartbeats 1000000 in
theorem crcBytes_walk (w : World) (a : Option Addr) (c : Nat) (ps : List Bsl) (hm : Mat w a ps) (hn : ps.length ≤ 9223372036854775807) :
    Calls Try.prog 7 #[.slice a ps.length c] w fun e w' => e = .returned (.bool true) ∧ Below w.heap.size w w' := by
  cases hh : heavyB ps with
  | true =>
    have Hh := Lib.hid hh
    clear hh
    go_enter Try.func7, Try.ntmps7
    go_wp2_with fail
    refine (heavy_any a c ps w hm hn).mono ?_
    rintro e w' ⟨rfl, rfl⟩
    rw [Hh.out]
    go_wp2
    go_ret
    exact ⟨rfl, Below.refl _ _⟩
  | false =>
    have Hh := Lib.hid hh
    clear hh
    go_enter Try.func7, Try.ntmps7
    go_wp2_with fail
    refine (heavy_any a c ps w hm hn).mono ?_
    rintro e w' ⟨rfl, rfl⟩
    rw [Hh.out]
    go_wp2_with fail
    refine (sum_any a c ps w hm hn).mono ?_
    rintro e w1 ⟨rfl, hb1⟩
    have hm1 := hm.ext hb1
    go_wp2_with fail
    refine (crcbytes_any a c ps w1 hm1 hn).mono ?_
    rintro e w2 ⟨rfl, hb2⟩
    generalize crc (flat ps) = z
    have hrow := setRow_heap (w2.alloc (.cells #[.int .u8 0, .int .u8 0, .int .u8 0, .int .u8 0] 35)) w2.heap.size _ (bvs (crcBytesOf z)).toArray _ _ (heap_alloc_new w2 _)
    have hb3 := bthen (bthen hb1 hb2 (Nat.le_refl _)) (bsetRow (ext_alloc w2 (.cells #[.int .u8 0, .int .u8 0, .int .u8 0, .int .u8 0] 35)) (Nat.le_refl _) (bvs (crcBytesOf z)).toArray) (Nat.le_refl _)
    have hc0 := cell_of_row _ _ 0 _ _ _ hrow
    have hc1 := cell_of_row _ _ 1 _ _ _ hrow
    have hc2 := cell_of_row _ _ 2 _ _ _ hrow
    have hc3 := cell_of_row _ _ 3 _ _ _ hrow
    have hx : ∃ b0 b1 b2 b3 : Byte, crcBytesOf z = [b0, b1, b2, b3] ∧ True := ⟨_, _, _, _, rfl, trivial⟩
    obtain ⟨b0, b1, b2, b3, hx, _⟩ := hx
    have Hx := Lib.hid hx
    have hor := or4 z b0 b1 b2 b3 hx
    rw [hx] at hc0 hc1 hc2 hc3 hb3
    clear hx hrow
    simp only [bvs, u8v, List.map_cons, List.map_nil] at hc0 hc1 hc2 hc3
    go_wp2_with (refine wpList_store_row rfl rfl 35 (.tmp 4) (.tmp 11) rfl w2.heap.size rfl 35 #[.int .u8 0, .int .u8 0, .int .u8 0, .int .u8 0] (bvs (crcBytesOf z)).toArray rfl (heap_alloc_new w2 _) rfl (by kernel_rfl) (by simpa using bvs_one (crcBytesOf z)) ?_; rw [Hx.out]; simp only [bvs, u8v, List.map_cons, List.map_nil])
    clear hor hc0 hc1 hc2 hc3
    rw [show (bvs [b0, b1, b2, b3]) = [u8v b0, u8v b1, u8v b2, u8v b3] from rfl] at hb3
    simp only [u8v] at hb3
    generalize World.setRow _ _ _ = w3 at hb3 ⊢
    refine (sum_at none 0 [] w3 0 0#32 ⟨Src.nil _ _, by simp⟩ rfl (by omega) (by decide +kernel)).mono ?_
    rintro e w4 ⟨rfl, hb4⟩
    have hb5 := bthen hb3 hb4 (Nat.le_refl _)
    go_wp2_with fail
    refine (sum_at _ _ [⟨none, 0, []⟩, ⟨none, 0, []⟩] _ 2 0#32 (mat_new' rfl rfl (by simp [Bsl.ok, bvs, Src.nil])) rfl (by omega) (by decide +kernel)).mono ?_
    rintro e w5 ⟨rfl, hb6⟩
    have hb7 := bthen (hb5.alloc hb5.size _) hb6 (Nat.le_refl _)
    go_wp2_with fail
    refine (wakes_any w5).mono ?_
    rintro e w6 ⟨rfl, hb8⟩
    have hb9 := bthen hb7 hb8 (Nat.le_refl _)
    go_wp2
    go_ret
    exact ⟨rfl, hb9⟩
end Go.Proofs.Ytobgiapfehffcaa
