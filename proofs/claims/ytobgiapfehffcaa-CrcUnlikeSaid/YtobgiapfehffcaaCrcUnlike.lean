/- The law CrcUnlike, walked. -/
import Derived.Test.YtobgiapfehffcaaCrcBytes
import Derived.Test.YtobgiapfehffcaaFlip
namespace Go.Proofs.Ytobgiapfehffcaa
open Go.RowKit

set_option maxRecDepth 100000 in
set_option maxHeartbeats 1000000 in
theorem crcUnlike_walk (w : World) (a0 : Option Addr) (c0 : Nat) (l : List Byte) (ha : Src w a0 (bvs l)) (hl : l.length ≤ 9223372036854775807) (k0 : l.length ≤ c0) (at_ : Int) (hat : (Lit.int .i64 at_).wf = true) (mm : Int) (hmm : (Lit.int .u32 mm).wf = true) :
    Calls Try.prog 3 #[.slice a0 l.length c0, .int .i64 at_, .int .u32 mm] w fun e w' => e = .returned (.bool true) ∧ Below w.heap.size w w' := by
  obtain ⟨m, rfl⟩ : ∃ m : BitVec 32, mm = (m.toNat : Int) := by
    have hx : 0 ≤ mm ∧ mm ≤ 4294967295 := by simpa [Lit.wf, IntKind.min, IntKind.max, IntKind.signed, IntKind.bits] using hmm
    refine ⟨BitVec.ofInt 32 mm, ?_⟩
    rw [BitVec.toNat_ofInt]; omega
  clear hmm hat
  by_cases h1 : 1 ≤ l.length
  · by_cases h2 : l.length ≤ 300
    · obtain ⟨p, hp, ep⟩ := umod at_ (8 * (l.length : Int)) (by omega) (by omega)
      go_enter Try.func3, Try.ntmps3
      go_wp2_with fail
      refine (twin_any a0 c0 l w ha (by omega)).mono ?_
      rintro e w1 ⟨a1, c1, rfl, hown1, hb1⟩
      go_wp2_with fail
      rw [ep]
      clear ep
      go_loopw [8] (fun i wr => ∃ k, k ≤ 32 ∧ p + k ≤ 8 * l.length ∧ i = .int .i64 (k : Nat) ∧ Own wr w.heap.size 5 1 a1 l.length c1 (bvs (flipTo l p m k)) ∧ Below w.heap.size w wr) (fun i _ => 32 - (intOf i).toNat)
      case atStart => exact ⟨0, by omega, by omega, rfl, hown1, hb1⟩
      case round =>
        rename_i wr
        obtain ⟨k, hk, hpk, rfl, hown, hbr⟩ := hrel
        by_cases hgo : k < 32 ∧ p + k < 8 * l.length
        · obtain ⟨hlt, hlt2⟩ := hgo
          · have ht := test_bit m k
            cases hbit : m.getLsbD k with
            | true =>
              rw [hbit] at ht
              have Hf : Hid (flipTo l p m (k + 1) = flipBit (flipTo l p m k) (p + k)) := Lib.hid (by rw [flipTo, if_pos hbit])
              clear hbit
              have hi8 : (p + k) / 8 < l.length := by omega
              obtain ⟨g, rfl, hg1, hg2, hgc, hgf⟩ := hown.at hi8
              have hcell := hgc ((p + k) / 8) (by rw [bvs_length, flipTo_length]; exact hi8)
              have hfz := hgf ((p + k) / 8)
              rw [bvs_get] at hcell
              clear hgc hgf
              have hset := hown.set ((p + k) / 8) (.int .u8 (((flipTo l p m k)[(p + k) / 8]'(by rw [flipTo_length]; exact hi8) ^^^ (1#8 <<< ((p + k) % 8)) : Byte).toNat : Int)) hi8
              rw [bvs_set] at hset
              have e2 : (flipTo l p m k).set ((p + k) / 8) ((flipTo l p m k)[(p + k) / 8]'(by rw [flipTo_length]; exact hi8) ^^^ (1#8 <<< ((p + k) % 8))) = flipTo l p m (k + 1) := by
                rw [Hf.out, flipBit]
                simp [flipTo_length, hi8]
              rw [e2] at hset
              clear e2
              have Hset := Lib.hid hset
              have hv := flip_val' ((flipTo l p m k)[(p + k) / 8]'(by rw [flipTo_length]; exact hi8)) ((p + k) % 8) (Nat.mod_lt _ (by omega))
              generalize (flipTo l p m k)[(p + k) / 8]'(by rw [flipTo_length]; exact hi8) = x at hcell hv Hset
              generalize x ^^^ (1#8 <<< ((p + k) % 8)) = y at hv Hset
              clear hset hown
              go_wp2_with fail
              go_roundw
              case rel => exact ⟨k + 1, by omega, by omega, by go_num, Hset.out, hbr.setCell hg1 _⟩
              case measure => simp [intOf]; omega
            | false =>
              rw [hbit] at ht
              have Hf : Hid (flipTo l p m (k + 1) = flipTo l p m k) := Lib.hid (by rw [flipTo, if_neg (by rw [hbit]; simp)])
              clear hbit
              go_wp2_with fail
              go_roundw
              case rel => exact ⟨k + 1, by omega, by omega, by go_num, by rw [Hf.out]; exact hown, hbr⟩
              case measure => simp [intOf]; omega
        · have hcase : ¬ k < 32 ∨ (k < 32 ∧ ¬ p + k < 8 * l.length) := by omega
          have hsa := ha.ext hbr
          have hsb := hown.src
          have hlc := flipTo_length l p m k
          have hfl := flip_crc l p m k (by omega) hpk
          clear hown ha hgo
          generalize flipTo l p m k = c at *
          obtain ⟨z1, ez1⟩ : ∃ z, crc l = z := ⟨_, rfl⟩
          obtain ⟨z2, ez2⟩ : ∃ z, crc c = z := ⟨_, rfl⟩
          have Hlc := Lib.hid hlc
          have Ez1 := Lib.hid ez1
          have Ez2 := Lib.hid ez2
          have heq : (((z1.toNat : Nat) : Int) == ((z2.toNat : Nat) : Int)) = decide (l = c) := by
            rw [← ez1, ← ez2]
            by_cases h : l = c
            · subst h; simp
            · have h3 : crc l ≠ crc c := fun h4 => h (hfl.1 h4)
              have h4 : (crc l).toNat ≠ (crc c).toNat := fun h5 => h3 (BitVec.eq_of_toNat_eq h5)
              simp [h]; omega
          obtain ⟨bb, ebb⟩ : ∃ bb, decide (l = c) = bb := ⟨_, rfl⟩
          rw [ebb] at heq
          have Ebb := Lib.hid ebb
          clear hlc ez1 ez2 hfl ebb
          rcases hcase with hA | ⟨hA, hB⟩
          all_goals
            go_wp2_with fail
            refine (sum_at _ _ [⟨a0, c0, l⟩] _ 1 z1 (mat_one (w := wr) rfl ⟨hsa, by simp; omega⟩ rfl rfl rfl) rfl (by omega) (by rw [← Ez1.out]; simp [flat])).mono ?_
            rintro e w2 ⟨rfl, hb2⟩
            have hb3 := bthen (ext_alloc wr _) hb2 (by simp)
            have hsb3 := hsb.ext hb3
            go_wp2_with fail
            refine (sum_at _ _ [⟨a1, c1, c⟩] _ 1 z2 (mat_one (w := w2) rfl ⟨hsb3, by rw [Hlc.out]; omega⟩ rfl Hlc.out.symm rfl) rfl (by omega) (by rw [← Ez2.out]; simp [flat])).mono ?_
            rintro e w3 ⟨rfl, hb4⟩
            have hb5 := bthen (ext_alloc w2 _) hb4 (by simp)
            have hb6 := bthen hb3 hb5 (Nat.le_refl _)
            have hsa6 := hsa.ext hb6
            have hsb6 := hsb.ext hb6
            have hbr6 := bthen hbr hb6 (Nat.le_refl _)
            clear hb2 hb3 hb4 hb5 hb6 hsb3
            go_wp2_with fail
            refine (bytes_at a0 c0 l a1 c1 c w3 _ _ bb hsa6 hsb6 rfl Hlc.out.symm (by omega) (by omega) Ebb.out).mono ?_
            rintro e w4 ⟨rfl, nn, rfl⟩
            go_wp2_with fail
            refine (wakes_any _).mono ?_
            rintro e w5 ⟨rfl, hb7⟩
            have hb8 := bthen (below_drewN hbr6 nn) hb7 (Nat.le_refl _)
            go_wp2
            go_ret
            exact ⟨rfl, hb8⟩
    · go_enter Try.func3, Try.ntmps3
      go_wp2
      go_ret
      exact ⟨rfl, Below.refl _ _⟩
  · go_enter Try.func3, Try.ntmps3
    go_wp2
    go_ret
    exact ⟨rfl, Below.refl _ _⟩
end Go.Proofs.Ytobgiapfehffcaa
