/- The law LabelSpoilt, walked. -/
import Derived.Test.YthhgngknmjocpaaLabelWakes
import Derived.Test.YthhgngknmjocpaaFlip
namespace Go.Proofs.Ythhgngknmjocpaa
open Go.RowKit

/-- Turned bits make a label's bytes none. -/
theorem labR_flip {v p e : Int} (q : Nat) (m : BitVec 32) (k : Nat) (hk : k ≤ 32) (hp : q + k ≤ 112) (hne : flipTo (lbytes v p e) q m k ≠ lbytes v p e) : labR (flipTo (lbytes v p e) q m k) = (0, 0, 0, 13) := by
  rcases labR_err (flipTo (lbytes v p e) q m k) with ⟨_, _, h⟩ | h
  · exfalso
    generalize (labR (flipTo (lbytes v p e) q m k)).1 = v' at h
    generalize (labR (flipTo (lbytes v p e) q m k)).2.1 = p' at h
    generalize (labR (flipTo (lbytes v p e) q m k)).2.2.1 = e' at h
    have h1 : crc (lbytes v p e) = 0x2144df1c#32 := crc_residue _
    have h2 : crc (flipTo (lbytes v p e) q m k) = 0x2144df1c#32 := by rw [← h]; exact crc_residue _
    exact hne ((flip_crc _ q m k hk (by rw [lbytes_length]; omega)).1 (h1.trans h2.symm)).symm
  · exact h

set_option maxRecDepth 100000 in
set_option maxHeartbeats 2000000 in
theorem labelSpoilt_walk (w : World) (v p e : Int) (at_ : Int) (hat : (Lit.int .i64 at_).wf = true) (mm : Int) (hmm : (Lit.int .u32 mm).wf = true) (cut : Int) (hcut : (Lit.int .i64 cut).wf = true) :
    Calls Try.prog 8 #[.agg #[.int .i64 v, .int .i64 p, .int .i64 e], .int .i64 at_, .int .u32 mm, .int .i64 cut] w fun r w' => r = .returned (.bool true) ∧ Below w.heap.size w w' := by
  obtain ⟨m, rfl⟩ : ∃ m : BitVec 32, mm = (m.toNat : Int) := by
    have hx : 0 ≤ mm ∧ mm ≤ 4294967295 := by simpa [Lit.wf, IntKind.min, IntKind.max, IntKind.signed, IntKind.bits] using hmm
    refine ⟨BitVec.ofInt 32 mm, ?_⟩
    rw [BitVec.toNat_ofInt]; omega
  clear hmm hat hcut
  have hb1 := ext_alloc w (.cells #[.int .i64 v, .int .i64 p, .int .i64 e] 37)
  have hl1 := LabAt.new w v p e
  obtain ⟨k0, k1, k2⟩ := hl1.cells
  cases hok : okL v p e with
  | false =>
    have HB := Lib.hid fun w => labbytes_no v p e w hok
    clear hok
    unfold labV at *
    go_enter Try.func8, Try.ntmps8
    go_wp2_with fail
    refine (HB.out _).mono ?_
    rintro r w2 ⟨rfl, hb2⟩
    have hb12 := bthen hb1 hb2 (Nat.le_refl _)
    go_wp2_with fail
    refine (wakes14_any _).mono ?_
    rintro r w5 ⟨rfl, hb5⟩
    go_wp2
    go_ret
    exact ⟨rfl, bthen hb12 hb5 (Nat.le_refl _)⟩
  | true =>
    have HB := Lib.hid fun w => labbytes_at v p e 0 _ 14 w (labB_ok hok) (lbytes_length _ _ _) (labE_ok hok)
    have HR := Lib.hid (labR_lbytes hok)
    have HX := Lib.hid fun q k => labR_flip (v := v) (p := p) (e := e) q m k
    have HK := Lib.hid fun w => keeplabel_at v p e v p e true w (by simp)
    have HLn : Hid ((lbytes v p e).length = 14) := Lib.hid (lbytes_length _ _ _)
    clear hok
    generalize lbytes v p e = l at *
    unfold labV at *
    by_cases hm0 : m.toNat = 0
    · have hm0' : (((m.toNat : Nat) : Int) == 0) = true := by rw [hm0]; rfl
      clear hm0
      go_enter Try.func8, Try.ntmps8
      go_wp2_with fail
      refine (HB.out _).mono ?_
      rintro r w2 ⟨a2, c2, rfl, ho2, hb2⟩
      have hb12 := bthen hb1 hb2 (Nat.le_refl _)
      clear ho2
      go_wp2_with fail
      refine (wakes14_any _).mono ?_
      rintro r w5 ⟨rfl, hb5⟩
      go_wp2
      go_ret
      exact ⟨rfl, bthen hb12 hb5 (Nat.le_refl _)⟩
    · have hm0' : (((m.toNat : Nat) : Int) == 0) = false := by simp; omega
      clear hm0
      obtain ⟨kc, hkc, ekc⟩ := umod cut 14 (by omega) (by omega)
      obtain ⟨q, hq, eq⟩ := umod at_ 112 (by omega) (by omega)
      have Eq := Lib.hid eq
      clear eq
      go_enter Try.func8, Try.ntmps8
      have hsz1 := World.size_alloc w (.cells #[.int .i64 v, .int .i64 p, .int .i64 e] 37)
      go_wp2_with fail
      generalize w.alloc (.cells #[.int .i64 v, .int .i64 p, .int .i64 e] 37) = w1 at *
      refine (HB.out _).mono ?_
      rintro r w2 ⟨a2, c2, rfl, ho2, hb2⟩
      have hs2 := ho2.src
      have hlc := ho2.len.1
      have ho2 := Lib.hid ho2
      have hlc' : (kc : Int) ≤ (c2 : Int) := by omega
      go_wp2_with fail
      refine (labread_at a2 kc c2 (l.take kc) 0 0 0 13 w2 (by rw [bvs_take]; exact hs2.take kc) (by have := HLn.out; simp; omega) (by omega) (by omega) (labR_len (by have := HLn.out; simp; omega))).mono ?_
      rintro r w3 ⟨rfl, hb3⟩
      have ho3 := ho2.out.ext hb3
      have hb13 := bthen hb2 hb3 (Nat.le_refl _)
      clear ho2 hs2 hb2 hb3 k0 k1 k2 ekc hkc
      go_wp2_with fail
      rw [Eq.out]
      clear Eq
      go_loopw [11, 12] (fun t i wr => ∃ k, k ≤ 32 ∧ q + k ≤ 112 ∧ i = .int .i64 (k : Nat) ∧ t = .bool (decide (flipTo l q m k ≠ l)) ∧ Own wr w1.heap.size 5 1 a2 14 c2 (bvs (flipTo l q m k)) ∧ Below w1.heap.size w1 wr) (fun _ i _ => 32 - (intOf i).toNat)
      case atStart => exact ⟨0, by omega, by omega, rfl, by simp [flipTo], ho3, hb13⟩
      case round =>
        rename_i wr
        obtain ⟨k, hk, hpk, rfl, rfl, hown, hbr⟩ := hrel
        by_cases hgo : k < 32 ∧ q + k < 112
        · obtain ⟨hlt, hlt2⟩ := hgo
          have ht := test_bit m k
          have hll := HLn.out
          cases hbit : m.getLsbD k with
          | true =>
            rw [hbit] at ht
            have Hf : Hid (flipTo l q m (k + 1) = flipBit (flipTo l q m k) (q + k)) := Lib.hid (by rw [flipTo, if_pos hbit])
            have Hd : Hid (decide (flipTo l q m (k + 1) ≠ l) = true) := Lib.hid (by
              rw [decide_eq_true_iff]
              intro h
              have := (flip_same l q m (k + 1) (by omega)).1 h.symm k (by omega)
              rw [hbit] at this; cases this)
            clear hbit
            have hi8 : (q + k) / 8 < 14 := by omega
            obtain ⟨g, rfl, hg1, hg2, hgc, hgf⟩ := hown.at hi8
            have hcell := hgc ((q + k) / 8) (by rw [bvs_length, flipTo_length]; omega)
            have hfz := hgf ((q + k) / 8)
            rw [bvs_get] at hcell
            clear hgc hgf
            have hset := hown.set ((q + k) / 8) (.int .u8 (((flipTo l q m k)[(q + k) / 8]'(by rw [flipTo_length]; omega) ^^^ (1#8 <<< ((q + k) % 8)) : Byte).toNat : Int)) hi8
            rw [bvs_set] at hset
            have e2 : (flipTo l q m k).set ((q + k) / 8) ((flipTo l q m k)[(q + k) / 8]'(by rw [flipTo_length]; omega) ^^^ (1#8 <<< ((q + k) % 8))) = flipTo l q m (k + 1) := by
              rw [Hf.out, flipBit]
              simp [flipTo_length, show (q + k) / 8 < l.length by omega]
            rw [e2] at hset
            clear e2
            have Hset := Lib.hid hset
            have hv := flip_val' ((flipTo l q m k)[(q + k) / 8]'(by rw [flipTo_length]; omega)) ((q + k) % 8) (Nat.mod_lt _ (by omega))
            generalize (flipTo l q m k)[(q + k) / 8]'(by rw [flipTo_length]; omega) = x at hcell hv Hset
            generalize x ^^^ (1#8 <<< ((q + k) % 8)) = y at hv Hset
            clear hset hown hll
            generalize decide (flipTo l q m k ≠ l) = tb
            go_wp2_with fail
            go_roundw
            case rel => exact ⟨k + 1, by omega, by omega, by go_num, by rw [Hd.out], Hset.out, hbr.setCell hg1 _⟩
            case measure => simp [intOf]; omega
          | false =>
            rw [hbit] at ht
            have Hf : Hid (flipTo l q m (k + 1) = flipTo l q m k) := Lib.hid (by rw [flipTo, if_neg (by rw [hbit]; simp)])
            clear hbit hll
            obtain ⟨tb, htb⟩ : ∃ tb, decide (flipTo l q m k ≠ l) = tb := ⟨_, rfl⟩
            rw [htb]
            have Htb := Lib.hid htb
            clear htb
            go_wp2_with fail
            go_roundw
            case rel => exact ⟨k + 1, by omega, by omega, by go_num, by rw [Hf.out, Htb.out], by rw [Hf.out]; exact hown, hbr⟩
            case measure => simp [intOf]; omega
        · have hcase : ¬ k < 32 ∨ (k < 32 ∧ ¬ q + k < 112) := by omega
          have hs4 := hown.src
          have hl4 : LabAt wr w.heap.size v p e := (hbr.block w.heap.size (by omega)).trans hl1
          have hb04 := bthen hb1 (hbr.mono (by omega)) (Nat.le_refl _)
          have hfl := flipTo_length l q m k
          have hx := HX.out q k hk hpk
          have hll := HLn.out
          have HLk : Hid ((flipTo l q m k).length = 14) := Lib.hid (by omega)
          clear hown hgo ho3 hb13 hbr hl1 hb1 hfl hll
          by_cases hne : flipTo l q m k = l
          · have hdec : decide (flipTo l q m k ≠ l) = false := by simp [hne]
            rw [hdec]
            have hR' := HR.out
            rw [← hne] at hR'
            generalize flipTo l q m k = c at *
            have HRc := Lib.hid hR'
            clear hne hdec hR' hx
            rcases hcase with hA | ⟨hA, hB⟩
            all_goals
              go_wp2_with fail
              refine (labread_at a2 14 c2 c v p e 0 wr hs4 HLk.out.symm (by omega) hlc HRc.out).mono ?_
              rintro r w5 ⟨rfl, hb5⟩
              unfold labV
              have hl5 := hl4.ext hb5
              have hb05 := bthen hb04 hb5 (Nat.le_refl _)
              have hput := LabAt.put w5 v p e
              have hbp := below_put w5 v p e
              have hl6 := hl5.ext hbp
              have hb06 := bthen hb05 hbp (Nat.le_refl _)
              clear hl5 hb05 hbp
              obtain ⟨k0, k1, k2⟩ := hl6.cells
              obtain ⟨m0, m1, m2⟩ := hput.cells
              go_wp2_with (refine wpList_store_row rfl rfl 37 (.tmp 13) (.tmp 88) rfl w5.heap.size rfl 37 #[.int .i64 0, .int .i64 0, .int .i64 0] #[.int .i64 v, .int .i64 p, .int .i64 e] rfl (heap_alloc_new w5 _) rfl (by kernel_rfl) (by simp [Value.oneCell']) ?_)
              refine (HK.out _).mono ?_
              rintro r w7 ⟨rfl, hb7⟩
              have hb07 := bthen hb06 hb7 (Nat.le_refl _)
              clear k0 k1 k2 m0 m1 m2 hl6 hput hb06 hb7
              go_wp2_with fail
              refine (wakes14_any _).mono ?_
              rintro r w8 ⟨rfl, hb8⟩
              go_wp2
              go_ret
              exact ⟨rfl, bthen hb07 hb8 (Nat.le_refl _)⟩
          · have hdec : decide (flipTo l q m k ≠ l) = true := by simp [hne]
            rw [hdec]
            have hR' := hx hne
            generalize flipTo l q m k = c at *
            have HRc := Lib.hid hR'
            clear hne hdec hR' hx
            rcases hcase with hA | ⟨hA, hB⟩
            all_goals
              go_wp2_with fail
              refine (labread_at a2 14 c2 c 0 0 0 13 wr hs4 HLk.out.symm (by omega) hlc HRc.out).mono ?_
              rintro r w5 ⟨rfl, hb5⟩
              unfold labV
              have hb05 := bthen hb04 hb5 (Nat.le_refl _)
              have hb06 := bthen hb05 (below_put w5 0 0 0) (Nat.le_refl _)
              clear hb05 hb5
              go_wp2_with (refine wpList_store_row rfl rfl 37 (.tmp 13) (.tmp 88) rfl w5.heap.size rfl 37 #[.int .i64 0, .int .i64 0, .int .i64 0] #[.int .i64 0, .int .i64 0, .int .i64 0] rfl (heap_alloc_new w5 _) rfl (by kernel_rfl) (by simp [Value.oneCell']) ?_)
              refine (wakes14_any _).mono ?_
              rintro r w8 ⟨rfl, hb8⟩
              go_wp2
              go_ret
              exact ⟨rfl, bthen hb06 hb8 (Nat.le_refl _)⟩
end Go.Proofs.Ythhgngknmjocpaa
