/- The law LabelExact, walked. -/
import Derived.Test.YthhgngknmjocpaaLabelRef2
import Derived.Test.YthhgngknmjocpaaLabelWakes
namespace Go.Proofs.Ythhgngknmjocpaa
open Go.RowKit

set_option maxRecDepth 100000 in
set_option maxHeartbeats 2000000 in
theorem labelExact_walk (w : World) (v p e : Int) :
    Calls Try.prog 6 #[.agg #[.int .i64 v, .int .i64 p, .int .i64 e]] w fun r w' => r = .returned (.bool true) ∧ Below w.heap.size w w' := by
  have hb1 := ext_alloc w (.cells #[.int .i64 v, .int .i64 p, .int .i64 e] 37)
  have hl1 := LabAt.new w v p e
  obtain ⟨k0, k1, k2⟩ := hl1.cells
  cases hok : okL v p e with
  | false =>
    have HB := Lib.hid fun w => labbytes_no v p e w hok
    have HL := Lib.hid fun w => reflabel_at v p e false w hok
    have HC := Lib.hid fun w => check_at v p e 1 w (labE_no hok)
    clear hok
    unfold labV at *
    go_enter Try.func6, Try.ntmps6
    go_wp2_with fail
    refine (HB.out _).mono ?_
    rintro r w2 ⟨rfl, hb2⟩
    have hl2 := hl1.ext hb2
    have hb12 := bthen hb1 hb2 (Nat.le_refl _)
    clear k0 k1 k2 hl1 hb1 hb2
    obtain ⟨k0, k1, k2⟩ := hl2.cells
    go_wp2_with fail
    refine (HL.out _).mono ?_
    rintro r w3 ⟨rfl, hb3⟩
    have hl3 := hl2.ext hb3
    have hb13 := bthen hb12 hb3 (Nat.le_refl _)
    clear k0 k1 k2 hl2 hb12 hb3
    obtain ⟨k0, k1, k2⟩ := hl3.cells
    go_wp2_with fail
    refine (HC.out _).mono ?_
    rintro r w4 ⟨rfl, hb4⟩
    have hb14 := bthen hb13 hb4 (Nat.le_refl _)
    clear k0 k1 k2 hl3 hb13 hb4
    go_wp2_with fail
    refine (wakes14_any _).mono ?_
    rintro r w5 ⟨rfl, hb5⟩
    go_wp2
    go_ret
    exact ⟨rfl, bthen hb14 hb5 (Nat.le_refl _)⟩
  | true =>
    have HB := Lib.hid fun w => labbytes_at v p e 0 _ 14 w (labB_ok hok) (lbytes_length _ _ _) (labE_ok hok)
    have HL := Lib.hid fun w => reflabel_at v p e true w hok
    have HC := Lib.hid fun w => check_at v p e 0 w (labE_ok hok)
    have HR := Lib.hid (labR_lbytes hok)
    have HRB := Lib.hid fun w => reflabbytes_at v p e _ w hok rfl
    have HK := Lib.hid fun w => keeplabel_at v p e v p e true w (by simp)
    have HLn : Hid ((lbytes v p e).length = 14) := Lib.hid (lbytes_length _ _ _)
    clear hok
    generalize lbytes v p e = l at *
    unfold labV at *
    go_enter Try.func6, Try.ntmps6
    go_wp2_with fail
    refine (HB.out _).mono ?_
    rintro r w2 ⟨a2, c2, rfl, ho2, hb2⟩
    have hs2 := ho2.src
    have hlc := ho2.len
    have hl2 := hl1.ext hb2
    have hb12 := bthen hb1 hb2 (Nat.le_refl _)
    clear k0 k1 k2 hl1 hb1 hb2 ho2
    obtain ⟨k0, k1, k2⟩ := hl2.cells
    go_wp2_with fail
    refine (HL.out _).mono ?_
    rintro r w3 ⟨rfl, hb3⟩
    have hs3 := hs2.ext hb3
    have hl3 := hl2.ext hb3
    have hb13 := bthen hb12 hb3 (Nat.le_refl _)
    clear k0 k1 k2 hl2 hb12 hb3 hs2
    go_wp2_with fail
    refine (labread_at a2 14 c2 l v p e 0 w3 hs3 HLn.out.symm (by omega) hlc.1 HR.out).mono ?_
    rintro r w4 ⟨rfl, hb4⟩
    unfold labV
    have hs4 := hs3.ext hb4
    have hl4 := hl3.ext hb4
    have hb14 := bthen hb13 hb4 (Nat.le_refl _)
    clear hl3 hb13 hb4 hs3
    have hput := LabAt.put w4 v p e
    have hbp := below_put w4 v p e
    have hs5 := hs4.ext hbp
    have hl5 := hl4.ext hbp
    have hb15 := bthen hb14 hbp (Nat.le_refl _)
    clear hl4 hb14 hs4 hbp
    obtain ⟨k0, k1, k2⟩ := hl5.cells
    go_wp2_with (refine wpList_store_row rfl rfl 37 (.tmp 5) (.tmp 33) rfl w4.heap.size rfl 37 #[.int .i64 0, .int .i64 0, .int .i64 0] #[.int .i64 v, .int .i64 p, .int .i64 e] rfl (heap_alloc_new w4 _) rfl (by kernel_rfl) (by simp [Value.oneCell']) ?_)
    generalize World.setRow _ _ _ = w5 at *
    generalize w4.heap.size = g at *
    refine (HC.out _).mono ?_
    rintro r w6 ⟨rfl, hb6⟩
    have hp6 := hput.ext hb6
    have hs6 := hs5.ext hb6
    have hl6 := hl5.ext hb6
    have hb16 := bthen hb15 hb6 (Nat.le_refl _)
    clear k0 k1 k2 hl5 hb15 hs5 hput hb6
    obtain ⟨k0, k1, k2⟩ := hl6.cells
    go_wp2_with fail
    refine (HRB.out _).mono ?_
    rintro r w7 ⟨a7, c7, rfl, ho7, hb7⟩
    have ht7 := ho7.src
    have hp7 := hp6.ext hb7
    have hs7 := hs6.ext hb7
    have hl7 := hl6.ext hb7
    have hb17 := bthen hb16 hb7 (Nat.le_refl _)
    clear k0 k1 k2 hl6 hb16 hs6 hp6 hb7 ho7
    go_wp2_with fail
    refine (bytes_at _ _ l _ _ l w7 14 14 true hs7 ht7 HLn.out.symm HLn.out.symm (by omega) (by omega) (by simp)).mono ?_
    rintro r w8 ⟨rfl, k, rfl⟩
    have hb18 := below_drewN hb17 k
    obtain ⟨k0, k1, k2⟩ := (hl7.drewN k).cells
    obtain ⟨m0, m1, m2⟩ := (hp7.drewN k).cells
    clear hl7 hp7 hs7 ht7 hb17
    go_wp2_with fail
    refine (HK.out _).mono ?_
    rintro r w9 ⟨rfl, hb9⟩
    have hb19 := bthen hb18 hb9 (Nat.le_refl _)
    clear k0 k1 k2 m0 m1 m2 hb18 hb9
    go_wp2_with fail
    refine (wakes14_any _).mono ?_
    rintro r w10 ⟨rfl, hb10⟩
    go_wp2
    go_ret
    exact ⟨rfl, bthen hb19 hb10 (Nat.le_refl _)⟩
end Go.Proofs.Ythhgngknmjocpaa
