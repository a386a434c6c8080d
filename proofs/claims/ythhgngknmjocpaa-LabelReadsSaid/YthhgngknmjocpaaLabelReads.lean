/- The law LabelReads, walked. -/
import Derived.Test.YthhgngknmjocpaaLabelRef2
import Derived.Test.YthhgngknmjocpaaLabelWakes
namespace Go.Proofs.Ythhgngknmjocpaa
open Go.RowKit

set_option maxRecDepth 100000 in
set_option maxHeartbeats 2000000 in
theorem labelReads_walk (w : World) (a0 : Option Addr) (c0 : Nat) (l : List Byte) (ha : Src w a0 (bvs l)) (hl : l.length ≤ 9223372036854775807) (k0 : l.length ≤ c0) :
    Calls Try.prog 7 #[.slice a0 l.length c0] w fun r w' => r = .returned (.bool true) ∧ Below w.heap.size w w' := by
  by_cases h3 : l.length ≤ 300
  · obtain ⟨v, p, e, R, hR⟩ : ∃ v p e R, labR l = (v, p, e, R) := ⟨_, _, _, _, rfl⟩
    have hcase : (R = 0 ∧ okL v p e = true ∧ lbytes v p e = l) ∨ R = 13 := by
      have h := labR_err l
      rw [hR] at h
      rcases h with ⟨h1, h2, h3⟩ | h
      · exact .inl ⟨h1, h2, h3⟩
      · simp only [Prod.mk.injEq] at h; exact .inr h.2.2.2
    have HR := Lib.hid hR
    have HK := Lib.hid fun w => keeplabel_at v p e v p e true w (by simp)
    have Hc := Lib.hid hcase
    clear hcase hR
    unfold labV at *
    go_enter Try.func7, Try.ntmps7
    go_wp2_with fail
    refine (twin_any a0 c0 l w ha (by omega)).mono ?_
    rintro r w1 ⟨a1, c1, rfl, ho1, hb1⟩
    have hs1 := ho1.src
    have hlc := ho1.len.1
    have ha1 := ha.ext hb1
    clear ho1
    go_wp2_with fail
    refine (labread_at a1 _ c1 l v p e R w1 hs1 rfl hl hlc HR.out).mono ?_
    rintro r w2 ⟨rfl, hb2⟩
    unfold labV
    have hs2 := hs1.ext hb2
    have ha2 := ha1.ext hb2
    have hb02 := bthen hb1 hb2 (Nat.le_refl _)
    have hput := LabAt.put w2 v p e
    have hbp := below_put w2 v p e
    have hs3 := hs2.ext hbp
    have ha3 := ha2.ext hbp
    have hb03 := bthen hb02 hbp (Nat.le_refl _)
    clear hs1 hs2 ha1 ha2 ha hb1 hb2 hb02 hbp
    go_wp2_with (refine wpList_store_row rfl rfl 37 (.tmp 4) (.tmp 17) rfl w2.heap.size rfl 37 #[.int .i64 0, .int .i64 0, .int .i64 0] #[.int .i64 v, .int .i64 p, .int .i64 e] rfl (heap_alloc_new w2 _) rfl (by kernel_rfl) (by simp [Value.oneCell']) ?_)
    generalize World.setRow _ _ _ = w3 at *
    generalize w2.heap.size = g at *
    refine (refread_at a0 _ c0 l v p e R w3 ha3 rfl hl k0 HR.out).mono ?_
    rintro r w4 ⟨rfl, hb4⟩
    unfold labV
    have hs4 := hs3.ext hb4
    have ha4 := ha3.ext hb4
    have hp4 := hput.ext hb4
    have hb04 := bthen hb03 hb4 (Nat.le_refl _)
    have hput' := LabAt.put w4 v p e
    have hbp := below_put w4 v p e
    have hs5 := hs4.ext hbp
    have ha5 := ha4.ext hbp
    have hp5 := hp4.ext hbp
    have hb05 := bthen hb04 hbp (Nat.le_refl _)
    clear hs3 hs4 ha3 ha4 hb03 hb4 hb04 hbp hput hp4
    obtain ⟨k0, k1, k2⟩ := hp5.cells
    obtain ⟨m0, m1, m2⟩ := hput'.cells
    have hf : (R != R) = false := by simp
    go_wp2_with (refine wpList_store_row rfl rfl 37 (.tmp 6) (.tmp 22) rfl w4.heap.size rfl 37 #[.int .i64 0, .int .i64 0, .int .i64 0] #[.int .i64 v, .int .i64 p, .int .i64 e] rfl (heap_alloc_new w4 _) rfl (by kernel_rfl) (by simp [Value.oneCell']) ?_)
    generalize World.setRow _ _ _ = w5 at *
    generalize w4.heap.size = g' at *
    refine (HK.out _).mono ?_
    rintro r w6 ⟨rfl, hb6⟩
    have hs6 := hs5.ext hb6
    have ha6 := ha5.ext hb6
    have hp6 := hp5.ext hb6
    have hb06 := bthen hb05 hb6 (Nat.le_refl _)
    clear k0 k1 k2 m0 m1 m2 hput' hs5 ha5 hp5 hb05 hb6 HK
    go_wp2_with fail
    refine (bytes_at _ _ l _ _ l w6 _ _ true hs6 ha6 rfl rfl hl hl (by simp)).mono ?_
    rintro r w7 ⟨rfl, k, rfl⟩
    have hp7 := hp6.drewN k
    obtain ⟨k0, k1, k2⟩ := hp7.cells
    have ha7 := ha6.ext (ext_drewN _ k _)
    have hb07 := below_drewN hb06 k
    clear hs6 ha6 hp6 hb06
    rcases Hc.out with ⟨rfl, hok, hlb⟩ | rfl
    · have HB := Lib.hid fun w => labbytes_at v p e 0 l l.length w (by rw [labB_ok hok, hlb]) rfl (labE_ok hok)
      clear hok hlb Hc
      go_wp2_with fail
      refine (HB.out _).mono ?_
      rintro r w8 ⟨a8, c8, rfl, ho8, hb8⟩
      have hs8 := ho8.src
      have ha8 := ha7.ext hb8
      have hb08 := bthen hb07 hb8 (Nat.le_refl _)
      clear ho8 ha7 hb07 hb8
      go_wp2_with fail
      refine (bytes_at _ _ l _ _ l w8 _ _ true hs8 ha8 rfl rfl hl hl (by simp)).mono ?_
      rintro r w9 ⟨rfl, j, rfl⟩
      have hb09 := below_drewN hb08 j
      go_wp2_with fail
      refine (wakes14_any _).mono ?_
      rintro r w10 ⟨rfl, hb10⟩
      go_wp2
      go_ret
      exact ⟨rfl, bthen hb09 hb10 (Nat.le_refl _)⟩
    · clear Hc
      go_wp2_with fail
      refine (wakes14_any _).mono ?_
      rintro r w10 ⟨rfl, hb10⟩
      go_wp2
      go_ret
      exact ⟨rfl, bthen hb07 hb10 (Nat.le_refl _)⟩
  · go_enter Try.func7, Try.ntmps7
    go_wp2
    go_ret
    exact ⟨rfl, Below.refl _ _⟩
end Go.Proofs.Ythhgngknmjocpaa
