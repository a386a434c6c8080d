/- Several texts of this claim, one behind the other: VolLab, VolLabP, IntsK. -/
import Derived.Test.YtclkkhpnnbkfmaaVolRead
import Derived.Test.YtclkkhpnnbkfmaaVolumeBackPartY
import Derived.Test.YtclkkhpnnbkfmaaVolumeBackPartX
import Derived.Test.YtclkkhpnnbkfmaaVolumeBackPartB
import Derived.Test.YtclkkhpnnbkfmaaVolumeBackPartH
/- volume: Label. -/
namespace Go.Proofs.Ytclkkhpnnbkfmaa
open Go.RowKit

variable {B : Nat} {K : Nat → Prop} {w w' : World} {vb d g : Nat} {size : Int} {M : Med} {at_ : Int} {s : PS}
theorem DrvP.mod {F : Nat → TypeId → Prop} (h : DrvP B K w d g M at_ s) (hm : Mod F w w') (hF : ∀ b T, F b T → (T ≠ 88 ∧ T ≠ 74 ∧ T ≠ 5) ∧ (T ≠ 120 ∧ T ≠ 149 ∧ T ≠ 4)) : DrvP B K w' d g M at_ s := by
  obtain ⟨⟨a, k, c, cs, h1⟩, hp⟩ := h
  exact ⟨⟨a, k, c, cs, h1.mod hm fun b T hf => (hF b T hf).1⟩, hp.mod hm fun b T hf => (hF b T hf).2⟩
/-- A row stored in a block of labels. -/
theorem lab_store {G : Nat} {cs new : Array Value} (hg : w.heap[G]? = some (.cells cs 37 (0, 0))) : Mod (fun b T => b = G ∧ T = 37) w (w.setRow G new) :=
  Mod.one (bsetRow (Below.refl 0 _) (Nat.zero_le _) _) (fun b hb => setRow_other w G b _ hb) hg (setRow_heap _ _ _ _ _ _ hg) ⟨rfl, rfl⟩
theorem lab_end {w0 : World} {cs : Array Value} (new : Array Value) (hm : Mod (VF B K) w0 w) (hd : DrvP B K w d g M at_ s) (hg : w.heap[w0.heap.size]? = some (.cells cs 37 (0, 0))) :
    DrvP B K (w.setRow w0.heap.size new) d g M at_ s ∧ Mod (VF B K) w0 (w.setRow w0.heap.size new) := by
  have h1 := lab_store (new := new) hg
  refine ⟨hd.mod h1 fun b T hf => by rw [hf.2]; decide, ?_⟩
  exact ((hm.mono (G := fun b T => VF B K b T ∨ w0.heap.size ≤ b) fun _ _ _ h => .inl h).trans (h1.mono fun b T _ hf => .inr (by rw [hf.1]; exact Nat.le_refl _))).mono fun b T hb hf => hf.elim id fun h => absurd hb (by omega)
/-- What Label tells. -/
def vLabel (s : PS) (M : Med) (at_ : Int) : Int × Int × Int × Int × Int :=
  if s.off then (0, 0, 0, 5, at_) else
  if (M.look 0).2 ≠ 0 then (0, 0, 0, 13, if (M.look 0).2 = 8 then 0 else 0 + 1) else
  if (labR (M.look 0).1).2.2.2 ≠ 0 then (0, 0, 0, (labR (M.look 0).1).2.2.2, 0 + 1) else
  if (M.look 1).2 ≠ 15 then (0, 0, 0, 13, if (M.look 1).2 = 8 then 1 else 1 + 1) else
  ((labR (M.look 0).1).1, (labR (M.look 0).1).2.1, (labR (M.look 0).1).2.2.1, 0, 1 + 1)
set_option maxRecDepth 100000 in
set_option maxHeartbeats 4000000 in
theorem vol_label (V P E R at' : Int) (w : World) (hv : VolAt w vb d size) (hd : DrvP B K w d g M at_ s) (hB : B ≤ w.heap.size) (hg : M.ok = true) (hr : vLabel s M at_ = (V, P, E, R, at')) :
    Calls Try.prog 19 #[.pointer (some ⟨vb, 0, none⟩)] w fun r w' => r = .returned (.tuple #[labV V P E, .int .i64 R]) ∧ DrvP B K w' d g M at' s ∧ Mod (VF B K) w w' := by
  have hG : DGood M 0 := ⟨hg, 0, rfl, Nat.zero_le _⟩
  have hbL := ext_alloc w (.cells #[.int .i64 0, .int .i64 0, .int .i64 0] 37)
  have hzL := heap_alloc_new w (.cells #[.int .i64 0, .int .i64 0, .int .i64 0] 37)
  have HV := Lib.hid (hv.ext hbL)
  have HD := Lib.hid (hd.ext hbL)
  have HM0 : Hid (Mod (VF B K) w _) := Lib.hid (bmod hbL _)
  have HB0 := Lib.hid (Nat.le_trans hB hbL.size)
  have HR := Lib.hid hr
  unfold labV
  clear hv hd hB hr hbL
  go_enter Try.func19, Try.ntmps19
  go_wp2_with fail
  generalize w.alloc (.cells #[.int .i64 0, .int .i64 0, .int .i64 0] 37) = w1 at *
  refine (vol_on (at_ := at_) s.off (if s.off then at_ else 0) w1 HV.out HD.out hG.len rfl rfl).mono ?_
  rintro r w2 ⟨rfl, h2, hm2⟩
  have HD2 := Lib.hid h2
  have HM2 := Lib.hid (HM0.out.trans hm2)
  have HV2 := Lib.hid (HV.out.vf hm2)
  have HB2 := Lib.hid (Nat.le_trans HB0.out hm2.size)
  have hz2 := hm2.keep hzL (VF_no (by decide))
  have HZ2 := Lib.hid hz2
  clear h2 hm2 hzL HD HM0 HV HB0
  cases hso : s.off with
  | true =>
    have hh := HR.out
    unfold vLabel at hh
    rw [if_pos hso] at hh
    simp only [Prod.mk.injEq] at hh
    obtain ⟨rfl, rfl, rfl, rfl, rfl⟩ := hh
    rw [hso] at HD2
    have HD3 : Hid (DrvP B K w2 d g M at_ s) := HD2
    clear HD2 HR hso
    go_wp2_with (refine wpList_store_row rfl rfl 37 (.tmp 2) (.tmp 10) rfl w.heap.size rfl 37 #[.int .i64 0, .int .i64 0, .int .i64 0] #[.int .i64 0, .int .i64 0, .int .i64 0] rfl hz2 rfl (by kernel_rfl) (by simp [Value.oneCell']) ?_)
    exact bodyPost_ret (results_cell2 (p := 2) (u := 3) rfl _ _ w.heap.size _ #[.int .i64 0, .int .i64 0, .int .i64 0] _ _ rfl (setRow_heap _ w.heap.size _ _ _ _ HZ2.out) Try.underlying37 rfl (by kernel_rfl)) rfl
      ⟨rfl, lab_end _ HM2.out HD3.out HZ2.out⟩
  | false =>
  rw [hso] at HD2
  have HD3 : Hid (DrvP B K w2 d g M 0 s) := HD2
  have Hso := Lib.hid hso
  have hh := HR.out
  unfold vLabel at hh
  rw [if_neg (by rw [hso]; decide)] at hh
  obtain ⟨⟨l0, E0⟩, hk0⟩ : ∃ y, y = M.look 0 := ⟨_, rfl⟩
  rw [← hk0] at hh
  dsimp only at hh
  have HH := Lib.hid hh
  have HK0 := Lib.hid hk0.symm
  obtain ⟨n0, hn0⟩ : ∃ n, n = l0.length := ⟨_, rfl⟩
  have HN0 := Lib.hid hn0
  have hl0 := (look_dgood (p := 0) hG).2
  rw [← hk0] at hl0
  have Hl0 := Lib.hid hl0
  obtain ⟨c0, c1⟩ := HV2.out.cells
  obtain ⟨q0, hq0⟩ : ∃ q : Int, q = if E0 = 8 then 0 else 0 + 1 := ⟨_, rfl⟩
  have hh := HH.out
  rw [← hq0] at hh
  have HH := Lib.hid hh
  have HQ0 := Lib.hid hq0
  clear HD2 HR hso hh hk0 hn0 hz2 hl0 hq0
  go_wp2_with fail
  refine (drv_read n0 l0 E0 q0 s w2 HD3.out HB2.out hG.short HN0.out (by decide) (by decide) (by rw [if_neg (by rw [Hso.out]; decide), HK0.out, HQ0.out])).mono ?_
  rintro r w3 ⟨a3, c3, rfl, hO3, h3, hm3⟩
  have HD3' := Lib.hid h3
  have HM3 := Lib.hid (HM2.out.trans hm3)
  have HO3 := Lib.hid hO3
  have HV3 := Lib.hid (HV2.out.vf hm3)
  have HB3 := Lib.hid (Nat.le_trans HB2.out hm3.size)
  have hz3 := hm3.keep HZ2.out (VF_no (by decide))
  have HZ3 := Lib.hid hz3
  clear h3 hm3 hO3 c0 c1 HZ2 HD3 HM2 HB2 HV2
  by_cases h0 : E0 = 0
  case neg =>
    have e0 : (E0 != 0) = true := by simpa using h0
    have hh := HH.out
    rw [if_pos h0] at hh
    simp only [Prod.mk.injEq] at hh
    obtain ⟨rfl, rfl, rfl, rfl, rfl⟩ := hh
    clear HH h0
    go_wp2_with (refine wpList_store_row rfl rfl 37 (.tmp 2) (.tmp 21) rfl w.heap.size rfl 37 #[.int .i64 0, .int .i64 0, .int .i64 0] #[.int .i64 0, .int .i64 0, .int .i64 0] rfl hz3 rfl (by kernel_rfl) (by simp [Value.oneCell']) ?_)
    exact bodyPost_ret (results_cell2 (p := 2) (u := 3) rfl _ _ w.heap.size _ #[.int .i64 0, .int .i64 0, .int .i64 0] _ _ rfl (setRow_heap _ w.heap.size _ _ _ _ HZ3.out) Try.underlying37 rfl (by kernel_rfl)) rfl
      ⟨rfl, lab_end _ HM3.out HD3'.out HZ3.out⟩
  subst h0
  have hh := HH.out
  rw [if_neg (by decide)] at hh
  obtain ⟨⟨V1, P1, F1, R1⟩, hlr⟩ : ∃ y, y = labR l0 := ⟨_, rfl⟩
  rw [← hlr] at hh
  dsimp only at hh
  have HLR := Lib.hid hlr.symm
  have HH2 := Lib.hid hh
  have hn256 : n0 ≤ 256 := by rw [HN0.out]; exact Hl0.out
  have hcap := HO3.out.len.1
  have HD4 : Hid (DrvP B K w3 d g M (0 + 1) s) := Lib.hid (by have := HD3'.out; rw [HQ0.out, if_neg (by decide)] at this; exact this)
  have HS3 := Lib.hid HO3.out.src
  clear hh HH hlr HD3'
  go_wp2_with fail
  refine (labread_at a3 n0 c3 l0 V1 P1 F1 R1 w3 HS3.out HN0.out (by omega) hcap HLR.out).mono ?_
  rintro r w4 ⟨rfl, hb4⟩
  unfold labV
  have hb5 := bthen hb4 (below_put w4 V1 P1 F1) (Nat.le_refl _)
  have hL5 := LabAt.put w4 V1 P1 F1
  have hz4 := heap_alloc_new w4 (.cells #[.int .i64 0, .int .i64 0, .int .i64 0] 37)
  have HD5 := Lib.hid (HD4.out.ext hb5)
  have HM5 := Lib.hid (HM3.out.trans (bmod hb5 _))
  have HV5 := Lib.hid (HV3.out.ext hb5)
  have HB5 := Lib.hid (Nat.le_trans HB3.out hb5.size)
  have hz5 := (hb5.block _ (heap_lt HZ3.out)).trans HZ3.out
  clear hb4 hb5 HD4 HM3 HV3 HB3 HZ3 hz3 HS3 HO3
  by_cases h1 : R1 = 0
  case neg =>
    have e1 : (R1 != 0) = true := by simpa using h1
    have hh := HH2.out
    rw [if_pos h1] at hh
    simp only [Prod.mk.injEq] at hh
    obtain ⟨rfl, rfl, rfl, rfl, rfl⟩ := hh
    clear HH2 h1
    go_wp2_with (first
      | (refine wpList_store_row rfl rfl 37 (.tmp 6) (.tmp 25) rfl w4.heap.size rfl 37 #[.int .i64 0, .int .i64 0, .int .i64 0] #[.int .i64 V1, .int .i64 P1, .int .i64 F1] rfl hz4 rfl (by kernel_rfl) (by simp [Value.oneCell']) ?_
         clear hz4
         generalize (w4.alloc (.cells #[.int .i64 0, .int .i64 0, .int .i64 0] 37)).setRow w4.heap.size #[.int .i64 V1, .int .i64 P1, .int .i64 F1] = w5 at *
         generalize w4.heap.size = GX at *
         have HL5 := Lib.hid hL5
         have HZ5 := Lib.hid hz5
         clear hL5
         obtain ⟨c0, c1⟩ := HV5.out.cells)
      | refine wpList_store_row rfl rfl 37 (.tmp 2) (.tmp 29) rfl w.heap.size rfl 37 #[.int .i64 0, .int .i64 0, .int .i64 0] #[.int .i64 0, .int .i64 0, .int .i64 0] rfl HZ5.out rfl (by kernel_rfl) (by simp [Value.oneCell']) ?_)
    exact bodyPost_ret (results_cell2 (p := 2) (u := 3) rfl _ _ w.heap.size _ #[.int .i64 0, .int .i64 0, .int .i64 0] _ _ rfl (setRow_heap _ w.heap.size _ _ _ _ HZ5.out) Try.underlying37 rfl (by kernel_rfl)) rfl
      ⟨rfl, lab_end _ HM5.out HD5.out HZ5.out⟩
  subst h1
  have hh := HH2.out
  rw [if_neg (by decide)] at hh
  go_wp2_with (refine wpList_store_row rfl rfl 37 (.tmp 6) (.tmp 25) rfl w4.heap.size rfl 37 #[.int .i64 0, .int .i64 0, .int .i64 0] #[.int .i64 V1, .int .i64 P1, .int .i64 F1] rfl hz4 rfl (by kernel_rfl) (by simp [Value.oneCell']) ?_
               clear hz4
               generalize (w4.alloc (.cells #[.int .i64 0, .int .i64 0, .int .i64 0] 37)).setRow w4.heap.size #[.int .i64 V1, .int .i64 P1, .int .i64 F1] = w5 at *
               generalize w4.heap.size = GX at *
               have HL5 := Lib.hid hL5
               have HZ5 := Lib.hid hz5
               clear hL5
               obtain ⟨c0, c1⟩ := HV5.out.cells)
  obtain ⟨⟨l1, E1⟩, hk1⟩ : ∃ y, y = M.look 1 := ⟨_, rfl⟩
  obtain ⟨q1, hq1⟩ : ∃ q : Int, q = if E1 = 8 then 1 else 1 + 1 := ⟨_, rfl⟩
  rw [← hk1] at hh
  dsimp only at hh
  rw [← hq1] at hh
  have HH3 := Lib.hid hh
  have HK1 := Lib.hid hk1.symm
  have HQ1 := Lib.hid hq1
  obtain ⟨n1, hn1⟩ : ∃ n, n = l1.length := ⟨_, rfl⟩
  have HN1 := Lib.hid hn1
  have HD6 : Hid (DrvP B K w5 d g M 1 s) := HD5
  clear hh HH2 hk1 hn1 hq1 HD5 hz5
  refine (drv_read n1 l1 E1 q1 s w5 HD6.out HB5.out hG.short HN1.out (by decide) (by decide) (by rw [if_neg (by rw [Hso.out]; decide), HK1.out, HQ1.out])).mono ?_
  rintro r w7 ⟨a7, c7, rfl, hO7, h7, hm7⟩
  have HD7 := Lib.hid h7
  have HM7 := Lib.hid (HM5.out.trans hm7)
  have hz7 := hm7.keep HZ5.out (VF_no (by decide))
  have hL7 := hm7.keep HL5.out (VF_no (by decide))
  have HZ7 := Lib.hid hz7
  clear h7 hm7 hO7 c0 c1 HZ5 HD6 HM5 HB5 HV5 HL5 hz7
  by_cases h2 : E1 = 15
  case neg =>
    have e2 : (E1 != 15) = true := by simpa using h2
    have hh := HH3.out
    rw [if_pos h2] at hh
    simp only [Prod.mk.injEq] at hh
    obtain ⟨rfl, rfl, rfl, rfl, rfl⟩ := hh
    clear HH3 h2 hL7
    go_wp2_with (refine wpList_store_row rfl rfl 37 (.tmp 2) (.tmp 41) rfl w.heap.size rfl 37 #[.int .i64 0, .int .i64 0, .int .i64 0] #[.int .i64 0, .int .i64 0, .int .i64 0] rfl HZ7.out rfl (by kernel_rfl) (by simp [Value.oneCell']) ?_)
    exact bodyPost_ret (results_cell2 (p := 2) (u := 3) rfl _ _ w.heap.size _ #[.int .i64 0, .int .i64 0, .int .i64 0] _ _ rfl (setRow_heap _ w.heap.size _ _ _ _ HZ7.out) Try.underlying37 rfl (by kernel_rfl)) rfl
      ⟨rfl, lab_end _ HM7.out HD7.out HZ7.out⟩
  subst h2
  have hh := HH3.out
  rw [if_neg (by decide)] at hh
  simp only [Prod.mk.injEq] at hh
  obtain ⟨rfl, rfl, rfl, rfl, rfl⟩ := hh
  have HD8 : Hid (DrvP B K w7 d g M (1 + 1) s) := Lib.hid (by have := HD7.out; rw [HQ1.out, if_neg (by decide)] at this; exact this)
  clear HH3
  go_wp2_with (first
    | refine wpList_load_row rfl 37 (.tmp 6) rfl GX rfl 37 _ (0, 0) _ hL7 Try.underlying37 rfl (by kernel_rfl) ?_
    | refine wpList_store_row rfl rfl 37 (.tmp 2) (.tmp 42) rfl w.heap.size rfl 37 #[.int .i64 0, .int .i64 0, .int .i64 0] #[.int .i64 V1, .int .i64 P1, .int .i64 F1] rfl HZ7.out rfl (by kernel_rfl) (by simp [Value.oneCell']) ?_)
  exact bodyPost_ret (results_cell2 (p := 2) (u := 3) rfl _ _ w.heap.size _ #[.int .i64 V1, .int .i64 P1, .int .i64 F1] _ _ rfl (setRow_heap _ w.heap.size _ _ _ _ HZ7.out) Try.underlying37 rfl (by kernel_rfl)) rfl
    ⟨rfl, lab_end _ HM7.out HD8.out HZ7.out⟩
end Go.Proofs.Ytclkkhpnnbkfmaa

/- Label of a volume, plainly. -/
namespace Go.Proofs.Ytclkkhpnnbkfmaa
open Go.RowKit

theorem vLabel_vol {cap v p e : Int} {gs : List (List (List Byte))} {at_ : Int} (h : okL v p e = true) : vLabel PS.new (volT cap (lbytes v p e) gs) at_ = (v, p, e, 0, 1 + 1) := by
  have h0 : (volT cap (lbytes v p e) gs).look 0 = (lbytes v p e, 0) := rfl
  have h1 : (volT cap (lbytes v p e) gs).look 1 = ([], 15) := by
    have := look_in (m := volT cap (lbytes v p e) gs) (k := 1) (c := markC) rfl
    rw [show ((1 : Nat) : Int) = 1 from rfl] at this
    rw [this]
    rfl
  unfold vLabel
  rw [if_neg (by decide), h0, h1]
  dsimp only
  rw [if_neg (by decide), labR_lbytes h]
  rfl
end Go.Proofs.Ytclkkhpnnbkfmaa

/- cellarerkeep.Ints. -/
namespace Go.Proofs.Ytclkkhpnnbkfmaa
open Go.RowKit

set_option maxHeartbeats 400000 in
theorem keepints_any (a : Option Addr) (ca : Nat) (la : List Int) (b : Option Addr) (cb : Nat) (lb : List Int) (w : World) (ha : Src w a (ivs la)) (hb : Src w b (ivs lb))
    (hla : la.length ≤ 9223372036854775807) (hlb : lb.length ≤ 9223372036854775807) :
    Calls Try.prog 15 #[.slice a la.length ca, .slice b lb.length cb] w fun e w' => e = .returned (.bool (decide (la = lb))) ∧ ∃ n, w' = w.drewN n := by
  by_cases hlen : la.length = lb.length
  · have h1 : (((la.length : Nat) : Int) != ((lb.length : Nat) : Int)) = false := by simp [hlen]
    have Hlen := Lib.hid hlen
    clear hlen
    go_enter Try.func15, Try.ntmps15
    go_wp2_with fail
    go_loopw [5] (fun i wr => ∃ k n : Nat, k ≤ la.length ∧ i = .int .i64 k ∧ wr = w.drewN n ∧ la.take k = lb.take k) (fun i _ => la.length - (intOf i).toNat)
    case atStart => exact ⟨0, 0, by omega, rfl, rfl, by simp⟩
    case round =>
      obtain ⟨k, n, hk, rfl, rfl, heq⟩ := hrel
      have Heq := Lib.hid heq
      clear heq
      by_cases hlt : k < la.length
      · have hlt2 : k < lb.length := by have := Hlen.out; omega
        obtain ⟨b1, o1, rfl, _, hat1⟩ := src_ints_at ha hlt
        obtain ⟨b2, o2, rfl, _, hat2⟩ := src_ints_at hb hlt2
        have hc1 := hat1 k hlt
        have hc2 := hat2 k hlt2
        have i1 : (k : Int) < (la.length : Int) := by omega
        have i2 : (k : Int) < (lb.length : Int) := by omega
        have Ha := Lib.hid (take_succ_list la k hlt)
        have Hb := Lib.hid (take_succ_list lb k hlt2)
        clear hat1 hat2
        generalize hx : la[k] = x at hc1 Ha
        generalize hy : lb[k] = y at hc2 Hb
        have Hx := Lib.hid hx
        have Hy := Lib.hid hy
        clear hx hy
        by_cases hxy : x = y
        · have e1 : (x != y) = false := by simp [hxy]
          have Hxy := Lib.hid hxy
          clear hxy
          go_wp2_with fail
          go_quiet (fail)
          go_wp2
          go_roundw
          case rel => exact ⟨k + 1, n + nq, by omega, by go_num, rfl, by rw [Ha.out, Hb.out, Heq.out, Hxy.out]⟩
          case measure => simp [intOf]; omega
        · have e1 : (x != y) = true := by simpa using hxy
          go_wp2_with fail
          go_quiet (fail)
          go_wp2
          go_ret
          refine ⟨?_, n + nq, by simp⟩
          rw [decide_eq_false (fun h => hxy ?_)]
          · rfl
          · subst h
            exact Hx.out.symm.trans Hy.out
      · have hkl : k = la.length := by omega
        have hfin : la = lb := by
          have := Heq.out
          rw [hkl, List.take_length, Hlen.out, List.take_length] at this
          exact this
        have Hfin := Lib.hid hfin
        clear hfin hkl
        go_wp2
        go_ret
        exact ⟨by rw [decide_eq_true Hfin.out]; rfl, _, rfl⟩
  · have h1 : (((la.length : Nat) : Int) != ((lb.length : Nat) : Int)) = true := by simp; omega
    go_enter Try.func15, Try.ntmps15
    go_wp2
    go_ret
    exact ⟨by rw [decide_eq_false (fun h => hlen (by rw [h]))]; rfl, 0, rfl⟩
theorem keepints_at (a : Option Addr) (ca : Nat) (la : List Int) (b : Option Addr) (cb : Nat) (lb : List Int) (w : World) (n m : Nat) (r : Bool) (ha : Src w a (ivs la)) (hb : Src w b (ivs lb))
    (hn : n = la.length) (hm : m = lb.length) (hla : n ≤ 9223372036854775807) (hlb : m ≤ 9223372036854775807) (hr : decide (la = lb) = r) :
    Calls Try.prog 15 #[.slice a n ca, .slice b m cb] w fun e w' => e = .returned (.bool r) ∧ Below w.heap.size w w' := by
  subst hn; subst hm; subst hr
  refine (keepints_any a ca la b cb lb w ha hb hla hlb).mono ?_
  rintro e w' ⟨rfl, n, rfl⟩
  exact ⟨rfl, ext_drewN w n _⟩
end Go.Proofs.Ytclkkhpnnbkfmaa
