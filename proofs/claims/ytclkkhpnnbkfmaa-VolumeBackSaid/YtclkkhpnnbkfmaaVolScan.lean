/- volume: Scan. -/
import Derived.Test.YtclkkhpnnbkfmaaVolRead
import Derived.Test.YtclkkhpnnbkfmaaAggrRead
namespace Go.Proofs.Ytclkkhpnnbkfmaa
open Go.RowKit

variable {B : Nat} {K : Nat → Prop} {w w' : World} {vb d g : Nat} {size : Int} {M : Med} {at_ : Int} {s : PS}
def vScanGo (M : Med) : Nat → Nat → List Byte → List Byte × Int × Int
  | 0, p, all => (all, 8, (p : Int))
  | fuel + 1, p, all => if (M.look (p : Int)).2 = 0 then vScanGo M fuel (p + 1) (all ++ (M.look (p : Int)).1) else (all, (M.look (p : Int)).2, if (M.look (p : Int)).2 = 8 then (p : Int) else (p : Int) + 1)
/-- What Scan tells. -/
def vScan (s : PS) (M : Med) (at_ file : Int) : List Rec × List Int × Bool × Int × Int :=
  if s.off then ([], [], false, 5, at_) else if file < 1 then ([], [], false, 1, 0) else if vFiles M < file then ([], [], false, 8, 0) else
  if (M.locate file 0 0).1 ≠ 0 then ([], [], false, (M.locate file 0 0).1, (M.locate file 0 0).2) else
  ((readA (vScanGo M (M.cells.length + 1) (M.locate file 0 0).2.toNat []).1).1, (readA (vScanGo M (M.cells.length + 1) (M.locate file 0 0).2.toNat []).1).2.1,
    (readA (vScanGo M (M.cells.length + 1) (M.locate file 0 0).2.toNat []).1).2.2 && decide ((vScanGo M (M.cells.length + 1) (M.locate file 0 0).2.toNat []).2.1 = 15), 0, (vScanGo M (M.cells.length + 1) (M.locate file 0 0).2.toNat []).2.2)
theorem look_blk {p : Nat} (hg : M.ok = true) (h : (M.look (p : Int)).2 = 0) : p < M.cells.length ∧ 1 ≤ (M.look (p : Int)).1.length ∧ (M.look (p : Int)).1.length ≤ 256 := by
  by_cases hp : p < M.cells.length
  · have hl := look_in (List.getElem?_eq_getElem hp)
    have hr := (Med.ok_iff.1 hg).2 _ (List.getElem_mem hp)
    unfold CellP.right rightC at hr
    rw [decide_eq_true_eq] at hr
    rw [hl] at h ⊢
    split at h
    · exact absurd h (by show ¬ (15 : Int) = 0; decide)
    · split at h
      · exact absurd h (by show ¬ (6 : Int) = 0; decide)
      · rename_i h2 h3
        rw [if_neg h2, if_neg h3]
        exact ⟨hp, by show 1 ≤ M.cells[p].data.length ∧ M.cells[p].data.length ≤ 256; omega⟩
  · unfold Med.look at h
    rw [if_pos (.inr (by omega))] at h
    exact absurd h (by show ¬ (8 : Int) = 0; decide)
theorem results_tmp4 {fn : Func} {t u v x : Tmp} (h : fn.results = #[.tmp t, .tmp u, .tmp v, .tmp x]) (tmps : Array Value) (P : Program) (w : World) :
    (results fn tmps).run P w = .ok (.tuple #[tmps.getD t undef, tmps.getD u undef, tmps.getD v undef, tmps.getD x undef]) w := by
  simp [results, h]
theorem OwnRecs.nil (w : World) (W : Nat) (a : Option Addr) : OwnRecs w W a 0 [] := ⟨Own.nil _ _ _ _ _, fun v hv => by cases hv⟩

set_option maxRecDepth 100000 in
set_option maxHeartbeats 4000000 in
theorem vol_scan (file : Int) (rl : List Rec) (ol : List Int) (R : Bool) (E at' : Int) (w : World) (hv : VolAt w vb d size) (hd : DrvP B K w d g M at_ s) (hB : B ≤ w.heap.size) (hg : M.ok = true) (hf : file ≤ 9223372036854775807) (hr : vScan s M at_ file = (rl, ol, R, E, at')) :
    Calls Try.prog 13 #[.pointer (some ⟨vb, 0, none⟩), .int .i64 file] w fun e w' => ∃ aR n cR vs aO cO, e = .returned (.tuple #[.slice aR n cR, .slice aO n cO, .bool R, .int .i64 E]) ∧ n = vs.length ∧ n = ol.length ∧ OwnRecs w' w.heap.size aR cR vs ∧ recs vs = rl ∧ Own w' w.heap.size 3 1 aO n cO (ivs ol) ∧ DrvP B K w' d g M at' s ∧ Mod (VF B K) w w' := by
  obtain ⟨i0, hi, hz0, hz1, hz2⟩ := info_parts info8
  have hG : DGood M 0 := ⟨hg, 0, rfl, Nat.zero_le _⟩
  have hcap := (Med.ok_iff.1 hg).1
  have hlen : M.cells.length ≤ 400 := by omega
  have HV := Lib.hid hv
  have HD := Lib.hid hd
  have HR := Lib.hid hr
  clear hv hd hr hcap
  go_enter Try.func13, Try.ntmps13
  go_wp2_with fail
  refine (vol_on (K := fun b => K b ∧ b < w.heap.size) (at_ := at_) s.off (if s.off then at_ else 0) w HV.out (HD.out.rek fun b _ hb hk => ⟨hk, hb⟩) hG.len rfl rfl).mono ?_
  rintro r w2 ⟨rfl, h2, hm2⟩
  have HDZ0 := Lib.hid h2
  have HM2 : Hid (Mod (VF B K) w w2) := Lib.hid (hm2.mono fun b T _ hf => ⟨hf.1, hf.2.imp id fun h => ⟨h.1.1, h.2⟩⟩)
  have HV2 := Lib.hid (HV.out.vf hm2)
  have HB2 := Lib.hid (Nat.le_trans hB hm2.size)
  clear h2 hm2 HD
  cases hso : s.off with
  | true =>
    have hh := HR.out
    unfold vScan at hh
    rw [if_pos hso] at hh
    simp only [Prod.mk.injEq] at hh
    obtain ⟨rfl, rfl, rfl, rfl, rfl⟩ := hh
    rw [hso] at HDZ0
    have HD3 : Hid (DrvP B K w2 d g M at_ s) := Lib.hid (DrvP.rek (K' := K) (show DrvP B (fun b => K b ∧ b < w.heap.size) w2 d g M at_ s from HDZ0.out) fun b _ _ hk => hk.1)
    clear HDZ0 HR
    go_wp2
    try simp only [Exit.inBlock, Exit.then]
    refine bodyPost_ret (results_tmp4 rfl _ _ _) rfl ?_
    exact ⟨none, 0, 0, [], none, 0, rfl, rfl, rfl, OwnRecs.nil _ _ _, rfl, Own.nil _ _ _ _ _, HD3.out, HM2.out⟩
  | false =>
  rw [hso] at HDZ0
  have HDZ : Hid (DrvP B (fun b => K b ∧ b < w.heap.size) w2 d g M 0 s) := HDZ0
  have Hso := Lib.hid hso
  have hh := HR.out
  unfold vScan at hh
  rw [if_neg (by rw [hso]; decide)] at hh
  have HH := Lib.hid hh
  clear HDZ0 HR hso hh
  by_cases hf1 : file < 1
  · have e1 : decide (file < 1) = true := by simpa using hf1
    have hh := HH.out
    rw [if_pos hf1] at hh
    simp only [Prod.mk.injEq] at hh
    obtain ⟨rfl, rfl, rfl, rfl, rfl⟩ := hh
    have HD3 := Lib.hid (HDZ.out.rek (K' := K) fun b _ _ hk => hk.1)
    clear HH hf1
    go_wp2
    try simp only [Exit.inBlock, Exit.then]
    refine bodyPost_ret (results_tmp4 rfl _ _ _) rfl ?_
    exact ⟨none, 0, 0, [], none, 0, rfl, rfl, rfl, OwnRecs.nil _ _ _, rfl, Own.nil _ _ _ _ _, HD3.out, HM2.out⟩
  have e1 : decide (file < 1) = false := by simpa using hf1
  have hh := HH.out
  rw [if_neg hf1] at hh
  obtain ⟨F, hF⟩ : ∃ F, F = vFiles M := ⟨_, rfl⟩
  rw [← hF] at hh
  have HH1 := Lib.hid hh
  have HF := Lib.hid hF.symm
  clear HH hh hF hf1
  go_wp2_with fail
  refine (vol_files F w2 HV2.out HDZ.out hg HF.out).mono ?_
  rintro e w5 ⟨rfl, hb5⟩
  have HD5 := Lib.hid (HDZ.out.ext hb5)
  have HM5 := Lib.hid (HM2.out.trans (bmod hb5 _))
  have HV5 := Lib.hid (HV2.out.ext hb5)
  have HB5 := Lib.hid (Nat.le_trans HB2.out hb5.size)
  clear hb5 HDZ HM2 HV2 HB2
  by_cases hf2 : F < file
  · have e2 : decide (file > F) = true := by simpa using hf2
    have hh := HH1.out
    rw [if_pos hf2] at hh
    simp only [Prod.mk.injEq] at hh
    obtain ⟨rfl, rfl, rfl, rfl, rfl⟩ := hh
    have HD3 := Lib.hid (HD5.out.rek (K' := K) fun b _ _ hk => hk.1)
    clear HH1 hf2
    go_wp2
    try simp only [Exit.inBlock, Exit.then]
    refine bodyPost_ret (results_tmp4 rfl _ _ _) rfl ?_
    exact ⟨none, 0, 0, [], none, 0, rfl, rfl, rfl, OwnRecs.nil _ _ _, rfl, Own.nil _ _ _ _ _, HD3.out, HM5.out⟩
  have e2 : decide (file > F) = false := by simpa using hf2
  have hh := HH1.out
  rw [if_neg hf2] at hh
  obtain ⟨⟨E1, p1⟩, hl1⟩ : ∃ y, y = M.locate file 0 0 := ⟨_, rfl⟩
  have hg1 := locate_dgood (n := file) (b := 0) hG
  rw [← hl1] at hg1 hh
  dsimp only at hg1 hh
  have HH2 := Lib.hid hh
  have HL1 := Lib.hid hl1.symm
  have HG1 := Lib.hid hg1
  obtain ⟨c0, c1⟩ := HV5.out.cells
  clear HH1 hh hf2 hl1 hg1
  go_wp2_with fail
  refine (drv_locate file 0 E1 p1 s w5 HD5.out hG.len hf (by decide) (by rw [if_neg (by rw [Hso.out]; decide)]; exact HL1.out)).mono ?_
  rintro r w6 ⟨rfl, h6, hm6⟩
  have HD6 := Lib.hid h6
  have HM6 : Hid (Mod (VF B K) w w6) := Lib.hid (HM5.out.trans (hm6.mono fun b T _ hf => ⟨hf.1, hf.2.imp id fun h => ⟨h.1.1, h.2⟩⟩))
  have HV6 := Lib.hid (HV5.out.vf hm6)
  have HB6 := Lib.hid (Nat.le_trans HB5.out hm6.size)
  clear h6 hm6 HD5 HM5 HV5 HB5 c0 c1
  by_cases h1 : E1 = 0
  case neg =>
    have e3 : (E1 != 0) = true := by simpa using h1
    have hh := HH2.out
    rw [if_pos h1] at hh
    simp only [Prod.mk.injEq] at hh
    obtain ⟨rfl, rfl, rfl, rfl, rfl⟩ := hh
    have HD3 := Lib.hid (HD6.out.rek (K' := K) fun b _ _ hk => hk.1)
    clear HH2 h1
    go_wp2
    try simp only [Exit.inBlock, Exit.then]
    refine bodyPost_ret (results_tmp4 rfl _ _ _) rfl ?_
    exact ⟨none, 0, 0, [], none, 0, rfl, rfl, rfl, OwnRecs.nil _ _ _, rfl, Own.nil _ _ _ _ _, HD3.out, HM6.out⟩
  subst h1
  obtain ⟨p0, hp0, hpl⟩ := HG1.out.pos
  subst hp0
  have hh := HH2.out
  rw [if_neg (by decide), Int.toNat_natCast] at hh
  obtain ⟨⟨aB, aE, aP⟩, hgo⟩ : ∃ y, y = vScanGo M (M.cells.length + 1) p0 [] := ⟨_, rfl⟩
  rw [← hgo] at hh
  dsimp only at hh
  have HH3 := Lib.hid hh
  have HGo := Lib.hid hgo.symm
  clear HH2 hh hgo HL1 HG1
  go_wp2_with fail
  go_loopw [8, 9, 10] (fun o _ _ wr => ∃ (fuel p m : Nat) (all : List Byte) (aO : Option Addr) (cO : Nat) (wx : World), wx = wr ∧ o = .slice aO m cO ∧ m = all.length ∧ p ≤ M.cells.length ∧ p ≤ m + p0 ∧ m ≤ 256 * p ∧ M.cells.length < p + fuel ∧ Own wx w.heap.size 5 1 aO m cO (bvs all) ∧ DrvP B (fun b => K b ∧ b < w.heap.size) wx d g M (p : Int) s ∧ Mod (RdF B K w.heap.size) w wx ∧ vScanGo M fuel p all = (aB, aE, aP)) (fun o _ _ _ => 256 * 400 - lenV o)
  case atStart => exact ⟨M.cells.length + 1, p0, 0, [], none, 0, _, rfl, rfl, rfl, hpl, by omega, by omega, by omega, Own.nil _ _ _ _ _, HD6.out, HM6.out.mono (fun _ _ _ hf => .inl hf), HGo.out⟩
  case round =>
    obtain ⟨fuel, p, m, all, aO, cO, wx, hwx, rfl, hm, hpM, hpm, hm256, hfu, hO, hDx, hMx, hGoX⟩ := hrel
    subst hwx
    have HO := Lib.hid hO
    have HDx := Lib.hid hDx
    have HMx := Lib.hid hMx
    have HGoX := Lib.hid hGoX
    have Hm := Lib.hid hm
    have HVx : Hid (VolAt wx vb d size) := Lib.hid (hMx.keep HV.out (fun hf => hf.elim (fun h => VF_no (by decide) h) fun h => absurd h.2 (by decide)))
    have HBx := Lib.hid (Nat.le_trans hB hMx.size)
    have hbw : w.heap.size ≤ wx.heap.size := hMx.size
    obtain ⟨⟨bl, El⟩, hlk⟩ : ∃ y, y = M.look (p : Int) := ⟨_, rfl⟩
    obtain ⟨p1, hp1⟩ : ∃ q : Int, q = if El = 8 then (p : Int) else (p : Int) + 1 := ⟨_, rfl⟩
    obtain ⟨nb, hnb⟩ : ∃ n, n = bl.length := ⟨_, rfl⟩
    obtain ⟨fu, hfu1⟩ : ∃ f, fuel = f + 1 := ⟨fuel - 1, by omega⟩
    have hgo := HGoX.out
    rw [hfu1] at hgo
    unfold vScanGo at hgo
    rw [← hlk] at hgo
    dsimp only at hgo
    rw [← hp1] at hgo
    have hbk := look_blk (p := p) hg
    rw [← hlk] at hbk
    dsimp only at hbk
    rw [← hnb] at hbk
    have h5 : El ≠ 5 := by
      have := look_err M (p : Int)
      rw [← hlk] at this
      dsimp only at this
      omega
    have Hgo := Lib.hid hgo
    have HK := Lib.hid hlk.symm
    have HP1 := Lib.hid hp1
    have HNB := Lib.hid hnb
    have HBK := Lib.hid hbk
    have HF1 := Lib.hid hfu1
    obtain ⟨c0, c1⟩ := HVx.out.cells
    clear hO hDx hMx hGoX hm hlk hp1 hnb hgo hbk HGo HD6 HM6 HV6 HB6 HV HGoX hfu1
    go_wp2_with fail
    refine (drv_read nb bl El p1 s wx HDx.out HBx.out hG.short HNB.out (by omega) (by omega) (by rw [if_neg (by rw [Hso.out]; decide), HK.out, HP1.out])).mono ?_
    rintro r w7 ⟨a7, c7, rfl, hO7, h7, hm7⟩
    have HD7 := Lib.hid h7
    have hm7' : Mod (VF B K) wx w7 := hm7.mono fun b T _ hf => ⟨hf.1, hf.2.imp id fun h => ⟨h.1.1, h.2⟩⟩
    have HM7 := Lib.hid (HMx.out.trans (hm7'.mono (G := RdF B K w.heap.size) fun _ _ _ h => .inl h))
    have HO7 := Lib.hid (HO.out.mod hm7 fun b _ _ => VF_no_u8 b)
    have HS7 := Lib.hid (hO7.mono hbw).src
    have hbw7 : w.heap.size ≤ w7.heap.size := Nat.le_trans hbw hm7.size
    have hcap7 := hO7.len.1
    clear h7 hm7 hm7' hO7 c0 c1 HDx HMx HO HVx HBx
    by_cases h0 : El = 0
    · subst h0
      obtain ⟨hpl2, hnb1, hnb2⟩ := HBK.out rfl
      have hgo := Hgo.out
      rw [if_pos rfl] at hgo
      have HGN := Lib.hid hgo
      have hp1' : p1 = ((p + 1 : Nat) : Int) := by rw [HP1.out, if_neg (by decide)]; omega
      have HD8 : Hid (DrvP B (fun b => K b ∧ b < w.heap.size) w7 d g M ((p + 1 : Nat) : Int) s) := Lib.hid (by rw [← hp1']; exact HD7.out)
      have t1 : (bvs bl).length = nb * 1 := by rw [bvs_length, HNB.out, Nat.mul_one]
      have t2 : m + nb ≤ maxLen := by unfold maxLen; omega
      have t3 : (m + nb) * 1 ≤ 140737488355328 := by omega
      have T1 := Lib.hid t1
      clear hgo Hgo t1 hp1' HD7
      go_wp2_with (refine wpList_appm rfl (.tmp 43) (.tmp 44) 50 rfl w.heap.size 5 i0 (.int .u8 0) 1 1 Try.underlying50 hi hz0 hz1 hz2 rfl (by decide) aO m cO (bvs all) rfl HO7.out a7 nb c7 (bvs bl) rfl T1.out HS7.out (bvs_one _) t2 t3 hbw7 ?_; intro a9 c9 w9 hA9)
      have HO9 : Hid (Own w9 w.heap.size 5 1 a9 (m + nb) c9 (bvs (all ++ bl))) := Lib.hid (by rw [bvs_append]; exact hA9.own)
      have HM9 := Lib.hid (HM7.out.trans (hA9.mod (RdF B K w.heap.size) fun g _ _ hB => .inr ⟨hB, rfl⟩))
      have HD9 := Lib.hid (HD8.out.far2 (hA9.mod (fun b T => w.heap.size ≤ b ∧ T = 5) fun g _ _ hB => ⟨hB, rfl⟩) fun b T _ hf => ⟨hf.2, fun hk => by have := hk.2; have := hf.1; omega⟩)
      have HL9 : Hid (m + nb = (all ++ bl).length) := Lib.hid (by rw [List.length_append, ← Hm.out, HNB.out])
      clear hA9
      go_wp2_with fail
      go_roundw
      case rel => exact ⟨fu, p + 1, m + nb, all ++ bl, a9, c9, _, rfl, rfl, HL9.out, by omega, by omega, by omega, by have := HF1.out; omega, HO9.out, HD9.out, HM9.out, HGN.out⟩
      case measure => simp [lenV]; omega
    · have e3 : (El == 0) = false := by simpa using h0
      have e4 : (El == 5) = false := by simpa using h5
      have hgo := Hgo.out
      rw [if_neg h0] at hgo
      simp only [Prod.mk.injEq] at hgo
      obtain ⟨rfl, rfl, rfl⟩ := hgo
      obtain ⟨⟨rl1, ol1, R1⟩, hra⟩ : ∃ y, y = readA all := ⟨_, rfl⟩
      have hh := HH3.out
      rw [← hra] at hh
      simp only [Prod.mk.injEq] at hh
      obtain ⟨rfl, rfl, hR, rfl, hpp⟩ := hh
      have HRR := Lib.hid hR
      have HRA := Lib.hid hra.symm
      have HPP : Hid (DrvP B K w7 d g M at' s) := Lib.hid (by rw [← hpp]; exact HD7.out.rek fun b _ _ hk => hk.1)
      clear hra HH3 hpp hR h5
      go_wp2_with fail
      refine (aread_at aO m cO all rl1 ol1 R1 w7 HO7.out.src Hm.out HO7.out.len.1 (by omega) HRA.out).mono ?_
      rintro e w8 ⟨aR, n, cR, vs, aI, cI, rfl, hn1, hn2, hrec, hrl, hoff, hb8⟩
      have HF := Lib.hid (show n = vs.length ∧ n = ol1.length ∧ OwnRecs w8 w.heap.size aR cR vs ∧ recs vs = rl1 ∧ Own w8 w.heap.size 3 1 aI n cI (ivs ol1) from ⟨hn1, hn2, hrec.mono hbw7, hrl, hoff.mono hbw7⟩)
      have HD8 := Lib.hid (HPP.out.ext hb8)
      have HM8 : Hid (Mod (VF B K) w w8) := Lib.hid ((HM7.out.trans (bmod hb8 _)).mono fun b T hb hf => hf.elim id fun h => absurd hb (by have := h.1; omega))
      clear hn1 hn2 hrec hrl hoff hb8 HPP
      cases R1 with
      | true =>
        have e5 : (El == 15) = R := by have := HRR.out; rw [Bool.true_and] at this; rw [← this]; exact Bool.beq_eq_decide_eq ..
        clear HRR h0
        go_wp2
        try simp only [Exit.inBlock, Exit.then]
        refine bodyPost_ret (results_tmp4 rfl _ _ _) rfl ?_
        obtain ⟨f1, f2, f3, f4, f5⟩ := HF.out
        exact ⟨aR, n, cR, vs, aI, cI, rfl, f1, f2, f3, f4, f5, HD8.out, HM8.out⟩
      | false =>
        have hR0 : R = false := by have := HRR.out; rw [Bool.false_and] at this; exact this.symm
        subst hR0
        clear HRR h0
        go_wp2
        try simp only [Exit.inBlock, Exit.then]
        refine bodyPost_ret (results_tmp4 rfl _ _ _) rfl ?_
        obtain ⟨f1, f2, f3, f4, f5⟩ := HF.out
        exact ⟨aR, n, cR, vs, aI, cI, rfl, f1, f2, f3, f4, f5, HD8.out, HM8.out⟩
end Go.Proofs.Ytclkkhpnnbkfmaa
