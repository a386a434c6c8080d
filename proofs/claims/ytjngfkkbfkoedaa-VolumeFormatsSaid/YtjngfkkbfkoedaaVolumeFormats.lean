/- The walk of VolumeFormats. -/
import Derived.Test.YtjngfkkbfkoedaaVolumeFormatsPartS
import Derived.Test.YtjngfkkbfkoedaaVolumeFormatsPartU
import Derived.Test.YtjngfkkbfkoedaaVolumeFormatsPartV
import Derived.Test.YtjngfkkbfkoedaaKeepMed
import Derived.Test.YtjngfkkbfkoedaaVolumeFormatsPartF
import Derived.Test.YtjngfkkbfkoedaaVolumeFormatsPartE
import Derived.Test.YtjngfkkbfkoedaaRegionPhase
namespace Go.Proofs.Ytjngfkkbfkoedaa
open Go.RowKit

theorem okL_six {v p e : Int} (h : okL v p e = false) : v < 0 ∨ (¬ v < 0 ∧ 8 ≤ v) ∨ (¬ v < 0 ∧ ¬ 8 ≤ v ∧ p < 0) ∨ (¬ v < 0 ∧ ¬ 8 ≤ v ∧ ¬ p < 0 ∧ 1 < p) ∨ (¬ v < 0 ∧ ¬ 8 ≤ v ∧ ¬ p < 0 ∧ ¬ 1 < p ∧ e < 0) ∨ (¬ v < 0 ∧ ¬ 8 ≤ v ∧ ¬ p < 0 ∧ ¬ 1 < p ∧ ¬ e < 0 ∧ 1048576 < e) := by
  by_cases h1 : v < 0
  · exact .inl h1
  by_cases h2 : 8 ≤ v
  · exact .inr (.inl ⟨h1, h2⟩)
  by_cases h3 : p < 0
  · exact .inr (.inr (.inl ⟨h1, h2, h3⟩))
  by_cases h4 : 1 < p
  · exact .inr (.inr (.inr (.inl ⟨h1, h2, h3, h4⟩)))
  by_cases h5 : e < 0
  · exact .inr (.inr (.inr (.inr (.inl ⟨h1, h2, h3, h4, h5⟩))))
  refine .inr (.inr (.inr (.inr (.inr ⟨h1, h2, h3, h4, h5, ?_⟩))))
  by_cases h6 : 1048576 < e
  · exact h6
  · have := okL_iff.2 (show 0 ≤ v ∧ v < 8 ∧ 0 ≤ p ∧ p ≤ 1 ∧ 0 ≤ e ∧ e ≤ 1048576 by omega)
    rw [h] at this
    exact absurd this (by decide)
theorem vLabel_vol {cap v p e : Int} {gs : List (List (List Byte))} {at_ : Int} (h : okL v p e = true) : vLabel PS.new (volT cap (lbytes v p e) gs) at_ = (v, p, e, 0, 1 + 1) := by
  have h0 : (volT cap (lbytes v p e) gs).look 0 = (lbytes v p e, 0) := rfl
  have h1 : (volT cap (lbytes v p e) gs).look 1 = ([], 15) := by
    have := look_in (m := volT cap (lbytes v p e) gs) (k := 1) (c := markC) rfl
    rw [show ((1 : Nat) : Int) = 1 from rfl] at this
    rw [this]
    rfl
  unfold vLabel
  rw [if_neg (by decide), h0, h1]
  dsimp only
  rw [if_neg (by decide), labR_lbytes h]
  rfl
theorem vLabel_one {v p e : Int} {at_ : Int} (h : okL v p e = true) : vLabel PS.new ⟨1, [blkC (lbytes v p e)]⟩ at_ = (0, 0, 0, 13, 1) := by
  have h0 : (⟨1, [blkC (lbytes v p e)]⟩ : Med).look 0 = (lbytes v p e, 0) := rfl
  have h1 : (⟨1, [blkC (lbytes v p e)]⟩ : Med).look 1 = ([], 8) := rfl
  unfold vLabel
  rw [if_neg (by decide), h0, h1]
  dsimp only
  rw [if_neg (by decide), labR_lbytes h]
  rfl
theorem vFormat_one {M : Med} {at_ v p e : Int} (hc : M.cap = 1) (hl : okL v p e = true) : vFormat PS.new M at_ v p e = (7, PS.new, ⟨1, [blkC (lbytes v p e)]⟩, 1) := by
  unfold vFormat
  rw [if_neg (by decide), if_neg (by rw [hl]; decide), dvWrite_ok (Nat.zero_le _) (by rw [hc]; decide) (lab_ok v p e), if_neg (show ¬ ((0 : Int) ≠ 0) by decide)]
  show dvMark PS.new (M.lay 0 ⟨1, lbytes v p e, false⟩) 1 = _
  have hm : M.lay 0 ⟨1, lbytes v p e, false⟩ = ⟨1, [blkC (lbytes v p e)]⟩ := by unfold Med.lay; rw [hc]; rfl
  rw [hm]
  rfl

set_option maxRecDepth 100000 in
set_option maxHeartbeats 16000000 in
theorem volumeFormats_walk (w : World) (cap : Int) (a : Option Addr) (c : Nat) (cs : List CellV) (hs : CMat w a cs) (hl : cs.length ≤ 9223372036854775807) (hlc : cs.length ≤ c) (v p e : Int) (zs : Int) (ws : (Lit.int .i64 zs).wf = true) :
    Calls Try.prog 3 #[.agg #[.int .i64 cap, .slice a cs.length c], .agg #[.int .i64 v, .int .i64 p, .int .i64 e], .int .i64 zs] w fun e w' => e = .returned (.bool true) ∧ Below w.heap.size w w' := by
  have Hs := Lib.hid hs
  obtain ⟨n, hn⟩ : ∃ n, n = cs.length := ⟨_, rfl⟩
  rw [← hn]
  have Hn := Lib.hid hn
  have hn2 : n ≤ 9223372036854775807 := by omega
  have hb1 := ext_alloc w (.cells #[.int .i64 cap, .slice a n c] 24)
  have hT : TapeAt (w.alloc (.cells #[.int .i64 cap, .slice a n c] 24)) w.heap.size ⟨cap, pls cs⟩ a n c cs := ⟨heap_alloc_new w _, hs.ext hb1, hn, rfl, by omega⟩
  have hb2 := ext_alloc (w.alloc (.cells #[.int .i64 cap, .slice a n c] 24)) (.cells #[.int .i64 v, .int .i64 p, .int .i64 e] 26)
  have hzU := heap_alloc_new (w.alloc (.cells #[.int .i64 cap, .slice a n c] 24)) (.cells #[.int .i64 v, .int .i64 p, .int .i64 e] 26)
  rw [World.size_alloc] at hzU
  have HB := Lib.hid (bthen hb1 hb2 (Nat.le_refl _))
  have T := Lib.hid (hT.ext hb2)
  have HU := Lib.hid hzU
  obtain ⟨ks, hks, es⟩ := umod zs 225 (by decide) (by decide)
  obtain ⟨sz, hsz⟩ : ∃ n, n = 32 + ks := ⟨_, rfl⟩
  have hw1 : IntKind.i64.wrap (32 + (ks : Int)) = (sz : Int) := by rw [IntKind.wrap_i64]; omega
  have hszb : 32 ≤ sz ∧ sz ≤ 256 := by omega
  clear hsz hs hl hn hlc ws hT hb1 hb2 hzU
  obtain ⟨y0, y1⟩ := T.out.box.cells
  dsimp only at y0 y1
  go_enter Try.func3, Try.ntmps3
  by_cases h60 : 60 < n
  · have h60' : 60 < n := h60
    go_wp2
    go_ret
    exact ⟨rfl, HB.out⟩
  have h60' : ¬ 60 < n := h60
  go_wp2_with fail
  generalize (w.alloc (.cells #[.int .i64 cap, .slice a n c] 24)).alloc (.cells #[.int .i64 v, .int .i64 p, .int .i64 e] 26) = w2 at *
  go_loopw [7] (fun iv wr => ∃ (k : Nat), w2 = wr ∧ k ≤ n ∧ iv = .int .i64 (k : Int) ∧ ∀ (j : Nat) (h : j < cs.length), j < k → cs[j].d.l.length ≤ 300) (fun iv _ => n - (intOf iv).toNat)
  case atStart => exact ⟨0, rfl, by omega, rfl, fun j _ h => by omega⟩
  case round =>
    obtain ⟨k, hwx, hk, rfl, hall⟩ := hrel
    subst hwx
    have Hall := Lib.hid hall
    clear hall
    by_cases hkn : k < n
    · have hkl : k < cs.length := by rw [← Hn.out]; exact hkn
      obtain ⟨x, o, da, dc, rfl, hlx, q0, q1, q2, _⟩ := T.out.cell (j := k) (y := cs[k].pl) (pls_get hkl)
      obtain ⟨D, hD⟩ : ∃ D, D = cs[k].d.l.length := ⟨_, rfl⟩
      have q1' : w2.cell? ⟨x, o + k * 3 + 1, none⟩ = some (.slice da D dc) := by rw [hD]; exact q1
      have HD := Lib.hid hD
      clear q0 q1 q2 hD
      by_cases h300 : 300 < D
      · have g300 : 300 < D := h300
        go_wp2
        go_ret
        exact ⟨rfl, HB.out⟩
      · have g300 : ¬ 300 < D := h300
        go_wp2_with fail
        go_roundw
        case rel =>
          refine ⟨k + 1, trivial, by omega, by go_num, fun j hj hjk => ?_⟩
          by_cases hjk2 : j < k
          · exact Hall.out j hj hjk2
          · obtain rfl : j = k := by omega
            rw [← HD.out]; omega
        case measure => simp [intOf]; omega
    · obtain rfl : n = k := by omega
      have Hx : Hid (∀ x ∈ cs, x.d.l.length ≤ 140737488355328) := Lib.hid fun x hx => by
        obtain ⟨j, hj, rfl⟩ := List.mem_iff_getElem.1 hx
        have := Hall.out j hj (by have := Hn.out; omega)
        omega
      clear Hall hk hkn
      go_wp2_with fail
      refine (power_new w2).mono ?_
      rintro r w3 ⟨g, rfl, hp3, hb3⟩
      have HP := Lib.hid hp3
      have HBw := Lib.hid hb3
      have HB3 := Lib.hid (bthen HB.out hb3 (Nat.le_refl _))
      have T3 := Lib.hid (T.out.ext hb3)
      have HU3 := Lib.hid ((hb3.block _ (heap_lt HU.out)).trans HU.out)
      have TB := T
      have HUB := HU
      have HB0 := HB
      clear hp3 hb3 HB T HU y0 y1
      obtain ⟨y0, y1⟩ := T3.out.box.cells
      dsimp only at y0 y1
      go_wp2_with fail
      cases hok : (medOf cap cs).ok with
      | false =>
        refine (drv_new_bad (g := g) cap a c n cs w3 T3.out.mat Hn.out (by omega) hok).mono ?_
        rintro r w4 ⟨rfl, hb4⟩
        have HB4 := Lib.hid (bthen HB3.out hb4 (Nat.le_refl _))
        clear hb4 hok y0 y1
        go_wp2_with fail
        refine (wakes16_any w4).mono ?_
        rintro r w5 ⟨rfl, hb5⟩
        have HB5 := bthen HB4.out hb5 (Nat.le_refl _)
        clear hb5
        go_wp2
        go_ret
        exact ⟨rfl, HB5⟩
      | true =>
      have Hok : Hid ((⟨cap, pls cs⟩ : Med).ok = true) := Lib.hid hok
      have HG0 : Hid (DGood (⟨cap, pls cs⟩ : Med) 0) := Lib.hid ⟨hok, 0, rfl, Nat.zero_le _⟩
      have hcb : 1 ≤ cap ∧ cap ≤ 400 := by have := (Med.ok_iff.1 hok).1; exact ⟨this.1, this.2.1⟩
      refine (drv_new (g := g) cap a c n cs w3 T3.out.mat Hn.out (by omega) Hx.out hok).mono ?_
      clear hok
      rintro r w4 ⟨d, a4, c4, cs4, rfl, h4, hb4⟩
      have HD : Hid (DrvP w2.heap.size AllK w4 d g ⟨cap, pls cs⟩ 0 PS.new) := Lib.hid ⟨⟨_, _, _, _, h4.mono HBw.out.size fun _ _ _ => trivial⟩, HP.out.ext hb4⟩
      have HBv := Lib.hid (bthen HBw.out hb4 (Nat.le_refl _))
      have T4 := Lib.hid (T3.out.ext hb4)
      have HU4 := Lib.hid ((hb4.block _ (heap_lt HU3.out)).trans HU3.out)
      have HB4 := Lib.hid (bthen HB3.out hb4 (Nat.le_refl _))
      clear h4 hb4 HP HBw T3 HU3 HB3 y0 y1
      go_wp2_with fail
      refine (vol_new (d := d) (sz : Int) w4 (by omega)).mono ?_
      rintro r w5 ⟨vb, rfl, hv5, hb5⟩
      have HV5 := Lib.hid hv5
      have HD5 := Lib.hid (HD.out.ext hb5)
      have HBv5 := Lib.hid (bthen HBv.out hb5 (Nat.le_refl _))
      have T5 := Lib.hid (T4.out.ext hb5)
      have HU5 := Lib.hid ((hb5.block _ (heap_lt HU4.out)).trans HU4.out)
      have HB5 := Lib.hid (bthen HB4.out hb5 (Nat.le_refl _))
      clear hv5 hb5 HD HBv T4 HU4 HB4
      have u0 := cell_of_row _ (w.heap.size + 1) 0 _ _ _ HU5.out
      have u1 := cell_of_row _ (w.heap.size + 1) 1 _ _ _ HU5.out
      have u2 := cell_of_row _ (w.heap.size + 1) 2 _ _ _ HU5.out
      go_wp2_with fail
      clear u0 u1 u2
      have HG := HG0
      cases hlk : okL v p e with
      | false =>
        have HFM : Hid (vFormat PS.new (⟨cap, pls cs⟩ : Med) 0 v p e = (1, PS.new, ⟨cap, pls cs⟩, 0)) := Lib.hid (by unfold vFormat; rw [if_neg (by decide), if_pos hlk])
        have Hlk := Lib.hid hlk
        have HGM := HG0
        clear hlk
        obtain ⟨⟨Vx, Px, Ex, Rx, ax⟩, hlb⟩ : ∃ y, y = vLabel PS.new (⟨cap, pls cs⟩ : Med) 0 := ⟨_, rfl⟩
        have HLB := Lib.hid hlb.symm
        clear hlb
        refine (vol_format v p e 1 0 PS.new (⟨cap, pls cs⟩ : Med) w5 HV5.out HD5.out (Up.all HBv5.out.size) Hok.out HFM.out).mono ?_
        rintro r w6 ⟨rfl, hd6, hm6⟩
        have HD6 := Lib.hid hd6
        have HV6 := Lib.hid (HV5.out.vf hm6)
        have HBm := hm6.below (fun b T h => h.1) HBv5.out.size
        have HBv6 := Lib.hid (HBv5.out.trans HBm)
        clear hd6 hm6 HBm HD5 HV5 HBv5 HFM
        go_wp2_with fail
        refine (vol_label Vx Px Ex Rx ax w6 HV6.out HD6.out HBv6.out.size HGM.out.ok HLB.out).mono ?_
        rintro r w7 ⟨rfl, hd7, hm7⟩
        unfold labV
        have HD7 := Lib.hid hd7
        have HV7 := Lib.hid (HV6.out.vf hm7)
        have HBv7 := Lib.hid (HBv6.out.trans (hm7.below (fun b T h => h.1) HBv6.out.size))
        clear hd7 hm7 HD6 HV6 HBv6
        have hb8 := below_put w7 Vx Px Ex
        have hL8 := LabAt.put w7 Vx Px Ex
        have hz7 := heap_alloc_new w7 (.cells #[.int .i64 0, .int .i64 0, .int .i64 0] 26)
        have HD := Lib.hid (HD7.out.ext hb8)
        have HV := Lib.hid (HV7.out.ext hb8)
        have HBv8 := bthen HBv7.out hb8 (Nat.le_refl _)
        rcases okL_six Hlk.out with h1 | ⟨h1, h2⟩ | ⟨h1, h2, h3⟩ | ⟨h1, h2, h3, h4⟩ | ⟨h1, h2, h3, h4, h5⟩ | ⟨h1, h2, h3, h4, h5, h6⟩
        all_goals (
          first | have f1 : decide (v < 0) = true := by simpa using h1 | have f1 : decide (v < 0) = false := by simpa using h1
          try first | have f2 : decide (v ≥ 8) = true := by simpa using h2 | have f2 : decide (v ≥ 8) = false := by simpa using h2
          try first | have f3 : decide (p < 0) = true := by simpa using h3 | have f3 : decide (p < 0) = false := by simpa using h3
          try first | have f4 : decide (p > 1) = true := by simpa using h4 | have f4 : decide (p > 1) = false := by simpa using h4
          try first | have f5 : decide (e < 0) = true := by simpa using h5 | have f5 : decide (e < 0) = false := by simpa using h5
          try have f6 : decide (e > 1048576) = true := by simpa using h6
          go_wp2_with (refine wpList_store_row rfl rfl 26 (.tmp 12) (.tmp 82) rfl w7.heap.size rfl 26 #[.int .i64 0, .int .i64 0, .int .i64 0] #[.int .i64 Vx, .int .i64 Px, .int .i64 Ex] rfl hz7 rfl (by kernel_rfl) (by simp [Value.oneCell']) ?_
                       clear hz7
                       generalize (w7.alloc (.cells #[.int .i64 0, .int .i64 0, .int .i64 0] 26)).setRow w7.heap.size #[.int .i64 Vx, .int .i64 Px, .int .i64 Ex] = wY at *
                       generalize w7.heap.size = GZ at *
                       have hzu := (HBv8.block _ (heap_lt HUB.out)).trans HUB.out
                       have u0 := cell_of_row wY (w.heap.size + 1) 0 _ _ _ hzu
                       have u1 := cell_of_row wY (w.heap.size + 1) 1 _ _ _ hzu
                       have u2 := cell_of_row wY (w.heap.size + 1) 2 _ _ _ hzu
                       have hzt := (HBv8.block _ (heap_lt TB.out.box)).trans TB.out.box
                       have y0 := cell_of_row wY w.heap.size 0 _ _ _ hzt
                       have y1 := cell_of_row wY w.heap.size 1 _ _ _ hzt)
          have hlT := heap_lt hzt
          have T := Lib.hid (TB.out.ext HBv8)
          have HBY := Lib.hid (bthen HB0.out HBv8 (Nat.le_refl _))
          clear hzu hzt
          go_wp2_with fail
          refine wp_region_phase (by kernel_rfl) [] (by kernel_rfl) (by kernel_rfl) ?_
          refine stage_last [Sp.eq (.int .i64 1), Sp.eq (.bool true), Sp.eq (.bool true), Sp.eq (.pointer (some ⟨d, 0, none⟩)), Sp.eq (.pointer (some ⟨d, 0, none⟩)), Sp.eq (.pointer (some ⟨d, 0, none⟩)), ⟨AnsM wY.heap.size (⟨cap, pls cs⟩ : Med), fun _ _ _ ⟨a, k, c, cs, e, h, hk⟩ hb => ⟨a, k, c, cs, e, h.ext hb, hk⟩⟩, Sp.eq (.agg #[.int .i64 cap, .slice a n c]), Sp.eq (.bool true), Sp.eq (.bool true), Sp.eq (.bool true), Sp.eq (.bool true), Sp.eq (.bool true), Sp.eq (.bool true)] ?_ ?_
          · refine stepsG_cons ?_ (stepsG_cons ?_ (stepsG_cons ?_ (stepsG_cons ?_ (stepsG_cons ?_ (stepsG_cons ?_ (stepsG_cons ?_ (stepsG_cons ?_ (stepsG_cons ?_ (stepsG_cons ?_ (stepsG_cons ?_ (stepsG_cons ?_ (stepsG_cons ?_ (stepsG_cons ?_ (stepsG_nil))))))))))))))
            · intro ρ w' E
              have e10 : ρ (.tmp 10) = .int .i64 1 := E.out 10 rfl
              refine step_plain rfl ?_
              exact op_move (.inl rfl) e10 ⟨Below.refl _ _, rfl⟩
            · intro ρ w' E
              have e113 : ρ (.tmp 113) = .int .i64 1 := E.pre 0 rfl rfl
              refine step_plain rfl ?_
              refine op_val (v := .bool true) (w' := w') ?_ ⟨Below.refl _ _, rfl⟩
              have hcon := E.con
              clear E
              go_simp
            · intro ρ w' E
              have e114 : ρ (.tmp 114) = .bool true := E.pre 1 rfl rfl
              refine step_plain rfl ?_
              exact op_move (.inl rfl) e114 ⟨Below.refl _ _, rfl⟩
            · intro ρ w' E
              have e9 : ρ (.tmp 9) = .pointer (some ⟨d, 0, none⟩) := E.out 9 rfl
              refine step_yes rfl (E.pre 2 rfl rfl) ?_
              exact op_move (.inl rfl) e9 ⟨Below.refl _ _, rfl⟩
            · intro ρ w' E
              have e116 : ρ (.tmp 116) = .pointer (some ⟨d, 0, none⟩) := E.pre 3 rfl rfl
              refine step_yes rfl (E.pre 2 rfl rfl) ?_
              refine op_val (v := .pointer (some ⟨d, 0, none⟩)) (w' := w') ?_ ⟨Below.refl _ _, rfl⟩
              have hcon := E.con
              clear E
              go_simp
            · intro ρ w' E
              have e117 : ρ (.tmp 117) = .pointer (some ⟨d, 0, none⟩) := E.pre 4 rfl rfl
              refine step_yes rfl (E.pre 2 rfl rfl) ?_
              refine op_val (v := .pointer (some ⟨d, 0, none⟩)) (w' := w') ?_ ⟨Below.refl _ _, rfl⟩
              have hcon := E.con
              clear E
              go_simp
            · intro ρ w' E
              have e118 : ρ (.tmp 118) = .pointer (some ⟨d, 0, none⟩) := E.pre 5 rfl rfl
              refine step_yes rfl (E.pre 2 rfl rfl) ?_
              refine op_call (f := 16) (args := #[.pointer (some ⟨d, 0, none⟩)]) (w' := w') (by have hcon := E.con; have hfn := E.fn; clear E; go_simp) ?_
              refine (drv_mediumP w' (HD.out.ext E.below) (Nat.le_trans HG.out.len (by decide)) HG.out.short).mono ?_
              rintro e w2 ⟨aX, cX, csX, kX, rfl, hMX, hcX, hb⟩
              exact ⟨_, rfl, hb, aX, kX, cX, csX, rfl, hMX.mono E.below.size, hcX⟩
            · intro ρ w' E
              have e3 : ρ (.tmp 3) = .pointer (some ⟨w.heap.size, 0, none⟩) := E.out 3 rfl
              refine step_yes rfl (E.pre 2 rfl rfl) ?_
              refine op_val (v := .agg #[.int .i64 cap, .slice a n c]) (w' := w') ?_ ⟨Below.refl _ _, rfl⟩
              have k0 := (World.cell?_of_block (w := wY) (E.below.block _ hlT)).trans y0
              have k1 := (World.cell?_of_block (w := wY) (E.below.block _ hlT)).trans y1
              have hcon := E.con
              clear E y0 y1
              go_simp
            · intro ρ w' E
              have p119 : (AnsM wY.heap.size (⟨cap, pls cs⟩ : Med)) w' (ρ (.tmp 119)) := E.pre 6 rfl rfl
              have e120 : ρ (.tmp 120) = .agg #[.int .i64 cap, .slice a n c] := E.pre 7 rfl rfl
              refine step_yes rfl (E.pre 2 rfl rfl) ?_
              obtain ⟨aX, kX, cX, csX, e5, hMX, hcX⟩ := p119
              refine op_call (f := 15) (args := #[.agg #[.int .i64 cap, .slice aX kX cX], .agg #[.int .i64 cap, .slice a n c]]) (w' := w') (by have hcon := E.con; have hfn := E.fn; clear E y0 y1; go_simp) ?_
              refine (keepmed_any cap cap aX a cX kX c n csX cs true w' hMX.mat (T.out.ext E.below).mat hMX.len.symm Hn.out hMX.len63 hn2 (by rw [hMX.pls]; simp)).mono ?_
              rintro e w2 ⟨rfl, hb⟩
              exact ⟨_, rfl, hb, rfl⟩
            · intro ρ w' E
              have e115 : ρ (.tmp 115) = .bool true := E.pre 2 rfl rfl
              have e121 : ρ (.tmp 121) = .bool true := E.pre 8 rfl rfl
              refine step_plain rfl ?_
              exact op_pick (b := true) rfl e115 rfl ⟨Below.refl _ _, e121⟩
            · intro ρ w' E
              have e122 : ρ (.tmp 122) = .bool true := E.pre 9 rfl rfl
              refine step_plain rfl ?_
              exact op_move (.inl rfl) e122 ⟨Below.refl _ _, rfl⟩
            · intro ρ w' E
              refine step_yes rfl (E.pre 10 rfl rfl) ?_
              refine op_call (f := 11) (args := #[]) (w' := w') (by have hcon := E.con; have hfn := E.fn; clear E; go_simp) ?_
              refine (wakes16_any w').mono ?_
              rintro e w2 ⟨rfl, hb⟩
              exact ⟨_, rfl, hb, rfl⟩
            · intro ρ w' E
              have e123 : ρ (.tmp 123) = .bool true := E.pre 10 rfl rfl
              have e124 : ρ (.tmp 124) = .bool true := E.pre 11 rfl rfl
              refine step_plain rfl ?_
              exact op_pick (b := true) rfl e123 rfl ⟨Below.refl _ _, e124⟩
            · intro ρ w' E
              have e125 : ρ (.tmp 125) = .bool true := E.pre 12 rfl rfl
              refine step_plain rfl ?_
              exact op_move (.inr rfl) e125 ⟨Below.refl _ _, rfl⟩
          · intro σF wF GF OF HF
            have s6 : σF 6 = .bool true := HF 13 rfl rfl
            clear OF
            simp only [upd, updL, dstsOf', elemB, List.filterMap_cons, List.filterMap_nil, Nat.reduceAdd, Nat.reduceBEq, Bool.or_false, Bool.false_or, Bool.or_true, Bool.true_or, cond_true, cond_false, Nat.zero_add, s6]
            have HBF := bthen HBY.out GF (Nat.le_refl _)
            clear GF
            go_wp2
            go_ret
            exact ⟨rfl, HBF⟩)
      | true =>
        have hk := okL_iff.1 hlk
        have f1 : decide (v < 0) = false := by simp; omega
        have f2 : decide (v ≥ 8) = false := by simp; omega
        have f3 : decide (p < 0) = false := by simp; omega
        have f4 : decide (p > 1) = false := by simp; omega
        have f5 : decide (e < 0) = false := by simp; omega
        have f6 : decide (e > 1048576) = false := by simp; omega
        by_cases hc2 : cap < 2
        · have hc1 : cap = 1 := by omega
          have HFM : Hid (vFormat PS.new (⟨cap, pls cs⟩ : Med) 0 v p e = (7, PS.new, ⟨1, [blkC (lbytes v p e)]⟩, 1)) := Lib.hid (vFormat_one hc1 hlk)
          have HLB : Hid (vLabel PS.new ⟨1, [blkC (lbytes v p e)]⟩ 1 = (0, 0, 0, 13, 1)) := Lib.hid (vLabel_one hlk)
          have HGM : Hid (DGood (⟨1, [blkC (lbytes v p e)]⟩ : Med) 0) := Lib.hid ⟨Med.ok_iff.2 ⟨⟨show (1 : Int) ≤ 1 by decide, show (1 : Int) ≤ 400 by decide, show (1 : Int) ≤ 1 by decide⟩, fun x hx => by rw [List.mem_singleton.1 hx]; exact blkC_right (lab_ok v p e)⟩, 0, rfl, Nat.zero_le _⟩
          have f7 : decide (cap < 2) = true := by simpa using hc2
          clear hk hlk hc1
          refine (vol_format v p e 7 1 PS.new ⟨1, [blkC (lbytes v p e)]⟩ w5 HV5.out HD5.out (Up.all HBv5.out.size) Hok.out HFM.out).mono ?_
          rintro r w6 ⟨rfl, hd6, hm6⟩
          have HD6 := Lib.hid hd6
          have HV6 := Lib.hid (HV5.out.vf hm6)
          have HBm := hm6.below (fun b T h => h.1) HBv5.out.size
          have HBv6 := Lib.hid (HBv5.out.trans HBm)
          clear hd6 hm6 HBm HD5 HV5 HBv5 HFM
          go_wp2_with fail
          refine (vol_label 0 0 0 13 1 w6 HV6.out HD6.out HBv6.out.size HGM.out.ok HLB.out).mono ?_
          rintro r w7 ⟨rfl, hd7, hm7⟩
          unfold labV
          have HD7 := Lib.hid hd7
          have HV7 := Lib.hid (HV6.out.vf hm7)
          have HBv7 := Lib.hid (HBv6.out.trans (hm7.below (fun b T h => h.1) HBv6.out.size))
          clear hd7 hm7 HD6 HV6 HBv6
          have hb8 := below_put w7 0 0 0
          have hL8 := LabAt.put w7 0 0 0
          have hz7 := heap_alloc_new w7 (.cells #[.int .i64 0, .int .i64 0, .int .i64 0] 26)
          have HD := Lib.hid (HD7.out.ext hb8)
          have HV := Lib.hid (HV7.out.ext hb8)
          have HBv8 := bthen HBv7.out hb8 (Nat.le_refl _)
          go_wp2_with (refine wpList_store_row rfl rfl 26 (.tmp 12) (.tmp 82) rfl w7.heap.size rfl 26 #[.int .i64 0, .int .i64 0, .int .i64 0] #[.int .i64 0, .int .i64 0, .int .i64 0] rfl hz7 rfl (by kernel_rfl) (by simp [Value.oneCell']) ?_
                       clear hz7
                       generalize (w7.alloc (.cells #[.int .i64 0, .int .i64 0, .int .i64 0] 26)).setRow w7.heap.size #[.int .i64 0, .int .i64 0, .int .i64 0] = wY at *
                       generalize w7.heap.size = GZ at *
                       have hzu := (HBv8.block _ (heap_lt HUB.out)).trans HUB.out
                       have u0 := cell_of_row wY (w.heap.size + 1) 0 _ _ _ hzu
                       have u1 := cell_of_row wY (w.heap.size + 1) 1 _ _ _ hzu
                       have u2 := cell_of_row wY (w.heap.size + 1) 2 _ _ _ hzu
                       have hzt := (HBv8.block _ (heap_lt TB.out.box)).trans TB.out.box
                       have y0 := cell_of_row wY w.heap.size 0 _ _ _ hzt
                       have y1 := cell_of_row wY w.heap.size 1 _ _ _ hzt)
          have HBY := Lib.hid (bthen HB0.out HBv8 (Nat.le_refl _))
          clear hzu hzt HBv8
          refine (wakes16_any wY).mono ?_
          rintro r w9 ⟨rfl, hb9⟩
          have HB9 := bthen HBY.out hb9 (Nat.le_refl _)
          clear hb9
          go_wp2
          go_ret
          exact ⟨rfl, HB9⟩
        · have f7 : decide (cap < 2) = false := by simpa using hc2
          have HFM : Hid (vFormat PS.new (⟨cap, pls cs⟩ : Med) 0 v p e = (0, PS.new, volT cap (lbytes v p e) [], 2)) := Lib.hid (vFormat_ok (M := ⟨cap, pls cs⟩) (show 2 ≤ cap by omega) hlk (lab_ok v p e))
          have HLB : Hid (vLabel PS.new (volT cap (lbytes v p e) []) 2 = (v, p, e, 0, 1 + 1)) := Lib.hid (vLabel_vol hlk)
          have HOK : Hid (VolOk cap (lbytes v p e) []) := Lib.hid (volOk_new (by omega))
          have HGM : Hid (DGood (volT cap (lbytes v p e) []) 0) := Lib.hid HOK.out.good
          have HRM : Hid (roomP (volT cap (lbytes v p e) []) 0 = cap - 2) := Lib.hid (roomP_vol cap (lbytes v p e) [] 0 (Nat.le_refl _))
          have hwc : IntKind.i64.wrap (cap - 2) = cap - 2 := by rw [IntKind.wrap_i64]; omega
          clear hk hlk
          refine (vol_format v p e 0 2 PS.new (volT cap (lbytes v p e) []) w5 HV5.out HD5.out (Up.all HBv5.out.size) Hok.out HFM.out).mono ?_
          rintro r w6 ⟨rfl, hd6, hm6⟩
          have HD6 := Lib.hid hd6
          have HV6 := Lib.hid (HV5.out.vf hm6)
          have HBm := hm6.below (fun b T h => h.1) HBv5.out.size
          have HBv6 := Lib.hid (HBv5.out.trans HBm)
          clear hd6 hm6 HBm HD5 HV5 HBv5 HFM
          go_wp2_with fail
          refine (vol_label v p e 0 (1 + 1) w6 HV6.out HD6.out HBv6.out.size HGM.out.ok HLB.out).mono ?_
          rintro r w7 ⟨rfl, hd7, hm7⟩
          unfold labV
          have HD7 := Lib.hid hd7
          have HV7 := Lib.hid (HV6.out.vf hm7)
          have HBv7 := Lib.hid (HBv6.out.trans (hm7.below (fun b T h => h.1) HBv6.out.size))
          clear hd7 hm7 HD6 HV6 HBv6
          have hb8 := below_put w7 v p e
          have hL8 := LabAt.put w7 v p e
          have hz7 := heap_alloc_new w7 (.cells #[.int .i64 0, .int .i64 0, .int .i64 0] 26)
          have HD := Lib.hid (HD7.out.ext hb8)
          have HV := Lib.hid (HV7.out.ext hb8)
          have HBv8 := bthen HBv7.out hb8 (Nat.le_refl _)
          go_wp2_with (refine wpList_store_row rfl rfl 26 (.tmp 12) (.tmp 82) rfl w7.heap.size rfl 26 #[.int .i64 0, .int .i64 0, .int .i64 0] #[.int .i64 v, .int .i64 p, .int .i64 e] rfl hz7 rfl (by kernel_rfl) (by simp [Value.oneCell']) ?_
                       clear hz7
                       generalize (w7.alloc (.cells #[.int .i64 0, .int .i64 0, .int .i64 0] 26)).setRow w7.heap.size #[.int .i64 v, .int .i64 p, .int .i64 e] = wY at *
                       generalize w7.heap.size = GZ at *
                       have hzu := (HBv8.block _ (heap_lt HUB.out)).trans HUB.out
                       have u0 := cell_of_row wY (w.heap.size + 1) 0 _ _ _ hzu
                       have u1 := cell_of_row wY (w.heap.size + 1) 1 _ _ _ hzu
                       have u2 := cell_of_row wY (w.heap.size + 1) 2 _ _ _ hzu
                       have hzt := (HBv8.block _ (heap_lt TB.out.box)).trans TB.out.box
                       have y0 := cell_of_row wY w.heap.size 0 _ _ _ hzt
                       have y1 := cell_of_row wY w.heap.size 1 _ _ _ hzt)
          have HBY := Lib.hid (bthen HB0.out HBv8 (Nat.le_refl _))
          have z0 := cell_of_row wY GZ 0 _ _ _ hL8
          have z1 := cell_of_row wY GZ 1 _ _ _ hL8
          have z2 := cell_of_row wY GZ 2 _ _ _ hL8
          have hlT := heap_lt hzt
          have hlU := heap_lt hzu
          have hlZ := heap_lt hL8
          have HG := HGM
          clear hzu hzt hb8
          go_wp2_with fail
          refine wp_region_phase (by kernel_rfl) [] (by kernel_rfl) (by kernel_rfl) ?_
          refine stage_last [Sp.eq (.int .i64 0), Sp.eq (.bool true), Sp.eq (.bool true), Sp.eq (.int .i64 0), Sp.eq (.bool true), Sp.eq (.bool true), Sp.eq (.bool true), Sp.eq (.agg #[.int .i64 v, .int .i64 p, .int .i64 e]), Sp.eq (.agg #[.int .i64 v, .int .i64 p, .int .i64 e]), Sp.eq (.bool true), Sp.eq (.bool true), Sp.eq (.bool true), Sp.eq (.pointer (some ⟨vb, 0, none⟩)), Sp.eq (.int .i64 0), Sp.eq (.bool true), Sp.eq (.bool true), Sp.eq (.bool true), Sp.eq (.pointer (some ⟨d, 0, none⟩)), Sp.eq (.pointer (some ⟨d, 0, none⟩)), Sp.eq (.pointer (some ⟨d, 0, none⟩)), ⟨AnsM wY.heap.size (volT cap (lbytes v p e) []), fun _ _ _ ⟨a, k, c, cs, e, h, hk⟩ hb => ⟨a, k, c, cs, e, h.ext hb, hk⟩⟩, ⟨fun w v => ∃ a c, v = .slice a 2 c, fun _ _ _ h _ => h⟩, Sp.eq (.int .i64 2), Sp.eq (.bool true), Sp.eq (.bool true), Sp.eq (.bool true), Sp.eq (.pointer (some ⟨vb, 0, none⟩)), Sp.eq (.int .i64 (cap - 2)), Sp.eq (.pointer (some ⟨w.heap.size, 0, none⟩)), Sp.eq (.int .i64 cap), Sp.eq (.int .i64 (cap - 2)), Sp.eq (.bool true), Sp.eq (.bool true), Sp.eq (.bool true), Sp.eq (.bool true), Sp.eq (.bool true), Sp.eq (.bool true)] ?_ ?_
          · refine stepsG_cons ?_ (stepsG_cons ?_ (stepsG_cons ?_ (stepsG_cons ?_ (stepsG_cons ?_ (stepsG_cons ?_ (stepsG_cons ?_ (stepsG_cons ?_ (stepsG_cons ?_ (stepsG_cons ?_ (stepsG_cons ?_ (stepsG_cons ?_ (stepsG_cons ?_ (stepsG_cons ?_ (stepsG_cons ?_ (stepsG_cons ?_ (stepsG_cons ?_ (stepsG_cons ?_ (stepsG_cons ?_ (stepsG_cons ?_ (stepsG_cons ?_ (stepsG_cons ?_ (stepsG_cons ?_ (stepsG_cons ?_ (stepsG_cons ?_ (stepsG_cons ?_ (stepsG_cons ?_ (stepsG_cons ?_ (stepsG_cons ?_ (stepsG_cons ?_ (stepsG_cons ?_ (stepsG_cons ?_ (stepsG_cons ?_ (stepsG_cons ?_ (stepsG_cons ?_ (stepsG_cons ?_ (stepsG_cons ?_ (stepsG_nil)))))))))))))))))))))))))))))))))))))
            · intro ρ w' E
              have e10 : ρ (.tmp 10) = .int .i64 0 := E.out 10 rfl
              refine step_plain rfl ?_
              exact op_move (.inl rfl) e10 ⟨Below.refl _ _, rfl⟩
            · intro ρ w' E
              have e139 : ρ (.tmp 139) = .int .i64 0 := E.pre 0 rfl rfl
              refine step_plain rfl ?_
              refine op_val (v := .bool true) (w' := w') ?_ ⟨Below.refl _ _, rfl⟩
              have hcon := E.con
              clear E
              go_simp
            · intro ρ w' E
              have e140 : ρ (.tmp 140) = .bool true := E.pre 1 rfl rfl
              refine step_plain rfl ?_
              exact op_move (.inl rfl) e140 ⟨Below.refl _ _, rfl⟩
            · intro ρ w' E
              have e13 : ρ (.tmp 13) = .int .i64 0 := E.out 13 rfl
              refine step_yes rfl (E.pre 2 rfl rfl) ?_
              exact op_move (.inl rfl) e13 ⟨Below.refl _ _, rfl⟩
            · intro ρ w' E
              have e142 : ρ (.tmp 142) = .int .i64 0 := E.pre 3 rfl rfl
              refine step_yes rfl (E.pre 2 rfl rfl) ?_
              refine op_val (v := .bool true) (w' := w') ?_ ⟨Below.refl _ _, rfl⟩
              have hcon := E.con
              clear E
              go_simp
            · intro ρ w' E
              have e141 : ρ (.tmp 141) = .bool true := E.pre 2 rfl rfl
              have e143 : ρ (.tmp 143) = .bool true := E.pre 4 rfl rfl
              refine step_plain rfl ?_
              exact op_pick (b := true) rfl e141 rfl ⟨Below.refl _ _, e143⟩
            · intro ρ w' E
              have e144 : ρ (.tmp 144) = .bool true := E.pre 5 rfl rfl
              refine step_plain rfl ?_
              exact op_move (.inl rfl) e144 ⟨Below.refl _ _, rfl⟩
            · intro ρ w' E
              have e12 : ρ (.tmp 12) = .pointer (some ⟨GZ, 0, none⟩) := E.out 12 rfl
              refine step_yes rfl (E.pre 6 rfl rfl) ?_
              refine op_val (v := .agg #[.int .i64 v, .int .i64 p, .int .i64 e]) (w' := w') ?_ ⟨Below.refl _ _, rfl⟩
              have k0 := (World.cell?_of_block (w := wY) (E.below.block _ hlZ)).trans z0
              have k1 := (World.cell?_of_block (w := wY) (E.below.block _ hlZ)).trans z1
              have k2 := (World.cell?_of_block (w := wY) (E.below.block _ hlZ)).trans z2
              have hcon := E.con
              clear E z0 z1 z2 u0 u1 u2 y0 y1
              go_simp
            · intro ρ w' E
              have e4 : ρ (.tmp 4) = .pointer (some ⟨(w.heap.size + 1), 0, none⟩) := E.out 4 rfl
              refine step_yes rfl (E.pre 6 rfl rfl) ?_
              refine op_val (v := .agg #[.int .i64 v, .int .i64 p, .int .i64 e]) (w' := w') ?_ ⟨Below.refl _ _, rfl⟩
              have k0 := (World.cell?_of_block (w := wY) (E.below.block _ hlU)).trans u0
              have k1 := (World.cell?_of_block (w := wY) (E.below.block _ hlU)).trans u1
              have k2 := (World.cell?_of_block (w := wY) (E.below.block _ hlU)).trans u2
              have hcon := E.con
              clear E z0 z1 z2 u0 u1 u2 y0 y1
              go_simp
            · intro ρ w' E
              have e146 : ρ (.tmp 146) = .agg #[.int .i64 v, .int .i64 p, .int .i64 e] := E.pre 7 rfl rfl
              have e147 : ρ (.tmp 147) = .agg #[.int .i64 v, .int .i64 p, .int .i64 e] := E.pre 8 rfl rfl
              refine step_yes rfl (E.pre 6 rfl rfl) ?_
              refine op_call (f := 17) (args := #[.agg #[.int .i64 v, .int .i64 p, .int .i64 e], .agg #[.int .i64 v, .int .i64 p, .int .i64 e]]) (w' := w') (by have hcon := E.con; have hfn := E.fn; clear E; go_simp) ?_
              refine (keeplabel_at v p e v p e true w' (by simp)).mono ?_
              rintro r w2 ⟨rfl, hb⟩
              exact ⟨_, rfl, hb, rfl⟩
            · intro ρ w' E
              have e145 : ρ (.tmp 145) = .bool true := E.pre 6 rfl rfl
              have e148 : ρ (.tmp 148) = .bool true := E.pre 9 rfl rfl
              refine step_plain rfl ?_
              exact op_pick (b := true) rfl e145 rfl ⟨Below.refl _ _, e148⟩
            · intro ρ w' E
              have e149 : ρ (.tmp 149) = .bool true := E.pre 10 rfl rfl
              refine step_plain rfl ?_
              exact op_move (.inl rfl) e149 ⟨Below.refl _ _, rfl⟩
            · intro ρ w' E
              have e11 : ρ (.tmp 11) = .pointer (some ⟨vb, 0, none⟩) := E.out 11 rfl
              refine step_yes rfl (E.pre 11 rfl rfl) ?_
              exact op_move (.inl rfl) e11 ⟨Below.refl _ _, rfl⟩
            · intro ρ w' E
              have e151 : ρ (.tmp 151) = .pointer (some ⟨vb, 0, none⟩) := E.pre 12 rfl rfl
              refine step_yes rfl (E.pre 11 rfl rfl) ?_
              refine op_call (f := 18) (args := #[.pointer (some ⟨vb, 0, none⟩)]) (w' := w') (by have hcon := E.con; have hfn := E.fn; clear E; go_simp) ?_
              refine (vol_files 0 w' (HV.out.ext E.below) (HD.out.ext E.below) HOK.out.ok HOK.out.files).mono ?_
              rintro e w2 ⟨rfl, hb⟩
              exact ⟨_, rfl, hb, rfl⟩
            · intro ρ w' E
              have e152 : ρ (.tmp 152) = .int .i64 0 := E.pre 13 rfl rfl
              refine step_yes rfl (E.pre 11 rfl rfl) ?_
              refine op_val (v := .bool true) (w' := w') ?_ ⟨Below.refl _ _, rfl⟩
              have hcon := E.con
              clear E
              go_simp
            · intro ρ w' E
              have e150 : ρ (.tmp 150) = .bool true := E.pre 11 rfl rfl
              have e153 : ρ (.tmp 153) = .bool true := E.pre 14 rfl rfl
              refine step_plain rfl ?_
              exact op_pick (b := true) rfl e150 rfl ⟨Below.refl _ _, e153⟩
            · intro ρ w' E
              have e154 : ρ (.tmp 154) = .bool true := E.pre 15 rfl rfl
              refine step_plain rfl ?_
              exact op_move (.inl rfl) e154 ⟨Below.refl _ _, rfl⟩
            · intro ρ w' E
              have e9 : ρ (.tmp 9) = .pointer (some ⟨d, 0, none⟩) := E.out 9 rfl
              refine step_yes rfl (E.pre 16 rfl rfl) ?_
              exact op_move (.inl rfl) e9 ⟨Below.refl _ _, rfl⟩
            · intro ρ w' E
              have e156 : ρ (.tmp 156) = .pointer (some ⟨d, 0, none⟩) := E.pre 17 rfl rfl
              refine step_yes rfl (E.pre 16 rfl rfl) ?_
              refine op_val (v := .pointer (some ⟨d, 0, none⟩)) (w' := w') ?_ ⟨Below.refl _ _, rfl⟩
              have hcon := E.con
              clear E
              go_simp
            · intro ρ w' E
              have e157 : ρ (.tmp 157) = .pointer (some ⟨d, 0, none⟩) := E.pre 18 rfl rfl
              refine step_yes rfl (E.pre 16 rfl rfl) ?_
              refine op_val (v := .pointer (some ⟨d, 0, none⟩)) (w' := w') ?_ ⟨Below.refl _ _, rfl⟩
              have hcon := E.con
              clear E
              go_simp
            · intro ρ w' E
              have e158 : ρ (.tmp 158) = .pointer (some ⟨d, 0, none⟩) := E.pre 19 rfl rfl
              refine step_yes rfl (E.pre 16 rfl rfl) ?_
              refine op_call (f := 16) (args := #[.pointer (some ⟨d, 0, none⟩)]) (w' := w') (by have hcon := E.con; have hfn := E.fn; clear E; go_simp) ?_
              refine (drv_mediumP w' (HD.out.ext E.below) (Nat.le_trans HG.out.len (by decide)) HG.out.short).mono ?_
              rintro e w2 ⟨aX, cX, csX, kX, rfl, hMX, hcX, hb⟩
              exact ⟨_, rfl, hb, aX, kX, cX, csX, rfl, hMX.mono E.below.size, hcX⟩
            · intro ρ w' E
              have p159 : (AnsM wY.heap.size (volT cap (lbytes v p e) [])) w' (ρ (.tmp 159)) := E.pre 20 rfl rfl
              refine step_yes rfl (E.pre 16 rfl rfl) ?_
              obtain ⟨aX, kX, cX, csX, e5, hMX, hcX⟩ := p159
              have hk2 : kX = 2 := hMX.size.symm
              subst hk2
              refine op_val (v := .slice aX 2 cX) (w' := w') (by have hcon := E.con; have hfd : ∀ w, (Instr.field 24 (.agg #[.int .i64 (volT cap (lbytes v p e) []).cap, .slice aX 2 cX]) 1).run Try.prog w = .ok (.slice aX 2 cX) w := (fun _ => by kernel_rfl); clear E; go_simp) ⟨Below.refl _ _, aX, cX, rfl⟩
            · intro ρ w' E
              have p160 : (fun w v => ∃ a c, v = .slice a 2 c) w' (ρ (.tmp 160)) := E.pre 21 rfl rfl
              refine step_yes rfl (E.pre 16 rfl rfl) ?_
              obtain ⟨aX, cX, e6⟩ := p160
              refine op_val (v := .int .i64 2) (w' := w') (by have hcon := E.con; clear E; go_simp) ⟨Below.refl _ _, rfl⟩
            · intro ρ w' E
              have e161 : ρ (.tmp 161) = .int .i64 2 := E.pre 22 rfl rfl
              refine step_yes rfl (E.pre 16 rfl rfl) ?_
              refine op_val (v := .bool true) (w' := w') ?_ ⟨Below.refl _ _, rfl⟩
              have hcon := E.con
              clear E
              go_simp
            · intro ρ w' E
              have e155 : ρ (.tmp 155) = .bool true := E.pre 16 rfl rfl
              have e162 : ρ (.tmp 162) = .bool true := E.pre 23 rfl rfl
              refine step_plain rfl ?_
              exact op_pick (b := true) rfl e155 rfl ⟨Below.refl _ _, e162⟩
            · intro ρ w' E
              have e163 : ρ (.tmp 163) = .bool true := E.pre 24 rfl rfl
              refine step_plain rfl ?_
              exact op_move (.inl rfl) e163 ⟨Below.refl _ _, rfl⟩
            · intro ρ w' E
              have e11 : ρ (.tmp 11) = .pointer (some ⟨vb, 0, none⟩) := E.out 11 rfl
              refine step_yes rfl (E.pre 25 rfl rfl) ?_
              exact op_move (.inl rfl) e11 ⟨Below.refl _ _, rfl⟩
            · intro ρ w' E
              have e165 : ρ (.tmp 165) = .pointer (some ⟨vb, 0, none⟩) := E.pre 26 rfl rfl
              refine step_yes rfl (E.pre 25 rfl rfl) ?_
              refine op_call (f := 19) (args := #[.pointer (some ⟨vb, 0, none⟩), .int .i64 0]) (w' := w') (by have hcon := E.con; have hfn := E.fn; clear E; go_simp) ?_
              refine (vol_room 0 (cap - 2) w' (HV.out.ext E.below) (HD.out.ext E.below) HOK.out.ok HRM.out).mono ?_
              rintro e w2 ⟨rfl, hb⟩
              exact ⟨_, rfl, hb, rfl⟩
            · intro ρ w' E
              have e3 : ρ (.tmp 3) = .pointer (some ⟨w.heap.size, 0, none⟩) := E.out 3 rfl
              refine step_yes rfl (E.pre 25 rfl rfl) ?_
              refine op_val (v := .pointer (some ⟨w.heap.size, 0, none⟩)) (w' := w') ?_ ⟨Below.refl _ _, rfl⟩
              have hcon := E.con
              clear E
              go_simp
            · intro ρ w' E
              have e167 : ρ (.tmp 167) = .pointer (some ⟨w.heap.size, 0, none⟩) := E.pre 28 rfl rfl
              refine step_yes rfl (E.pre 25 rfl rfl) ?_
              refine op_val (v := .int .i64 cap) (w' := w') ?_ ⟨Below.refl _ _, rfl⟩
              have k0 := (World.cell?_of_block (w := wY) (E.below.block _ hlT)).trans y0
              have k1 := (World.cell?_of_block (w := wY) (E.below.block _ hlT)).trans y1
              have hcon := E.con
              clear E y0 y1
              go_simp
            · intro ρ w' E
              have e168 : ρ (.tmp 168) = .int .i64 cap := E.pre 29 rfl rfl
              refine step_yes rfl (E.pre 25 rfl rfl) ?_
              refine op_val (v := .int .i64 (cap - 2)) (w' := w') ?_ ⟨Below.refl _ _, rfl⟩
              have hw := hwc
              have hcon := E.con
              clear E
              go_simp
            · intro ρ w' E
              have e166 : ρ (.tmp 166) = .int .i64 (cap - 2) := E.pre 27 rfl rfl
              have e169 : ρ (.tmp 169) = .int .i64 (cap - 2) := E.pre 30 rfl rfl
              refine step_yes rfl (E.pre 25 rfl rfl) ?_
              refine op_val (v := .bool true) (w' := w') ?_ ⟨Below.refl _ _, rfl⟩
              have hcon := E.con
              clear E
              go_simp
            · intro ρ w' E
              have e164 : ρ (.tmp 164) = .bool true := E.pre 25 rfl rfl
              have e170 : ρ (.tmp 170) = .bool true := E.pre 31 rfl rfl
              refine step_plain rfl ?_
              exact op_pick (b := true) rfl e164 rfl ⟨Below.refl _ _, e170⟩
            · intro ρ w' E
              have e171 : ρ (.tmp 171) = .bool true := E.pre 32 rfl rfl
              refine step_plain rfl ?_
              exact op_move (.inl rfl) e171 ⟨Below.refl _ _, rfl⟩
            · intro ρ w' E
              refine step_yes rfl (E.pre 33 rfl rfl) ?_
              refine op_call (f := 11) (args := #[]) (w' := w') (by have hcon := E.con; have hfn := E.fn; clear E; go_simp) ?_
              refine (wakes16_any w').mono ?_
              rintro e w2 ⟨rfl, hb⟩
              exact ⟨_, rfl, hb, rfl⟩
            · intro ρ w' E
              have e172 : ρ (.tmp 172) = .bool true := E.pre 33 rfl rfl
              have e173 : ρ (.tmp 173) = .bool true := E.pre 34 rfl rfl
              refine step_plain rfl ?_
              exact op_pick (b := true) rfl e172 rfl ⟨Below.refl _ _, e173⟩
            · intro ρ w' E
              have e174 : ρ (.tmp 174) = .bool true := E.pre 35 rfl rfl
              refine step_plain rfl ?_
              exact op_move (.inr rfl) e174 ⟨Below.refl _ _, rfl⟩
          · intro σF wF GF OF HF
            have s6 : σF 6 = .bool true := HF 36 rfl rfl
            clear OF
            simp only [upd, updL, dstsOf', elemB, List.filterMap_cons, List.filterMap_nil, Nat.reduceAdd, Nat.reduceBEq, Bool.or_false, Bool.false_or, Bool.or_true, Bool.true_or, cond_true, cond_false, Nat.zero_add, s6]
            have HBF := bthen HBY.out GF (Nat.le_refl _)
            clear GF
            go_wp2
            go_ret
            exact ⟨rfl, HBF⟩
end Go.Proofs.Ytjngfkkbfkoedaa
