/- The walk of RobotExact. -/
import Derived.Test.YtmaagkdehdmhlaaRobotExactPartW
import Derived.Test.YtmaagkdehdmhlaaRobotExactPartG
import Derived.Test.YtmaagkdehdmhlaaKeepMed
import Derived.Test.YtmaagkdehdmhlaaRobotExactPartN
import Derived.Test.YtmaagkdehdmhlaaRegionFree
import Derived.Test.YtmaagkdehdmhlaaRobotExactPartT
import Derived.Test.YtmaagkdehdmhlaaRobotExactPartH
import Derived.Test.YtmaagkdehdmhlaaRobotExactPartO
namespace Go.Proofs.Ytmaagkdehdmhlaa
open Go.RowKit

def A5okR (w : World) (x : Act5) : Prop := x.ok w
theorem TRF_noA {B lo hi : Nat} (b : Nat) : ¬ TRF B lo hi b 38 := by
  rintro ⟨_, h | ⟨h | h, _⟩⟩ <;> revert h <;> decide
theorem A5Mat.extR {w w' : World} {a : Option Addr} {l : List Act5} (h : A5Mat w a l) (hb : Below w.heap.size w w') : A5Mat w' a l := ⟨h.src.ext hb, fun x hx => ⟨(h.ok x hx).1.ext hb, (h.ok x hx).2⟩⟩
/-- What stays the same of the robot. -/
structure RSame (S : RS) (s : PS) (vN dN sN t : Nat) : Prop where
  vols : S.vols.length = vN
  bays : S.bays.length = dN
  size : S.size = sN
  asked : S.asked ≤ t
  life : 0 ≤ s.life ∧ s.life ≤ t
set_option maxRecDepth 100000 in
set_option maxHeartbeats 16000000 in
theorem robotExact_walk (w : World) (vI : Int) (wv : (Lit.int .i64 vI).wf = true) (sI : Int) (ws : (Lit.int .i64 sI).wf = true) (dI : Int) (wd : (Lit.int .i64 dI).wf = true) (aL : Option Addr) (cL : Nat) (l : List Act5) (hL : A5Mat w aL l) (hlL : l.length ≤ 9223372036854775807) :
    Calls Try.prog 3 #[.int .i64 vI, .int .i64 sI, .int .i64 dI, .slice aL l.length cL] w fun e w' => e = .returned (.bool true) ∧ Below w.heap.size w w' := by
  obtain ⟨N, hN⟩ : ∃ N, N = l.length := ⟨_, rfl⟩
  rw [← hN] at hlL ⊢
  have HN := Lib.hid hN
  have HL := Lib.hid hL
  clear hN hL wv ws wd
  go_enter Try.func3, Try.ntmps3
  go_wp2_with fail
  refine (heavy13 aL cL N l w HL.out.src HN.out hlL).mono ?_
  rintro e w3 (⟨rfl, hb3⟩ | ⟨rfl, hb3, hlight⟩)
  · go_wp2
    go_ret
    exact ⟨rfl, hb3⟩
  have HB := Lib.hid hb3
  have HL := Lib.hid (HL.out.extR hb3)
  have Hli := Lib.hid hlight
  clear hb3 hlight
  go_wp2_with fail
  refine (power_new w3).mono ?_
  rintro e w4 ⟨g, rfl, hp4, hb4⟩
  go_wp2_with fail
  refine (rpow_new w4).mono ?_
  rintro e w5 ⟨q, rfl, hq5, hb5⟩
  have HP := Lib.hid (hp4.ext hb5)
  have HQ := Lib.hid (hq5.mono hb4.size)
  have HBv := Lib.hid (bthen hb4 hb5 (Nat.le_refl _))
  clear hp4 hq5 hb4 hb5
  go_wp2_with fail
  by_cases hg : (1 ≤ vI ∧ vI ≤ 8) ∧ (1 ≤ sI ∧ sI ≤ 400) ∧ (1 ≤ dI ∧ dI ≤ 4)
  case neg =>
    as_aux_lemma =>
      refine (rob_new_bad (some ⟨g, 0, none⟩) vI sI dI w5 (by omega)).mono ?_
      rintro e w6 ⟨rfl, hb6⟩
      have HB6 := Lib.hid (bthen (bthen HB.out HBv.out (Nat.le_refl _)) hb6 (Nat.le_refl _))
      clear hb6
      by_cases h0 : vI < 1
      · have e0 : decide (vI < 1) = true := by simpa using h0
        clear hg h0
        go_wp2_with fail
        refine (rob_new_bad none 1 1 1 w6 (.inl rfl)).mono ?_
        rintro e wB ⟨rfl, hbB⟩
        have HBB := Lib.hid (bthen HB6.out hbB (Nat.le_refl _))
        clear hbB
        go_wp2_with fail
        refine (wakes13_any wB).mono ?_
        rintro e wC ⟨rfl, hbC⟩
        have HBC := Lib.hid (bthen HBB.out hbC (Nat.le_refl _))
        clear hbC
        go_wp2
        go_ret
        exact ⟨rfl, HBC.out⟩
      have e0 : decide (vI < 1) = false := by simpa using h0
      by_cases h1 : 8 < vI
      · have e1 : decide (vI > 8) = true := by simpa using h1
        clear hg h0 h1
        go_wp2_with fail
        refine (rob_new_bad none 1 1 1 w6 (.inl rfl)).mono ?_
        rintro e wB ⟨rfl, hbB⟩
        have HBB := Lib.hid (bthen HB6.out hbB (Nat.le_refl _))
        clear hbB
        go_wp2_with fail
        refine (wakes13_any wB).mono ?_
        rintro e wC ⟨rfl, hbC⟩
        have HBC := Lib.hid (bthen HBB.out hbC (Nat.le_refl _))
        clear hbC
        go_wp2
        go_ret
        exact ⟨rfl, HBC.out⟩
      have e1 : decide (vI > 8) = false := by simpa using h1
      by_cases h2 : sI < 1
      · have e2 : decide (sI < 1) = true := by simpa using h2
        clear hg h0 h1 h2
        go_wp2_with fail
        refine (rob_new_bad none 1 1 1 w6 (.inl rfl)).mono ?_
        rintro e wB ⟨rfl, hbB⟩
        have HBB := Lib.hid (bthen HB6.out hbB (Nat.le_refl _))
        clear hbB
        go_wp2_with fail
        refine (wakes13_any wB).mono ?_
        rintro e wC ⟨rfl, hbC⟩
        have HBC := Lib.hid (bthen HBB.out hbC (Nat.le_refl _))
        clear hbC
        go_wp2
        go_ret
        exact ⟨rfl, HBC.out⟩
      have e2 : decide (sI < 1) = false := by simpa using h2
      by_cases h3 : 400 < sI
      · have e3 : decide (sI > 400) = true := by simpa using h3
        clear hg h0 h1 h2 h3
        go_wp2_with fail
        refine (rob_new_bad none 1 1 1 w6 (.inl rfl)).mono ?_
        rintro e wB ⟨rfl, hbB⟩
        have HBB := Lib.hid (bthen HB6.out hbB (Nat.le_refl _))
        clear hbB
        go_wp2_with fail
        refine (wakes13_any wB).mono ?_
        rintro e wC ⟨rfl, hbC⟩
        have HBC := Lib.hid (bthen HBB.out hbC (Nat.le_refl _))
        clear hbC
        go_wp2
        go_ret
        exact ⟨rfl, HBC.out⟩
      have e3 : decide (sI > 400) = false := by simpa using h3
      by_cases h4 : dI < 1
      · have e4 : decide (dI < 1) = true := by simpa using h4
        clear hg h0 h1 h2 h3 h4
        go_wp2_with fail
        refine (rob_new_bad none 1 1 1 w6 (.inl rfl)).mono ?_
        rintro e wB ⟨rfl, hbB⟩
        have HBB := Lib.hid (bthen HB6.out hbB (Nat.le_refl _))
        clear hbB
        go_wp2_with fail
        refine (wakes13_any wB).mono ?_
        rintro e wC ⟨rfl, hbC⟩
        have HBC := Lib.hid (bthen HBB.out hbC (Nat.le_refl _))
        clear hbC
        go_wp2
        go_ret
        exact ⟨rfl, HBC.out⟩
      have e4 : decide (dI < 1) = false := by simpa using h4
      have e5 : decide (dI > 4) = true := by simp; omega
      clear hg h0 h1 h2 h3 h4
      go_wp2_with fail
      refine (rob_new_bad none 1 1 1 w6 (.inl rfl)).mono ?_
      rintro e wB ⟨rfl, hbB⟩
      have HBB := Lib.hid (bthen HB6.out hbB (Nat.le_refl _))
      clear hbB
      go_wp2_with fail
      refine (wakes13_any wB).mono ?_
      rintro e wC ⟨rfl, hbC⟩
      have HBC := Lib.hid (bthen HBB.out hbC (Nat.le_refl _))
      clear hbC
      go_wp2
      go_ret
      exact ⟨rfl, HBC.out⟩
  obtain ⟨vN, rfl⟩ := Int.eq_ofNat_of_zero_le (show 0 ≤ vI by omega)
  obtain ⟨sN, rfl⟩ := Int.eq_ofNat_of_zero_le (show 0 ≤ sI by omega)
  obtain ⟨dN, rfl⟩ := Int.eq_ofNat_of_zero_le (show 0 ≤ dI by omega)
  have Hv : Hid (1 ≤ vN ∧ vN ≤ 8) := Lib.hid (by omega)
  have Hs : Hid (1 ≤ sN ∧ sN ≤ 400) := Lib.hid (by omega)
  have Hd : Hid (1 ≤ dN ∧ dN ≤ 4) := Lib.hid (by omega)
  have e0 : decide ((vN : Int) < 1) = false := by have := Hv.out; simp; omega
  have e1 : decide ((vN : Int) > 8) = false := by have := Hv.out; simp; omega
  have e2 : decide ((sN : Int) < 1) = false := by have := Hs.out; simp; omega
  have e3 : decide ((sN : Int) > 400) = false := by have := Hs.out; simp; omega
  have e4 : decide ((dN : Int) < 1) = false := by have := Hd.out; simp; omega
  have e5 : decide ((dN : Int) > 4) = false := by have := Hd.out; simp; omega
  clear hg
  refine (rob_new (B := w3.heap.size) (K := fun b => w5.heap.size ≤ b) (fun _ => 0) vN sN dN w5 ⟨HBv.out.size, fun _ h => h⟩ HP.out Hv.out Hs.out Hd.out).mono ?_
  rintro e w6 ⟨r, rfl, h6, hb6⟩
  have H6 := Lib.hid h6
  have HB6 := Lib.hid hb6
  clear h6 hb6
  go_wp2_with fail
  obtain ⟨V, hRL⟩ : ∃ V, Hid (RobL w3.heap.size (fun b => w5.heap.size ≤ b) w6 r g (RS.new vN sN dN) V) := by
    obtain ⟨⟨V, h, _⟩, _⟩ := H6.out
    exact ⟨V, Lib.hid h⟩
  refine (rob_vols w6 hRL.out).mono ?_
  rintro e w6' ⟨rfl, rfl⟩
  have hvl : ((RS.new vN sN dN).vols.length : Int) = (vN : Int) := by simp [RS.new]
  rw [hvl]
  go_wp2_with fail
  refine (rob_drives w6 hRL.out).mono ?_
  rintro e w6' ⟨rfl, rfl⟩
  have hdl : ((RS.new vN sN dN).bays.length : Int) = (dN : Int) := by simp [RS.new]
  rw [hdl]
  clear hvl hdl hRL
  go_wp2_with fail
  clear e0 e1 e2 e3 e4 e5
  refine (rrob_new (B := w3.heap.size) (Z := fun b => w6.heap.size ≤ b) (fun _ => 0) vN sN dN w6 ⟨Nat.le_trans HBv.out.size HB6.out.size, fun _ h => h⟩ (HQ.out.ext HB6.out) Hv.out Hs.out Hd.out).mono ?_
  rintro e w7 ⟨rr, rfl, h7, hb7⟩
  have HTD : Hid (TwoR w3.heap.size 0 0 w7 r g rr q (RS.new vN sN dN) (fun _ => 0) PS.new (RS.new vN sN dN) (fun _ => 0) PS.new) := Lib.hid (by
    refine ⟨fun b => w5.heap.size ≤ b ∧ b < w6.heap.size, fun b => w6.heap.size ≤ b ∧ b < w7.heap.size, fun b hb => ⟨?_, fun h => by omega⟩, fun b hb => ⟨hb.2, fun h => by omega⟩, fun b hz hk => by omega, (H6.out.rek fun b _ hb hk => ⟨hk, hb⟩).ext hb7, h7.rek fun b _ hb hk => ⟨hk, hb⟩⟩
    have := hb7.size; omega)
  have HBv := Lib.hid (bthen (bthen HBv.out HB6.out (Nat.le_refl _)) hb7 (Nat.le_refl _))
  have HSM : Hid (RSame (RS.new vN sN dN) PS.new vN dN sN 0) := Lib.hid ⟨by simp [RS.new], by simp [RS.new], rfl, Int.le_refl _, by decide⟩
  clear h7 hb7 H6 HB6 HP HQ
  go_wp2_with fail
  go_loopw [16] (fun i wx => ∃ (t : Nat) (S : RS) (D : Nat → Nat) (s : PS) (E : Nat → Nat) (wr : World), wr = wx ∧ t ≤ N ∧ t ≤ 40 ∧ i = .int .i64 (t : Int) ∧ Hid (TwoR w3.heap.size 0 0 wr r g rr q S D s S E s) ∧ Hid (RSame S s vN dN sN t) ∧ Hid (Below w3.heap.size w3 wr)) (fun i _ => 41 - (intOf i).toNat)
  case atStart => exact ⟨0, _, _, _, _, _, rfl, by omega, by omega, rfl, HTD, HSM, HBv⟩
  case round =>
    obtain ⟨t, S, D, s, E, wr, hwr, htN, ht40, rfl, HD, HSr, HBr⟩ := hrel
    subst hwr
    clear HTD HBv HSM
    have HLr := Lib.hid (HL.out.extR HBr.out)
    by_cases htl : t < N
    · by_cases ht4 : t < 40
      case neg =>
        as_aux_lemma =>
          go_wp2_with fail
          clear HLr
          go_loopw [29] (fun i wx => ∃ (j : Int) (wr2 : World), wr2 = wx ∧ wr2 = wr ∧ -1 ≤ j ∧ j ≤ dN + 1 ∧ i = .int .i64 j) (fun i _ => ((dN : Int) + 1 - intOf i).toNat)
          case atStart => exact ⟨-1, _, rfl, rfl, by omega, by omega, rfl⟩
          case round =>
            obtain ⟨j, wr2, hwr2, hwr3, hj0, hj1, rfl⟩ := hrel
            subst hwr2
            subst hwr3
            obtain ⟨K2, hK2⟩ := HD.out.realP
            have HK2 := Lib.hid hK2
            have hbl := HSr.out.bays
            clear hK2
            by_cases hjd : j ≤ dN
            · have ed : decide (j ≤ (dN : Int)) = true := by simpa using hjd
              have ew : IntKind.i64.wrap (j + 1) = j + 1 := by have := Hd.out; rw [IntKind.wrap_i64]; omega
              by_cases h0 : j < 0
              · have eg : decide (j ≥ 0) = false := by simp; omega
                go_wp2_with fail
                refine (rob_holdsP j (-1) wr2 HK2.out (by rw [if_neg (by omega)])).mono ?_
                rintro e w2 ⟨rfl, rfl⟩
                go_wp2_with fail
                go_roundw
                case rel => exact ⟨j + 1, _, rfl, rfl, by omega, by omega, by simp [ew]⟩
                case measure => simp [intOf]; omega
              have eg : decide (j ≥ 0) = true := by simp; omega
              by_cases h1 : j < dN
              · have el : decide (j < (dN : Int)) = true := by simpa using h1
                obtain ⟨jn, rfl⟩ := Int.eq_ofNat_of_zero_le (show 0 ≤ j by omega)
                obtain ⟨bb, hbb⟩ : ∃ b, S.bays[jn]? = some b := ⟨_, List.getElem?_eq_getElem (by omega)⟩
                obtain ⟨Z, ⟨V, hRL, _⟩, _⟩ := HD.out.refP
                obtain ⟨_, _, _, q3, _, _, _, _, hlr⟩ := hRL.cells
                obtain ⟨gD, gH, gU, y0, eD, eH, eU, _, _, _, _, _, _, qH, _⟩ := hRL.at (i := jn) (b := bb) hbb
                rw [eH, hbl] at q3
                obtain ⟨bv, hbv⟩ : ∃ v, v = bb.vol := ⟨_, rfl⟩
                rw [← hbv] at qH
                have hgd : (if 0 ≤ (jn : Int) ∧ (jn : Int) < S.bays.length then (S.bays.getD (jn : Int).toNat bay0).vol else -1) = bv := by
                  rw [if_pos (by omega), hbv, Int.toNat_natCast, List.getD_eq_getElem?_getD, hbb]; rfl
                have Hgd := Lib.hid hgd
                have hjn : jn < dN := by omega
                clear hRL eD eH eU hbb hbv hgd hbl
                go_wp2_with fail
                refine (rob_holdsP (jn : Int) bv wr2 HK2.out Hgd.out).mono ?_
                rintro e w2 ⟨rfl, rfl⟩
                clear q3 qH
                go_wp2_with fail
                go_roundw
                case rel => exact ⟨(jn : Int) + 1, _, rfl, rfl, by omega, by omega, by simp [ew]⟩
                case measure => simp [intOf]; omega
              have el : decide (j < (dN : Int)) = false := by simpa using h1
              go_wp2_with fail
              refine (rob_holdsP j (-1) wr2 HK2.out (by rw [if_neg (by omega)])).mono ?_
              rintro e w2 ⟨rfl, rfl⟩
              go_wp2_with fail
              go_roundw
              case rel => exact ⟨j + 1, _, rfl, rfl, by omega, by omega, by simp [ew]⟩
              case measure => simp [intOf]; omega
            have ed : decide (j ≤ (dN : Int)) = false := by simpa using hjd
            go_wp2_with fail
            clear ed hjd hj0 hj1 HK2 hbl
            go_loopw [31] (fun i wx => ∃ (j : Int) (wr3 : World), wr3 = wx ∧ -1 ≤ j ∧ j ≤ vN + 1 ∧ i = .int .i64 j ∧ Hid (TwoR w3.heap.size 0 0 wr3 r g rr q S D s S E s) ∧ Hid (Below w3.heap.size w3 wr3)) (fun i _ => ((vN : Int) + 1 - intOf i).toNat)
            case atStart => exact ⟨-1, _, rfl, by omega, by omega, rfl, HD, HBr⟩
            case round =>
              obtain ⟨j, wr3, hwr3, hj0, hj1, rfl, HDx, HBx⟩ := hrel
              subst hwr3
              clear HD HBr
              by_cases hjd : j ≤ vN
              · have ed : decide (j ≤ (vN : Int)) = true := by simpa using hjd
                have ew : IntKind.i64.wrap (j + 1) = j + 1 := by have := Hv.out; rw [IntKind.wrap_i64]; omega
                obtain ⟨M, Er, hME⟩ : ∃ M Er, S.medE j = (M, Er) := ⟨_, _, rfl⟩
                have HME := Lib.hid hME
                have HMS := Lib.hid (RS.medE_short HDx.out.good.1 hME)
                clear hME
                go_wp2_with fail
                obtain ⟨K2, hK2⟩ := HDx.out.realP
                refine (rob_medE HME.out wr3 hK2).mono ?_
                rintro e wa ⟨a1, k1, c1, cs1, rfl, hM1, hk1, hb1⟩
                have hza := heap_alloc_new wa (.cells #[.int .i64 0, .slice none 0 0] 45)
                obtain ⟨hT1, hS1⟩ := TapeO.new M.cap rfl hM1 hk1
                clear hK2
                go_wp2_with (refine wpList_store_row rfl rfl 45 (.tmp 32) (.tmp 329) rfl wa.heap.size rfl 45 #[.int .i64 0, .slice none 0 0] #[.int .i64 M.cap, .slice a1 k1 c1] rfl hza rfl (by kernel_rfl) (by simp [Value.oneCell']) ?_)
                generalize hWb : (wa.alloc (.cells #[.int .i64 0, .slice none 0 0] 45)).setRow wa.heap.size #[.int .i64 M.cap, .slice a1 k1 c1] = wb at *
                have hb1b := bthen hb1 hS1 (Nat.le_refl _)
                have hGb := heap_lt hT1.box
                obtain ⟨GA, hGA⟩ : ∃ G, G = wa.heap.size := ⟨_, rfl⟩
                rw [← hGA] at hT1 hGb ⊢
                have HGA : Hid (wr3.heap.size ≤ GA ∧ GA < wb.heap.size) := Lib.hid ⟨by rw [hGA]; exact hb1.size, hGb⟩
                have HT1 := Lib.hid hT1
                have HBN := Lib.hid (hT1.r.own.bnd hT1.r.len)
                have HD1 := Lib.hid ((HDx.out.hole wb.heap.size (Nat.le_refl _)).ext hb1b)
                have HB1 := Lib.hid (bthen HBx.out hb1b (Nat.le_refl _))
                clear hM1 hk1 hb1 hza hT1 hS1 hWb hb1b hGb hGA
                obtain ⟨Z2, hZ2⟩ := HD1.out.refP
                refine (rrob_medE HME.out wb hZ2).mono ?_
                rintro e wc ⟨a2, k2, c2, cs2, rfl, hM2, hk2, hb2⟩
                have hzc := heap_alloc_new wc (.cells #[.int .i64 0, .slice none 0 0] 45)
                obtain ⟨hT2, hS2⟩ := TapeO.new M.cap rfl hM2 hk2
                have hbbd := bthen hb2 hS2 (Nat.le_refl _)
                have hT1d := HT1.out.ext hbbd
                obtain ⟨x0, x1⟩ := hT1d.box.cells
                obtain ⟨y0, y1⟩ := hT2.box.cells
                try dsimp only at x0 x1 y0 y1
                clear hZ2
                go_wp2_with (refine wpList_store_row rfl rfl 45 (.tmp 34) (.tmp 335) rfl wc.heap.size rfl 45 #[.int .i64 0, .slice none 0 0] #[.int .i64 M.cap, .slice a2 k2 c2] rfl hzc rfl (by kernel_rfl) (by simp [Value.oneCell']) ?_)
                generalize hWd : (wc.alloc (.cells #[.int .i64 0, .slice none 0 0] 45)).setRow wc.heap.size #[.int .i64 M.cap, .slice a2 k2 c2] = wd at *
                obtain ⟨GC, hGC⟩ : ∃ G, G = wc.heap.size := ⟨_, rfl⟩
                rw [← hGC] at hT2 y0 y1 ⊢
                have HGC : Hid (wb.heap.size ≤ GC) := Lib.hid (by rw [hGC]; exact hb2.size)
                have HT1 := Lib.hid hT1d
                have HT2 := Lib.hid hT2
                have HD2 := Lib.hid (HD1.out.ext hbbd)
                have HB2 := Lib.hid (bthen HB1.out hbbd (Nat.le_refl _))
                have Hbb := Lib.hid hbbd.size
                clear hM2 hk2 hb2 hzc hT2 hS2 hWd hbbd hT1d hGC HD1 HB1 x0 x1 y0 y1
                refine (keepmed_any M.cap M.cap a1 a2 c1 k1 c2 k2 cs1 cs2 true wd HT1.out.r.mat HT2.out.r.mat HT1.out.r.len.symm HT2.out.r.len.symm HT1.out.r.len63 HT2.out.r.len63 (by rw [HT1.out.r.pls, HT2.out.r.pls]; simp)).mono ?_
                rintro e we ⟨rfl, hbe⟩
                have HT1 := Lib.hid (HT1.out.ext hbe)
                have HT2 := Lib.hid (HT2.out.ext hbe)
                have HD3 := Lib.hid (HD2.out.ext hbe)
                have HB3 := Lib.hid (bthen HB2.out hbe (Nat.le_refl _))
                have Hbb := Lib.hid (Nat.le_trans Hbb.out hbe.size)
                clear hbe HD2 HB2
                obtain ⟨x0, x1⟩ := HT1.out.box.cells
                try dsimp only at x0 x1
                go_wp2_with fail
                clear x0 x1
                refine (spoilmed_ty wr3.heap.size wb.heap.size M.cap a1 c1 k1 cs1 we HT1.out.r.own HT1.out.r.len.symm (by have h1 := HT1.out.r.size; have h2 := HMS.out.1; omega) (HT1.out.r.short HMS.out.2) (by have := Hbb.out; have := HGA.out; omega) HBN.out.1 HBN.out.2).mono ?_
                rintro e wf ⟨rfl, hbf, hmf⟩
                have hx1 := hmf.keep HT1.out.box (fun hf => by have := hf.2.2; revert this; decide)
                have HX1 := Lib.hid hx1
                have HT2 : Hid (TapeO wf wb.heap.size GC M a2 k2 c2 cs2) := Lib.hid ⟨hmf.keep HT2.out.box (fun hf => by have := hf.2.2; revert this; decide), ⟨HT2.out.r.own.modB hmf fun g T hg hf => by have := hf.2.1; omega, HT2.out.r.len, HT2.out.r.pls⟩, HT2.out.cap⟩
                have HD4 := Lib.hid (HD3.out.spoil hmf fun b T hf => ⟨⟨hf.1, hf.2.1⟩, hf.2.2.elim .inl fun h => .inr (.inl h)⟩)
                have HB4 := Lib.hid (HB3.out.trans (hbf.mono HBx.out.size))
                have Hbb := Lib.hid (Nat.le_trans Hbb.out hmf.size)
                clear hbf hmf hx1 HT1 HD3 HB3
                go_wp2_with fail
                obtain ⟨K3, hK3⟩ := HD4.out.realP
                refine (rob_medE HME.out wf hK3).mono ?_
                rintro e wg ⟨a3, k3, c3, cs3, rfl, hM3, hk3, hb3⟩
                have hxg := (hb3.block _ (heap_lt HX1.out)).trans HX1.out
                have hT3 := TapeO.put M.cap rfl hM3 hk3 hxg
                have hT2g := (HT2.out.ext hb3).other (new := #[.int .i64 M.cap, .slice a3 k3 c3]) hxg (show GC ≠ GA by have := HGC.out; have := HGA.out; omega)
                obtain ⟨x0, x1⟩ := hT3.box.cells
                obtain ⟨y0, y1⟩ := hT2g.box.cells
                try dsimp only at x0 x1 y0 y1
                clear hK3
                go_wp2_with (refine wpList_store_row rfl rfl 45 (.tmp 32) (.tmp 352) rfl GA rfl 45 #[.int .i64 M.cap, .slice a1 k1 c1] #[.int .i64 M.cap, .slice a3 k3 c3] rfl hxg rfl (by kernel_rfl) (by simp [Value.oneCell']) ?_)
                have hmS : Mod (fun b T => b = GA ∧ T = 45) wg (wg.setRow GA #[.int .i64 M.cap, .slice a3 k3 c3]) := Mod.one (bsetRow (Below.refl GA wg) (Nat.le_refl _) _) (fun b hb => setRow_other wg _ b _ hb) hxg (setRow_heap wg _ _ _ _ _ hxg) ⟨rfl, rfl⟩
                have HD5 := Lib.hid ((HD4.out.ext hb3).spoil hmS fun b T hf => ⟨by rw [hf.1]; exact HGA.out, .inr (.inr hf.2)⟩)
                have HB5 := Lib.hid ((bthen HB4.out hb3 (Nat.le_refl _)).trans (hmS.below (fun b T hf => by rw [hf.1]; have := HGA.out; have := HBx.out.size; omega) (bthen HB4.out hb3 (Nat.le_refl _)).size))
                have HT3 := Lib.hid hT3
                have HT2 := Lib.hid hT2g
                clear hM3 hk3 hb3 hxg hT3 hT2g hmS HD4 HB4 x0 x1 y0 y1
                generalize wg.setRow GA #[.int .i64 M.cap, .slice a3 k3 c3] = wh at *
                refine (keepmed_any M.cap M.cap a3 a2 c3 k3 c2 k2 cs3 cs2 true wh HT3.out.r.mat HT2.out.r.mat HT3.out.r.len.symm HT2.out.r.len.symm HT3.out.r.len63 HT2.out.r.len63 (by rw [HT3.out.r.pls, HT2.out.r.pls]; simp)).mono ?_
                rintro e wi ⟨rfl, hbi⟩
                have HD6 := Lib.hid ((HD5.out.ext hbi).whole)
                have HB6 := Lib.hid (bthen HB5.out hbi (Nat.le_refl _))
                clear hbi HD5 HB5
                go_wp2_with fail
                go_roundw
                case rel => exact ⟨j + 1, _, rfl, by omega, by omega, by simp [ew], HD6, HB6⟩
                case measure => simp [intOf]; omega
              have ed : decide (j ≤ (vN : Int)) = false := by simpa using hjd
              go_wp2_with fail
              refine (wakes13_any wr3).mono ?_
              rintro e wy ⟨rfl, hby⟩
              have HBY := Lib.hid (bthen (bthen HB.out HBx.out (Nat.le_refl _)) hby (Nat.le_refl _))
              clear hby
              go_wp2
              go_ret
              exact ⟨rfl, HBY.out⟩
      have hjl : t < l.length := by have := HN.out; omega
      obtain ⟨b, o, rfl, hlb, hat⟩ := HLr.out.src.elem Act5.len (by decide) hjl
      have hok := HLr.out.ok _ (List.getElem_mem hjl)
      have h300 := Hli.out.2 t hjl ht4
      obtain ⟨x, hx⟩ : ∃ x, x = l[t] := ⟨_, rfl⟩
      rw [← hx] at hok h300
      have c0 : wr.cell? ⟨b, o + t * 5, none⟩ = some (.int .i64 x.what) := hat t hjl 0 (.int .i64 x.what) (by rw [hx]; rfl)
      have c1 : wr.cell? ⟨b, o + t * 5 + 1, none⟩ = some (.int .i64 x.n) := hat t hjl 1 (.int .i64 x.n) (by rw [hx]; rfl)
      have c2 : wr.cell? ⟨b, o + t * 5 + 2, none⟩ = some (.int .i64 x.m) := hat t hjl 2 (.int .i64 x.m) (by rw [hx]; rfl)
      have c3 : wr.cell? ⟨b, o + t * 5 + 3, none⟩ = some (.slice x.b.a x.b.l.length x.b.c) := hat t hjl 3 (.slice x.b.a x.b.l.length x.b.c) (by rw [hx]; rfl)
      have c4 : wr.cell? ⟨b, o + t * 5 + 4, none⟩ = some (.int .i64 x.torn) := hat t hjl 4 (.int .i64 x.torn) (by rw [hx]; rfl)
      have Hok3 : Hid (x.ok w3) := Lib.hid (by rw [hx]; exact HL.out.ok _ (List.getElem_mem hjl))
      have Hok5 := Lib.hid hok
      have H300 := Lib.hid h300
      clear hat hx hok h300
      obtain ⟨z, hz, ez⟩ : ∃ z : Nat, z < 9 ∧ (IntKind.u64.wrap x.what).tmod 9 = (z : Int) := by
        have hx : 0 ≤ IntKind.u64.wrap x.what := by rw [IntKind.wrap_u64]; omega
        rw [Int.tmod_eq_emod_of_nonneg hx]
        exact ⟨((IntKind.u64.wrap x.what) % 9).toNat, by omega, by omega⟩
      by_cases hz5 : z = 5
      · as_aux_lemma =>
          have e5 : ((z : Int) == 5) = true := by simp; omega
          have hput := setRow_heap (wr.alloc (.cells #[.int .i64 0, .int .i64 0, .int .i64 0, .slice none 0 0, .int .i64 0] 38)) wr.heap.size _ #[.int .i64 x.what, .int .i64 x.n, .int .i64 x.m, .slice x.b.a x.b.l.length x.b.c, .int .i64 x.torn] _ _ (heap_alloc_new wr _)
          have hbp : Below wr.heap.size wr ((wr.alloc (.cells #[.int .i64 0, .int .i64 0, .int .i64 0, .slice none 0 0, .int .i64 0] 38)).setRow wr.heap.size #[.int .i64 x.what, .int .i64 x.n, .int .i64 x.m, .slice x.b.a x.b.l.length x.b.c, .int .i64 x.torn]) := bsetRow (ext_alloc wr _) (Nat.le_refl _) _
          have m0 := cell_of_row _ _ 0 _ _ _ hput
          have m1 := cell_of_row _ _ 1 _ _ _ hput
          have m2 := cell_of_row _ _ 2 _ _ _ hput
          have m3 := cell_of_row _ _ 3 _ _ _ hput
          have m4 := cell_of_row _ _ 4 _ _ _ hput
          go_wp2_with (first
            | (refine wpList_store_row rfl rfl 38 (.tmp 17) (.tmp 131) rfl wr.heap.size rfl 38 #[.int .i64 0, .int .i64 0, .int .i64 0, .slice none 0 0, .int .i64 0] #[.int .i64 x.what, .int .i64 x.n, .int .i64 x.m, .slice x.b.a x.b.l.length x.b.c, .int .i64 x.torn] rfl (heap_alloc_new wr _) rfl (by kernel_rfl) (by intro v hv; simp at hv; rcases hv with rfl | rfl | rfl | rfl | rfl <;> rfl) ?_))
          generalize hws : World.setRow _ _ _ = w1 at *
          have HD1 := Lib.hid (HD.out.ext hbp)
          have HB1 := Lib.hid (bthen HBr.out hbp (Nat.le_refl _))
          have Hok1 := Lib.hid (show A5okR w1 x from ⟨Hok5.out.1.ext hbp, Hok5.out.2⟩)
          clear hws hbp c0 c1 c2 c3 c4 m0
          have HS3 : Hid (∀ w', Below w3.heap.size w3 w' → Src w' x.b.a (bvs x.b.l)) := Lib.hid fun w' hb => (Hok3.out.1.ext hb).1
          have HLE3 : Hid (x.b.l.length ≤ 300) := H300
          refine (twin_at x.b.a x.b.c x.b.l.length x.b.l w1 (HS3.out _ HB1.out) rfl (by have := HLE3.out; omega)).mono ?_
          rintro e w2x ⟨aT, cT, rfl, hoT, hbT⟩
          obtain ⟨nb, hnb⟩ : ∃ n, n = x.b.l.length := ⟨_, rfl⟩
          rw [← hnb] at hoT m3 ⊢
          have Hnb := Lib.hid hnb
          have hnb3 : nb ≤ 300 := by have := HLE3.out; omega
          clear hnb
          obtain ⟨GA, hGA⟩ : ∃ G, G = wr.heap.size := ⟨_, rfl⟩
          rw [← hGA] at hput m1 m2 m3 m4 ⊢
          clear hGA
          obtain ⟨wA, hwA⟩ : ∃ wA, wA = w2x.alloc (.cells #[.int .i64 1, .slice aT nb cT, .bool false] 42) := ⟨_, rfl⟩
          have hcl : wA.heap[w2x.heap.size]? = some (.cells #[.int .i64 1, .slice aT nb cT, .bool false] 42 (0, 0)) := by rw [hwA]; exact heap_alloc_new _ _
          have hbA : Below w1.heap.size w1 wA := by rw [hwA]; exact bthen hbT (ext_alloc _ _) (Nat.le_refl _)
          have hszA : wA.heap.size = w2x.heap.size + 1 := by rw [hwA]; exact World.size_alloc _ _
          have hoT1 : OwnM wA w1.heap.size (some ⟨w2x.heap.size, 0, none⟩) 1 [⟨1, ⟨aT, cT, x.b.l⟩, false⟩] := by
            refine ⟨⟨rfl, .inr ⟨w2x.heap.size, _, rfl, hbT.size, hcl, Nat.le_refl 1, by decide, rfl, ?_⟩⟩, fun y hy => ?_, by simp [Apart]⟩
            · rw [Hnb.out]; rfl
            · obtain rfl := List.mem_singleton.1 hy
              have := hoT.ext (w' := wA) (by rw [hwA]; exact ext_alloc _ _)
              rw [Hnb.out] at this
              exact this
          have hMr : MedR wA w1.heap.size ⟨(sN : Int), pls [⟨1, ⟨aT, cT, x.b.l⟩, false⟩]⟩ (some ⟨w2x.heap.size, 0, none⟩) 1 1 [⟨1, ⟨aT, cT, x.b.l⟩, false⟩] := ⟨hoT1, rfl, rfl⟩
          have HMr := Lib.hid hMr
          have HbA := Lib.hid hbA
          have m2B := (World.cell?_of_block (w := w1) (a := ⟨GA, 2, none⟩) ((bthen hbA (ext_alloc wA (.cells #[.int .i64 sN, .slice (some ⟨w2x.heap.size, 0, none⟩) 1 1] 45)) (Nat.le_refl _)).block _ (heap_lt hput))).trans m2
          have hbx := heap_alloc_new wA (.cells #[.int .i64 sN, .slice (some ⟨w2x.heap.size, 0, none⟩) 1 1] 45)
          rw [hszA] at hbx
          have b0 := cell_of_row _ _ 0 _ _ _ hbx
          have b1 := cell_of_row _ _ 1 _ _ _ hbx
          have Hbx := Lib.hid hbx
          have HszA := Lib.hid hszA
          have HwA := Lib.hid hwA
          rw [hwA] at m2B b0 b1
          clear hcl hbA hszA hoT1 hMr hbx hwA hoT hbT m3 m4
          by_cases hneg : x.m < 0
          · have eneg : decide (x.m < 0) = true := by simpa using hneg
            go_wp2_with fail
            have HD1 := HD1
            rw [← HwA.out]
            have hboxB := heap_alloc_new wA (.cells #[.int .i64 x.m, .slice (some ⟨w2x.heap.size, 0, none⟩) 1 1] 45)
            rw [HszA.out] at hboxB
            have hbAB := ext_alloc wA (.cells #[.int .i64 x.m, .slice (some ⟨w2x.heap.size, 0, none⟩) 1 1] 45)
            obtain ⟨us, hus⟩ : ∃ us, us = [CellV.mk 1 ⟨aT, cT, x.b.l⟩ false] := ⟨_, rfl⟩
            have hMB : MedR (wA.alloc (.cells #[.int .i64 x.m, .slice (some ⟨w2x.heap.size, 0, none⟩) 1 1] 45)) w1.heap.size ⟨x.m, pls us⟩ (some ⟨w2x.heap.size, 0, none⟩) 1 1 us := by
              have h := HMr.out.own
              rw [← hus] at h
              exact ⟨h.ext hbAB, by rw [hus]; rfl, rfl⟩
            have Hxs : Hid (∀ y ∈ us, y.d.l.length ≤ 140737488355328) := Lib.hid (by rw [hus]; intro y hy; obtain rfl := List.mem_singleton.1 hy; have := HLE3.out; show x.b.l.length ≤ _; omega)
            have hbB := bthen HbA.out hbAB (Nat.le_refl _)
            obtain ⟨GC, hGC⟩ : ∃ G, G = w2x.heap.size := ⟨_, rfl⟩
            rw [← hGC] at hboxB hMB hbAB hbB ⊢
            have HGC : Hid (w1.heap.size ≤ GC + 1) := Lib.hid (by rw [hGC, ← HszA.out]; exact HbA.out.size)
            generalize hwB : wA.alloc (.cells #[.int .i64 x.m, .slice (some ⟨GC, 0, none⟩) 1 1] 45) = wB at *
            have HMB := Lib.hid hMB
            have HboxB := Lib.hid hboxB
            have HbB := Lib.hid hbB
            clear hwB hbAB hboxB hbB hMB b0 b1 m2B hus hGC HMr HbA HwA HszA Hbx eneg hneg
            refine (twinmed_any x.m (some ⟨GC, 0, none⟩) 1 1 us wB HMB.out.mat HMB.out.len.symm (by decide) Hxs.out).mono ?_
            rintro e wC ⟨aX, cX, csX, rfl, hlX, hoX, hpX, hbX⟩
            have hMX : MedR wC wB.heap.size ⟨x.m, pls us⟩ aX 1 cX csX := ⟨hoX, hlX, hpX⟩
            have hcX : 1 ≤ cX := by have := hoX.row.len.1; rw [hlX] at this; exact this
            have hzX := heap_alloc_new wC (.cells #[.int .i64 0, .slice none 0 0] 45)
            obtain ⟨hTX, hSX⟩ := TapeO.new x.m rfl hMX hcX
            go_wp2_with (refine wpList_store_row rfl rfl 45 (.tmp 20) (.tmp 239) rfl wC.heap.size rfl 45 #[.int .i64 0, .slice none 0 0] #[.int .i64 x.m, .slice aX 1 cX] rfl hzX rfl (by kernel_rfl) (by simp [Value.oneCell']) ?_)
            have hbBD := bthen hbX hSX (Nat.le_refl _)
            obtain ⟨GX, hGX⟩ : ∃ G, G = wC.heap.size := ⟨_, rfl⟩
            rw [← hGX] at hTX hbBD ⊢
            generalize hwD : (wC.alloc (.cells #[.int .i64 0, .slice none 0 0] 45)).setRow GX #[.int .i64 x.m, .slice aX 1 cX] = wD at *
            have HTX := Lib.hid hTX
            have HBN := Lib.hid (hTX.r.own.bnd hTX.r.len)
            have hb1D := bthen HbB.out hbBD (Nat.le_refl _)
            have HMD := Lib.hid (HMB.out.ext hbBD)
            have HBD := Lib.hid (bthen HB1.out hb1D (Nat.le_refl _))
            have HDD := Lib.hid ((HD1.out.hole wD.heap.size (Nat.le_refl _)).ext hb1D)
            have hmb := (hbBD.block _ (heap_lt HboxB.out)).trans HboxB.out
            have hxb : wD.heap[GX]? = some (.cells #[.int .i64 x.m, .slice aX 1 cX] 45 (0, 0)) := hTX.box
            have hput2 := (hb1D.block _ (heap_lt hput)).trans hput
            have HGX : Hid (w1.heap.size ≤ GX ∧ GX < wD.heap.size) := Lib.hid ⟨by rw [hGX]; exact Nat.le_trans HbB.out.size hbX.size, heap_lt hxb⟩
            have HGM : Hid (w1.heap.size ≤ GC + 1 ∧ GC + 1 < wD.heap.size) := Lib.hid ⟨HGC.out, heap_lt hmb⟩
            have HlB := Lib.hid HbB.out.size
            have HlD := Lib.hid hbBD.size
            clear hwD hTX hSX hMX hlX hoX hpX hbX hcX hzX hbBD hb1D hGX HMB HboxB HbB
            clear hput m1 m2
            have hput := hput2
            clear hput2
            have m1 := cell_of_row _ _ 1 _ _ _ hput
            have x0 := cell_of_row _ _ 0 _ _ _ hxb
            have x1 := cell_of_row _ _ 1 _ _ _ hxb
            have y0 := cell_of_row _ _ 0 _ _ _ hmb
            have y1 := cell_of_row _ _ 1 _ _ _ hmb
            obtain ⟨⟨S', Ep⟩, hpe⟩ : ∃ y, y = S.putE x.n ⟨x.m, pls us⟩ := ⟨_, rfl⟩
            have HPE := Lib.hid hpe.symm
            clear hpe
            have Hxs' : Hid (∀ y ∈ csX, y.d.l.length ≤ 140737488355328) := Lib.hid (HTX.out.r.short fun c hc => by obtain ⟨y, hy, rfl⟩ := List.mem_map.1 hc; exact Hxs.out y hy)
            refine wp_region_free (by kernel_rfl) [0, 1, 2, 3, 5, 6, 7, 8] [4, 9] (Mod.rel (TRF w3.heap.size w1.heap.size wD.heap.size)) [SpT.eq (.pointer (some ⟨r, 0, none⟩)), SpT.eq (.pointer (some ⟨GA, 1, none⟩)), SpT.eq (.int .i64 x.n), SpT.eq (.agg #[.int .i64 x.m, .slice aX 1 cX]), SpT.top, SpT.eq (.pointer (some ⟨rr, 0, none⟩)), SpT.eq (.pointer (some ⟨GA, 1, none⟩)), SpT.eq (.int .i64 x.n), SpT.eq (.agg #[.int .i64 x.m, .slice (some ⟨GC, 0, none⟩) 1 1]), SpT.top, SpT.top, SpT.top, SpT.top, SpT.top, SpT.top, SpT.top, SpT.top] (by kernel_rfl) (by kernel_rfl) (by kernel_rfl) ?_ ?_
            · refine stepsE_yes rfl ?_ (stepsE_yes rfl ?_ (stepsE_yes rfl ?_ (stepsE_yes rfl ?_ (stepsE_no rfl (stepsE_yes rfl ?_ (stepsE_yes rfl ?_ (stepsE_yes rfl ?_ (stepsE_yes rfl ?_ (stepsE_no rfl (stepsE_no rfl (stepsE_no rfl (stepsE_no rfl (stepsE_no rfl (stepsE_no rfl (stepsE_no rfl (stepsE_no rfl (stepsE_nil)))))))))))))))))
              · intro ρ w' E
                have e11 : ρ (.tmp 11) = .pointer (some ⟨r, 0, none⟩) := E.out 11 rfl
                refine step_plain rfl ?_
                refine op_val (v := .pointer (some ⟨r, 0, none⟩)) (w' := w') ?_ ⟨Below.refl _ _, rfl⟩
                have hcon := E.con
                clear E
                go_simp
              · intro ρ w' E
                have e17 : ρ (.tmp 17) = .pointer (some ⟨GA, 0, none⟩) := E.out 17 rfl
                refine step_plain rfl ?_
                refine op_val (v := .pointer (some ⟨GA, 1, none⟩)) (w' := w') ?_ ⟨Below.refl _ _, rfl⟩
                have hcon := E.con
                clear E
                go_simp
              · intro ρ w' E
                have e241 : ρ (.tmp 241) = .pointer (some ⟨GA, 1, none⟩) := E.pre 1 rfl
                refine step_plain rfl ?_
                have k := (World.cell?_of_block (w := wD) ((E.t.keep hput (fun hf => TRF_noA _ hf)).trans hput.symm)).trans m1
                refine op_val (v := .int .i64 x.n) (w' := w') ?_ ⟨Below.refl _ _, rfl⟩
                have hcon := E.con
                clear E m1 x0 x1 y0 y1 hput hxb hmb
                go_simp
              · intro ρ w' E
                have e20 : ρ (.tmp 20) = .pointer (some ⟨GX, 0, none⟩) := E.out 20 rfl
                refine step_plain rfl ?_
                have hkb := (E.t.keep hxb (fun hf => TRF_noM HGX.out hf)).trans hxb.symm
                have k0 := (World.cell?_of_block (w := wD) hkb).trans x0
                have k1 := (World.cell?_of_block (w := wD) hkb).trans x1
                refine op_val (v := .agg #[.int .i64 x.m, .slice aX 1 cX]) (w' := w') ?_ ⟨Below.refl _ _, rfl⟩
                have hcon := E.con
                clear E hkb m1 x0 x1 y0 y1 hput hxb hmb
                go_simp
              · intro ρ w' E
                have e15 : ρ (.tmp 15) = .pointer (some ⟨rr, 0, none⟩) := E.out 15 rfl
                refine step_plain rfl ?_
                refine op_val (v := .pointer (some ⟨rr, 0, none⟩)) (w' := w') ?_ ⟨Below.refl _ _, rfl⟩
                have hcon := E.con
                clear E
                go_simp
              · intro ρ w' E
                have e17 : ρ (.tmp 17) = .pointer (some ⟨GA, 0, none⟩) := E.out 17 rfl
                refine step_plain rfl ?_
                refine op_val (v := .pointer (some ⟨GA, 1, none⟩)) (w' := w') ?_ ⟨Below.refl _ _, rfl⟩
                have hcon := E.con
                clear E
                go_simp
              · intro ρ w' E
                have e246 : ρ (.tmp 246) = .pointer (some ⟨GA, 1, none⟩) := E.pre 6 rfl
                refine step_plain rfl ?_
                have k := (World.cell?_of_block (w := wD) ((E.t.keep hput (fun hf => TRF_noA _ hf)).trans hput.symm)).trans m1
                refine op_val (v := .int .i64 x.n) (w' := w') ?_ ⟨Below.refl _ _, rfl⟩
                have hcon := E.con
                clear E m1 x0 x1 y0 y1 hput hxb hmb
                go_simp
              · intro ρ w' E
                have e19 : ρ (.tmp 19) = .pointer (some ⟨(GC + 1), 0, none⟩) := E.out 19 rfl
                refine step_plain rfl ?_
                have hkb := (E.t.keep hmb (fun hf => TRF_noM HGM.out hf)).trans hmb.symm
                have k0 := (World.cell?_of_block (w := wD) hkb).trans y0
                have k1 := (World.cell?_of_block (w := wD) hkb).trans y1
                refine op_val (v := .agg #[.int .i64 x.m, .slice (some ⟨GC, 0, none⟩) 1 1]) (w' := w') ?_ ⟨Below.refl _ _, rfl⟩
                have hcon := E.con
                clear E hkb m1 x0 x1 y0 y1 hput hxb hmb
                go_simp
            · skip
              refine stageH_more [Sp.eq undef, Sp.eq undef, Sp.eq undef, Sp.eq undef] rfl ?_ ?_
              · refine stepsH_skip rfl (stepsH_skip rfl (stepsH_skip rfl (stepsH_skip rfl (stepsH_nil))))
              · intro σ1 ρ1 w1c E1 K1
                have e240 : ρ1 (.tmp 240) = .pointer (some ⟨r, 0, none⟩) := E1.early 0 rfl rfl
                have e242 : ρ1 (.tmp 242) = .int .i64 x.n := E1.early 2 rfl rfl
                have e243 : ρ1 (.tmp 243) = .agg #[.int .i64 x.m, .slice aX 1 cX] := E1.early 3 rfl rfl
                refine step_plain rfl ?_
                refine op_call (f := 14) (args := #[.pointer (some ⟨r, 0, none⟩), .int .i64 x.n, .agg #[.int .i64 x.m, .slice aX 1 cX]]) (w' := w1c) (by have hcon := E1.con; have hfn := E1.fn; clear E1 m1 x0 x1 y0 y1 hput hxb hmb; go_simp) ?_
                have hB5 := bthen HBD.out E1.below (Nat.le_refl _)
                refine ((HDD.out.ext E1.below).real E1.below.size (X := fun e D' _ => e = .returned (.int .i64 Ep) ∧ D = D') (fun K hR hu => (rob_putE (m := (⟨x.m, pls us⟩ : Med)) (us := csX) HPE.out (by rw [HTX.out.r.pls]) w1c hR hu (HTX.out.r.ext E1.below).mat HTX.out.r.len.symm (by decide) Hxs'.out).mono fun e w' ⟨he, h1, hm⟩ => ⟨D, ⟨he, rfl⟩, h1, hm⟩)).mono ?_
                rintro e w2x ⟨D', ⟨rfl, rfl⟩, hd2, hm2⟩
                have HB5 := Lib.hid (hB5.trans (hm2.below (fun b T h => h.1) hB5.size))
                have HlF1 := Lib.hid (Nat.le_trans E1.below.size hm2.size)
                clear hB5
                refine ⟨_, rfl, hm2, ?_⟩
                refine stageH_more [Sp.eq undef, Sp.eq undef, Sp.eq undef, Sp.eq undef] rfl ?_ ?_
                · refine stepsH_skip rfl (stepsH_skip rfl (stepsH_skip rfl (stepsH_skip rfl (stepsH_nil))))
                · intro σ2 ρ2 w2c E2 K2
                  have s244_2 : σ2 244 = .int .i64 Ep := (K2.old 4 244 rfl rfl rfl).trans rfl
                  have e245 : ρ2 (.tmp 245) = .pointer (some ⟨rr, 0, none⟩) := E2.early 5 rfl rfl
                  have e247 : ρ2 (.tmp 247) = .int .i64 x.n := E2.early 7 rfl rfl
                  have e248 : ρ2 (.tmp 248) = .agg #[.int .i64 x.m, .slice (some ⟨GC, 0, none⟩) 1 1] := E2.early 8 rfl rfl
                  refine step_plain rfl ?_
                  refine op_call (f := 15) (args := #[.pointer (some ⟨rr, 0, none⟩), .int .i64 x.n, .agg #[.int .i64 x.m, .slice (some ⟨GC, 0, none⟩) 1 1]]) (w' := w2c) (by have hcon := E2.con; have hfn := E2.fn; clear E2 E1 m1 x0 x1 y0 y1 hput hxb hmb; go_simp) ?_
                  have hB6 := bthen HB5.out E2.below (Nat.le_refl _)
                  have hE2t := E2.t
                  refine ((hd2.ext E2.below).ref (Nat.le_trans HlF1.out E2.below.size) (X := fun e E' _ => e = .returned (.int .i64 Ep) ∧ E = E') (fun Z hR hu hfr => (rrob_putE (m := (⟨x.m, pls us⟩ : Med)) (us := us) HPE.out rfl w2c hR hu (fun w' hM => (HMD.out.trf (Nat.le_refl _) (Nat.le_refl _) (hE2t.trans (hfr w' hM))).mat) HMD.out.len.symm (by decide) Hxs.out).mono fun e w' ⟨he, h1, hm⟩ => ⟨E, ⟨he, rfl⟩, h1, hm⟩)).mono ?_
                  rintro e w4x ⟨E', ⟨rfl, rfl⟩, hd3, hm3⟩
                  have HB6 := Lib.hid (hB6.trans (hm3.below (fun b T h => h.1) hB6.size))
                  have HlF0 := Lib.hid (Nat.le_trans (Nat.le_trans HlF1.out E2.below.size) hm3.size)
                  clear hd2 hm2 HB5 hB6 hE2t HlF1
                  refine ⟨_, rfl, hm3, ?_⟩
                  refine stageH_last [Sp.eq (.bool false), Sp.eq (.bool false), Sp.eq (.agg #[.int .i64 x.m, .slice aX 1 cX]), Sp.eq (.agg #[.int .i64 x.m, .slice (some ⟨GC, 0, none⟩) 1 1]), Sp.eq (.bool true), Sp.eq (.bool false), Sp.eq (.bool false)] ?_ ?_
                  · refine stepsH_cons rfl ?_ (stepsH_cons rfl ?_ (stepsH_cons rfl ?_ (stepsH_cons rfl ?_ (stepsH_cons rfl ?_ (stepsH_cons rfl ?_ (stepsH_cons rfl ?_ (stepsH_nil)))))))
                    · intro ρ w' E
                      have e244 : ρ (.tmp 244) = .int .i64 Ep := (E.old 4 244 rfl rfl rfl).trans s244_2
                      have e249 : ρ (.tmp 249) = .int .i64 Ep := (E.old 9 249 rfl rfl rfl).trans rfl
                      refine step_plain rfl ?_
                      refine op_val (v := .bool false) (w' := w') ?_ ⟨Below.refl _ _, rfl⟩
                      have hcon := E.con
                      clear E
                      go_simp
                    · intro ρ w' E
                      have e250 : ρ (.tmp 250) = .bool false := E.pre 10 rfl rfl rfl
                      refine step_plain rfl ?_
                      exact op_move (.inl rfl) e250 ⟨Below.refl _ _, rfl⟩
                    · intro ρ w' E
                      have e20 : ρ (.tmp 20) = .pointer (some ⟨GX, 0, none⟩) := E.out 20 rfl
                      refine step_yes rfl (E.pre 11 rfl rfl rfl) ?_
                      have hkb := (E.t.keep hxb (fun hf => TRF_noM HGX.out hf)).trans hxb.symm
                      have k0 := (World.cell?_of_block (w := wD) hkb).trans x0
                      have k1 := (World.cell?_of_block (w := wD) hkb).trans x1
                      refine op_val (v := .agg #[.int .i64 x.m, .slice aX 1 cX]) (w' := w') ?_ ⟨Below.refl _ _, rfl⟩
                      have hcon := E.con
                      clear E hkb m1 x0 x1 y0 y1 hput hxb hmb
                      go_simp
                    · intro ρ w' E
                      have e19 : ρ (.tmp 19) = .pointer (some ⟨(GC + 1), 0, none⟩) := E.out 19 rfl
                      refine step_yes rfl (E.pre 11 rfl rfl rfl) ?_
                      have hkb := (E.t.keep hmb (fun hf => TRF_noM HGM.out hf)).trans hmb.symm
                      have k0 := (World.cell?_of_block (w := wD) hkb).trans y0
                      have k1 := (World.cell?_of_block (w := wD) hkb).trans y1
                      refine op_val (v := .agg #[.int .i64 x.m, .slice (some ⟨GC, 0, none⟩) 1 1]) (w' := w') ?_ ⟨Below.refl _ _, rfl⟩
                      have hcon := E.con
                      clear E hkb m1 x0 x1 y0 y1 hput hxb hmb
                      go_simp
                    · intro ρ w' E
                      have e252 : ρ (.tmp 252) = .agg #[.int .i64 x.m, .slice aX 1 cX] := E.pre 12 rfl rfl rfl
                      have e253 : ρ (.tmp 253) = .agg #[.int .i64 x.m, .slice (some ⟨GC, 0, none⟩) 1 1] := E.pre 13 rfl rfl rfl
                      refine step_yes rfl (E.pre 11 rfl rfl rfl) ?_
                      refine op_call (f := 16) (args := #[.agg #[.int .i64 x.m, .slice aX 1 cX], .agg #[.int .i64 x.m, .slice (some ⟨GC, 0, none⟩) 1 1]]) (w' := w') (by have hcon := E.con; have hfn := E.fn; clear E m1 x0 x1 y0 y1 hput hxb hmb; go_simp) ?_
                      have hXe := HTX.out.r.trf HlB.out (Nat.le_refl _) E.t
                      have hMe := HMD.out.trf (Nat.le_refl _) (Nat.le_refl _) E.t
                      refine (keepmed_any x.m x.m aX (some ⟨GC, 0, none⟩) cX 1 1 1 csX us true w' hXe.mat hMe.mat hXe.len.symm hMe.len.symm (by decide) (by decide) (by rw [hXe.pls]; simp)).mono ?_
                      rintro e w2 ⟨rfl, hb⟩
                      exact ⟨_, rfl, hb, rfl⟩
                    · intro ρ w' E
                      have e254 : ρ (.tmp 254) = .bool true := E.pre 14 rfl rfl rfl
                      refine step_yes rfl (E.pre 11 rfl rfl rfl) ?_
                      refine op_val (v := .bool false) (w' := w') ?_ ⟨Below.refl _ _, rfl⟩
                      have hcon := E.con
                      clear E
                      go_simp
                    · intro ρ w' E
                      have e251 : ρ (.tmp 251) = .bool false := E.pre 11 rfl rfl rfl
                      have e255 : ρ (.tmp 255) = .bool false := E.pre 15 rfl rfl rfl
                      refine step_plain rfl ?_
                      exact op_pick (b := false) rfl e251 rfl ⟨Below.refl _ _, e255⟩
                  · intro σF wF KF EF
                    have s256 : σF 256 = .bool false := KF.val 16 rfl rfl rfl
                    have GF := KF.below
                    have HXF : Hid (MedR wF wB.heap.size ⟨x.m, pls us⟩ aX 1 cX csX) := Lib.hid (HTX.out.r.trf HlB.out (Nat.le_refl _) KF.t)
                    have hxF := KF.t.keep hxb (fun hf => TRF_noM HGX.out hf)
                    have z0 := cell_of_row _ _ 0 _ _ _ hxF
                    have z1 := cell_of_row _ _ 1 _ _ _ hxF
                    clear KF EF hput m1 x0 x1 y0 y1 hxb hmb
                    simp only [upd, updL, dstsOf', elemB, List.filterMap_cons, List.filterMap_nil, Nat.reduceAdd, Nat.reduceBEq, Bool.or_false, Bool.or_true, cond_true, cond_false, Nat.zero_add, s256]
                    have HDF := Lib.hid (hd3.ext GF)
                    have HBF := Lib.hid (bthen HB6.out GF (Nat.le_refl _))
                    have HlF := Lib.hid (Nat.le_trans HlD.out (Nat.le_trans HlF0.out GF.size))
                    clear hd3 hm3 HB6 GF HlF0 hxF
                    go_wp2_with fail
                    refine (spoilmed_ty wB.heap.size wD.heap.size x.m aX cX 1 csX wF HXF.out.own HXF.out.len.symm (by decide) Hxs'.out HlF.out HBN.out.1 HBN.out.2).mono ?_
                    rintro e wy ⟨rfl, hbf, hmf⟩
                    obtain ⟨SE, DE, sE, EE, HDE, HSE, HBE⟩ : ∃ SE DE sE EE, Hid (TwoR w3.heap.size 0 0 wy r g rr q SE DE sE SE EE sE) ∧ Hid (RSame SE sE vN dN sN (t + 1)) ∧ Hid (Below w3.heap.size w3 wy) := ⟨_, _, _, _, Lib.hid ((HDF.out.spoil hmf fun b T hf => ⟨⟨by have := hf.1; have := HlB.out; omega, hf.2.1⟩, hf.2.2.elim .inl fun h => .inr (.inl h)⟩).whole), Lib.hid (by
                      have hl := RS.putE_len HPE.out
                      exact ⟨hl.1.trans HSr.out.vols, hl.2.1.trans HSr.out.bays, hl.2.2.1.trans HSr.out.size, by rw [hl.2.2.2.1]; have := HSr.out.asked; omega, by have := HSr.out.life; omega⟩), Lib.hid (HBF.out.trans (hbf.mono (Nat.le_trans HB1.out.size HlB.out)))⟩
                    clear hbf hmf HDF HBF HlF z0 z1
                    go_wp2_with fail
                    obtain ⟨Z, ⟨V, hRL, _⟩, _⟩ := HDE.out.refP
                    obtain ⟨_, _, _, _, _, _, q6, _, hlr⟩ := hRL.cells
                    obtain ⟨KE, hKE⟩ := HDE.out.realP
                    have HKE := Lib.hid hKE
                    obtain ⟨mt, hmt⟩ : ∃ m, m = SE.mounts := ⟨_, rfl⟩
                    rw [← hmt] at q6
                    have Hmt := Lib.hid hmt.symm
                    clear hRL hKE hmt
                    refine wp_region_phase (by kernel_rfl) [] (by kernel_rfl) (by kernel_rfl) ?_
                    refine stage_last [Sp.eq (.pointer (some ⟨r, 0, none⟩)), Sp.eq (.int .i64 mt), Sp.eq (.pointer (some ⟨rr, 0, none⟩)), Sp.eq (.pointer (some ⟨rr, 0, none⟩)), Sp.eq (.pointer (some ⟨rr, 6, none⟩)), Sp.eq (.int .i64 mt), Sp.eq (.bool false)] ?_ ?_
                    · refine stepsG_cons ?_ (stepsG_cons ?_ (stepsG_cons ?_ (stepsG_cons ?_ (stepsG_cons ?_ (stepsG_cons ?_ (stepsG_cons ?_ (stepsG_nil)))))))
                      · intro ρ w' E
                        have e11 : ρ (.tmp 11) = .pointer (some ⟨r, 0, none⟩) := E.out 11 rfl
                        refine step_plain rfl ?_
                        refine op_val (v := .pointer (some ⟨r, 0, none⟩)) (w' := w') ?_ ⟨Below.refl _ _, rfl⟩
                        have hcon := E.con
                        clear E
                        go_simp
                      · intro ρ w' E
                        have e289 : ρ (.tmp 289) = .pointer (some ⟨r, 0, none⟩) := E.pre 0 rfl rfl
                        refine step_plain rfl ?_
                        refine op_call (f := 36) (args := #[.pointer (some ⟨r, 0, none⟩)]) (w' := w') (by have hcon := E.con; have hfn := E.fn; clear E; go_simp) ?_
                        refine (rob_mountsP mt w' (HKE.out.ext E.below) Hmt.out).mono ?_
                        rintro e w2 ⟨rfl, rfl⟩
                        exact ⟨_, rfl, Below.refl _ _, rfl⟩
                      · intro ρ w' E
                        have e15 : ρ (.tmp 15) = .pointer (some ⟨rr, 0, none⟩) := E.out 15 rfl
                        refine step_plain rfl ?_
                        refine op_val (v := .pointer (some ⟨rr, 0, none⟩)) (w' := w') ?_ ⟨Below.refl _ _, rfl⟩
                        have hcon := E.con
                        clear E
                        go_simp
                      · intro ρ w' E
                        have e291 : ρ (.tmp 291) = .pointer (some ⟨rr, 0, none⟩) := E.pre 2 rfl rfl
                        refine step_plain rfl ?_
                        refine op_val (v := .pointer (some ⟨rr, 0, none⟩)) (w' := w') ?_ ⟨Below.refl _ _, rfl⟩
                        have hcon := E.con
                        clear E
                        go_simp
                      · intro ρ w' E
                        have e292 : ρ (.tmp 292) = .pointer (some ⟨rr, 0, none⟩) := E.pre 3 rfl rfl
                        refine step_plain rfl ?_
                        refine op_val (v := .pointer (some ⟨rr, 6, none⟩)) (w' := w') ?_ ⟨Below.refl _ _, rfl⟩
                        have hcon := E.con
                        clear E
                        go_simp
                      · intro ρ w' E
                        have e293 : ρ (.tmp 293) = .pointer (some ⟨rr, 6, none⟩) := E.pre 4 rfl rfl
                        refine step_plain rfl ?_
                        refine op_val (v := .int .i64 mt) (w' := w') ?_ ⟨Below.refl _ _, rfl⟩
                        have hk := (World.cell?_of_block (w := wy) (E.below.block _ hlr)).trans q6
                        have hcon := E.con
                        clear E q6
                        go_simp
                      · intro ρ w' E
                        have e290 : ρ (.tmp 290) = .int .i64 mt := E.pre 1 rfl rfl
                        have e294 : ρ (.tmp 294) = .int .i64 mt := E.pre 5 rfl rfl
                        refine step_plain rfl ?_
                        refine op_val (v := .bool false) (w' := w') ?_ ⟨Below.refl _ _, rfl⟩
                        have hcon := E.con
                        clear E
                        go_simp
                    · intro σF wF GF OF HF
                      have s295 : σF 295 = .bool false := HF 6 rfl rfl
                      clear OF HF
                      simp only [upd, updL, dstsOf', elemB, List.filterMap_cons, List.filterMap_nil, Nat.reduceAdd, Nat.reduceBEq, Bool.or_false, Bool.false_or, Bool.or_true, Bool.true_or, cond_true, cond_false, Nat.zero_add, s295]
                      have HDF := Lib.hid (HDE.out.ext GF)
                      have HBF := Lib.hid (bthen HBE.out GF (Nat.le_refl _))
                      clear GF q6 hlr HDE HBE HKE Hmt
                      go_wp2_with fail
                      go_roundw
                      case rel => exact ⟨t + 1, _, _, _, _, _, rfl, by omega, by omega, by go_num, HDF, HSE, HBF⟩
                      case measure => simp [intOf]; omega
          · have eneg : decide (x.m < 0) = false := by simpa using hneg
            go_wp2_with fail
            have HD1 := HD1
            rw [← HwA.out]
            have hboxB := heap_alloc_new wA (.cells #[.int .i64 (sN:Int), .slice (some ⟨w2x.heap.size, 0, none⟩) 1 1] 45)
            rw [HszA.out] at hboxB
            have hbAB := ext_alloc wA (.cells #[.int .i64 (sN:Int), .slice (some ⟨w2x.heap.size, 0, none⟩) 1 1] 45)
            obtain ⟨us, hus⟩ : ∃ us, us = [CellV.mk 1 ⟨aT, cT, x.b.l⟩ false] := ⟨_, rfl⟩
            have hMB : MedR (wA.alloc (.cells #[.int .i64 (sN:Int), .slice (some ⟨w2x.heap.size, 0, none⟩) 1 1] 45)) w1.heap.size ⟨(sN:Int), pls us⟩ (some ⟨w2x.heap.size, 0, none⟩) 1 1 us := by
              have h := HMr.out.own
              rw [← hus] at h
              exact ⟨h.ext hbAB, by rw [hus]; rfl, rfl⟩
            have Hxs : Hid (∀ y ∈ us, y.d.l.length ≤ 140737488355328) := Lib.hid (by rw [hus]; intro y hy; obtain rfl := List.mem_singleton.1 hy; have := HLE3.out; show x.b.l.length ≤ _; omega)
            have hbB := bthen HbA.out hbAB (Nat.le_refl _)
            obtain ⟨GC, hGC⟩ : ∃ G, G = w2x.heap.size := ⟨_, rfl⟩
            rw [← hGC] at hboxB hMB hbAB hbB ⊢
            have HGC : Hid (w1.heap.size ≤ GC + 1) := Lib.hid (by rw [hGC, ← HszA.out]; exact HbA.out.size)
            generalize hwB : wA.alloc (.cells #[.int .i64 (sN:Int), .slice (some ⟨GC, 0, none⟩) 1 1] 45) = wB at *
            have HMB := Lib.hid hMB
            have HboxB := Lib.hid hboxB
            have HbB := Lib.hid hbB
            clear hwB hbAB hboxB hbB hMB b0 b1 m2B hus hGC HMr HbA HwA HszA Hbx eneg hneg
            refine (twinmed_any (sN:Int) (some ⟨GC, 0, none⟩) 1 1 us wB HMB.out.mat HMB.out.len.symm (by decide) Hxs.out).mono ?_
            rintro e wC ⟨aX, cX, csX, rfl, hlX, hoX, hpX, hbX⟩
            have hMX : MedR wC wB.heap.size ⟨(sN:Int), pls us⟩ aX 1 cX csX := ⟨hoX, hlX, hpX⟩
            have hcX : 1 ≤ cX := by have := hoX.row.len.1; rw [hlX] at this; exact this
            have hzX := heap_alloc_new wC (.cells #[.int .i64 0, .slice none 0 0] 45)
            obtain ⟨hTX, hSX⟩ := TapeO.new (sN:Int) rfl hMX hcX
            go_wp2_with (refine wpList_store_row rfl rfl 45 (.tmp 20) (.tmp 239) rfl wC.heap.size rfl 45 #[.int .i64 0, .slice none 0 0] #[.int .i64 (sN:Int), .slice aX 1 cX] rfl hzX rfl (by kernel_rfl) (by simp [Value.oneCell']) ?_)
            have hbBD := bthen hbX hSX (Nat.le_refl _)
            obtain ⟨GX, hGX⟩ : ∃ G, G = wC.heap.size := ⟨_, rfl⟩
            rw [← hGX] at hTX hbBD ⊢
            generalize hwD : (wC.alloc (.cells #[.int .i64 0, .slice none 0 0] 45)).setRow GX #[.int .i64 (sN:Int), .slice aX 1 cX] = wD at *
            have HTX := Lib.hid hTX
            have HBN := Lib.hid (hTX.r.own.bnd hTX.r.len)
            have hb1D := bthen HbB.out hbBD (Nat.le_refl _)
            have HMD := Lib.hid (HMB.out.ext hbBD)
            have HBD := Lib.hid (bthen HB1.out hb1D (Nat.le_refl _))
            have HDD := Lib.hid ((HD1.out.hole wD.heap.size (Nat.le_refl _)).ext hb1D)
            have hmb := (hbBD.block _ (heap_lt HboxB.out)).trans HboxB.out
            have hxb : wD.heap[GX]? = some (.cells #[.int .i64 (sN:Int), .slice aX 1 cX] 45 (0, 0)) := hTX.box
            have hput2 := (hb1D.block _ (heap_lt hput)).trans hput
            have HGX : Hid (w1.heap.size ≤ GX ∧ GX < wD.heap.size) := Lib.hid ⟨by rw [hGX]; exact Nat.le_trans HbB.out.size hbX.size, heap_lt hxb⟩
            have HGM : Hid (w1.heap.size ≤ GC + 1 ∧ GC + 1 < wD.heap.size) := Lib.hid ⟨HGC.out, heap_lt hmb⟩
            have HlB := Lib.hid HbB.out.size
            have HlD := Lib.hid hbBD.size
            clear hwD hTX hSX hMX hlX hoX hpX hbX hcX hzX hbBD hb1D hGX HMB HboxB HbB
            clear hput m1 m2
            have hput := hput2
            clear hput2
            have m1 := cell_of_row _ _ 1 _ _ _ hput
            have x0 := cell_of_row _ _ 0 _ _ _ hxb
            have x1 := cell_of_row _ _ 1 _ _ _ hxb
            have y0 := cell_of_row _ _ 0 _ _ _ hmb
            have y1 := cell_of_row _ _ 1 _ _ _ hmb
            obtain ⟨⟨S', Ep⟩, hpe⟩ : ∃ y, y = S.putE x.n ⟨(sN:Int), pls us⟩ := ⟨_, rfl⟩
            have HPE := Lib.hid hpe.symm
            clear hpe
            have Hxs' : Hid (∀ y ∈ csX, y.d.l.length ≤ 140737488355328) := Lib.hid (HTX.out.r.short fun c hc => by obtain ⟨y, hy, rfl⟩ := List.mem_map.1 hc; exact Hxs.out y hy)
            refine wp_region_free (by kernel_rfl) [0, 1, 2, 3, 5, 6, 7, 8] [4, 9] (Mod.rel (TRF w3.heap.size w1.heap.size wD.heap.size)) [SpT.eq (.pointer (some ⟨r, 0, none⟩)), SpT.eq (.pointer (some ⟨GA, 1, none⟩)), SpT.eq (.int .i64 x.n), SpT.eq (.agg #[.int .i64 (sN:Int), .slice aX 1 cX]), SpT.top, SpT.eq (.pointer (some ⟨rr, 0, none⟩)), SpT.eq (.pointer (some ⟨GA, 1, none⟩)), SpT.eq (.int .i64 x.n), SpT.eq (.agg #[.int .i64 (sN:Int), .slice (some ⟨GC, 0, none⟩) 1 1]), SpT.top, SpT.top, SpT.top, SpT.top, SpT.top, SpT.top, SpT.top, SpT.top] (by kernel_rfl) (by kernel_rfl) (by kernel_rfl) ?_ ?_
            · refine stepsE_yes rfl ?_ (stepsE_yes rfl ?_ (stepsE_yes rfl ?_ (stepsE_yes rfl ?_ (stepsE_no rfl (stepsE_yes rfl ?_ (stepsE_yes rfl ?_ (stepsE_yes rfl ?_ (stepsE_yes rfl ?_ (stepsE_no rfl (stepsE_no rfl (stepsE_no rfl (stepsE_no rfl (stepsE_no rfl (stepsE_no rfl (stepsE_no rfl (stepsE_no rfl (stepsE_nil)))))))))))))))))
              · intro ρ w' E
                have e11 : ρ (.tmp 11) = .pointer (some ⟨r, 0, none⟩) := E.out 11 rfl
                refine step_plain rfl ?_
                refine op_val (v := .pointer (some ⟨r, 0, none⟩)) (w' := w') ?_ ⟨Below.refl _ _, rfl⟩
                have hcon := E.con
                clear E
                go_simp
              · intro ρ w' E
                have e17 : ρ (.tmp 17) = .pointer (some ⟨GA, 0, none⟩) := E.out 17 rfl
                refine step_plain rfl ?_
                refine op_val (v := .pointer (some ⟨GA, 1, none⟩)) (w' := w') ?_ ⟨Below.refl _ _, rfl⟩
                have hcon := E.con
                clear E
                go_simp
              · intro ρ w' E
                have e241 : ρ (.tmp 241) = .pointer (some ⟨GA, 1, none⟩) := E.pre 1 rfl
                refine step_plain rfl ?_
                have k := (World.cell?_of_block (w := wD) ((E.t.keep hput (fun hf => TRF_noA _ hf)).trans hput.symm)).trans m1
                refine op_val (v := .int .i64 x.n) (w' := w') ?_ ⟨Below.refl _ _, rfl⟩
                have hcon := E.con
                clear E m1 x0 x1 y0 y1 hput hxb hmb
                go_simp
              · intro ρ w' E
                have e20 : ρ (.tmp 20) = .pointer (some ⟨GX, 0, none⟩) := E.out 20 rfl
                refine step_plain rfl ?_
                have hkb := (E.t.keep hxb (fun hf => TRF_noM HGX.out hf)).trans hxb.symm
                have k0 := (World.cell?_of_block (w := wD) hkb).trans x0
                have k1 := (World.cell?_of_block (w := wD) hkb).trans x1
                refine op_val (v := .agg #[.int .i64 (sN:Int), .slice aX 1 cX]) (w' := w') ?_ ⟨Below.refl _ _, rfl⟩
                have hcon := E.con
                clear E hkb m1 x0 x1 y0 y1 hput hxb hmb
                go_simp
              · intro ρ w' E
                have e15 : ρ (.tmp 15) = .pointer (some ⟨rr, 0, none⟩) := E.out 15 rfl
                refine step_plain rfl ?_
                refine op_val (v := .pointer (some ⟨rr, 0, none⟩)) (w' := w') ?_ ⟨Below.refl _ _, rfl⟩
                have hcon := E.con
                clear E
                go_simp
              · intro ρ w' E
                have e17 : ρ (.tmp 17) = .pointer (some ⟨GA, 0, none⟩) := E.out 17 rfl
                refine step_plain rfl ?_
                refine op_val (v := .pointer (some ⟨GA, 1, none⟩)) (w' := w') ?_ ⟨Below.refl _ _, rfl⟩
                have hcon := E.con
                clear E
                go_simp
              · intro ρ w' E
                have e246 : ρ (.tmp 246) = .pointer (some ⟨GA, 1, none⟩) := E.pre 6 rfl
                refine step_plain rfl ?_
                have k := (World.cell?_of_block (w := wD) ((E.t.keep hput (fun hf => TRF_noA _ hf)).trans hput.symm)).trans m1
                refine op_val (v := .int .i64 x.n) (w' := w') ?_ ⟨Below.refl _ _, rfl⟩
                have hcon := E.con
                clear E m1 x0 x1 y0 y1 hput hxb hmb
                go_simp
              · intro ρ w' E
                have e19 : ρ (.tmp 19) = .pointer (some ⟨(GC + 1), 0, none⟩) := E.out 19 rfl
                refine step_plain rfl ?_
                have hkb := (E.t.keep hmb (fun hf => TRF_noM HGM.out hf)).trans hmb.symm
                have k0 := (World.cell?_of_block (w := wD) hkb).trans y0
                have k1 := (World.cell?_of_block (w := wD) hkb).trans y1
                refine op_val (v := .agg #[.int .i64 (sN:Int), .slice (some ⟨GC, 0, none⟩) 1 1]) (w' := w') ?_ ⟨Below.refl _ _, rfl⟩
                have hcon := E.con
                clear E hkb m1 x0 x1 y0 y1 hput hxb hmb
                go_simp
            · skip
              refine stageH_more [Sp.eq undef, Sp.eq undef, Sp.eq undef, Sp.eq undef] rfl ?_ ?_
              · refine stepsH_skip rfl (stepsH_skip rfl (stepsH_skip rfl (stepsH_skip rfl (stepsH_nil))))
              · intro σ1 ρ1 w1c E1 K1
                have e240 : ρ1 (.tmp 240) = .pointer (some ⟨r, 0, none⟩) := E1.early 0 rfl rfl
                have e242 : ρ1 (.tmp 242) = .int .i64 x.n := E1.early 2 rfl rfl
                have e243 : ρ1 (.tmp 243) = .agg #[.int .i64 (sN:Int), .slice aX 1 cX] := E1.early 3 rfl rfl
                refine step_plain rfl ?_
                refine op_call (f := 14) (args := #[.pointer (some ⟨r, 0, none⟩), .int .i64 x.n, .agg #[.int .i64 (sN:Int), .slice aX 1 cX]]) (w' := w1c) (by have hcon := E1.con; have hfn := E1.fn; clear E1 m1 x0 x1 y0 y1 hput hxb hmb; go_simp) ?_
                have hB5 := bthen HBD.out E1.below (Nat.le_refl _)
                refine ((HDD.out.ext E1.below).real E1.below.size (X := fun e D' _ => e = .returned (.int .i64 Ep) ∧ D = D') (fun K hR hu => (rob_putE (m := (⟨(sN:Int), pls us⟩ : Med)) (us := csX) HPE.out (by rw [HTX.out.r.pls]) w1c hR hu (HTX.out.r.ext E1.below).mat HTX.out.r.len.symm (by decide) Hxs'.out).mono fun e w' ⟨he, h1, hm⟩ => ⟨D, ⟨he, rfl⟩, h1, hm⟩)).mono ?_
                rintro e w2x ⟨D', ⟨rfl, rfl⟩, hd2, hm2⟩
                have HB5 := Lib.hid (hB5.trans (hm2.below (fun b T h => h.1) hB5.size))
                have HlF1 := Lib.hid (Nat.le_trans E1.below.size hm2.size)
                clear hB5
                refine ⟨_, rfl, hm2, ?_⟩
                refine stageH_more [Sp.eq undef, Sp.eq undef, Sp.eq undef, Sp.eq undef] rfl ?_ ?_
                · refine stepsH_skip rfl (stepsH_skip rfl (stepsH_skip rfl (stepsH_skip rfl (stepsH_nil))))
                · intro σ2 ρ2 w2c E2 K2
                  have s244_2 : σ2 244 = .int .i64 Ep := (K2.old 4 244 rfl rfl rfl).trans rfl
                  have e245 : ρ2 (.tmp 245) = .pointer (some ⟨rr, 0, none⟩) := E2.early 5 rfl rfl
                  have e247 : ρ2 (.tmp 247) = .int .i64 x.n := E2.early 7 rfl rfl
                  have e248 : ρ2 (.tmp 248) = .agg #[.int .i64 (sN:Int), .slice (some ⟨GC, 0, none⟩) 1 1] := E2.early 8 rfl rfl
                  refine step_plain rfl ?_
                  refine op_call (f := 15) (args := #[.pointer (some ⟨rr, 0, none⟩), .int .i64 x.n, .agg #[.int .i64 (sN:Int), .slice (some ⟨GC, 0, none⟩) 1 1]]) (w' := w2c) (by have hcon := E2.con; have hfn := E2.fn; clear E2 E1 m1 x0 x1 y0 y1 hput hxb hmb; go_simp) ?_
                  have hB6 := bthen HB5.out E2.below (Nat.le_refl _)
                  have hE2t := E2.t
                  refine ((hd2.ext E2.below).ref (Nat.le_trans HlF1.out E2.below.size) (X := fun e E' _ => e = .returned (.int .i64 Ep) ∧ E = E') (fun Z hR hu hfr => (rrob_putE (m := (⟨(sN:Int), pls us⟩ : Med)) (us := us) HPE.out rfl w2c hR hu (fun w' hM => (HMD.out.trf (Nat.le_refl _) (Nat.le_refl _) (hE2t.trans (hfr w' hM))).mat) HMD.out.len.symm (by decide) Hxs.out).mono fun e w' ⟨he, h1, hm⟩ => ⟨E, ⟨he, rfl⟩, h1, hm⟩)).mono ?_
                  rintro e w4x ⟨E', ⟨rfl, rfl⟩, hd3, hm3⟩
                  have HB6 := Lib.hid (hB6.trans (hm3.below (fun b T h => h.1) hB6.size))
                  have HlF0 := Lib.hid (Nat.le_trans (Nat.le_trans HlF1.out E2.below.size) hm3.size)
                  clear hd2 hm2 HB5 hB6 hE2t HlF1
                  refine ⟨_, rfl, hm3, ?_⟩
                  refine stageH_last [Sp.eq (.bool false), Sp.eq (.bool false), Sp.eq (.agg #[.int .i64 (sN:Int), .slice aX 1 cX]), Sp.eq (.agg #[.int .i64 (sN:Int), .slice (some ⟨GC, 0, none⟩) 1 1]), Sp.eq (.bool true), Sp.eq (.bool false), Sp.eq (.bool false)] ?_ ?_
                  · refine stepsH_cons rfl ?_ (stepsH_cons rfl ?_ (stepsH_cons rfl ?_ (stepsH_cons rfl ?_ (stepsH_cons rfl ?_ (stepsH_cons rfl ?_ (stepsH_cons rfl ?_ (stepsH_nil)))))))
                    · intro ρ w' E
                      have e244 : ρ (.tmp 244) = .int .i64 Ep := (E.old 4 244 rfl rfl rfl).trans s244_2
                      have e249 : ρ (.tmp 249) = .int .i64 Ep := (E.old 9 249 rfl rfl rfl).trans rfl
                      refine step_plain rfl ?_
                      refine op_val (v := .bool false) (w' := w') ?_ ⟨Below.refl _ _, rfl⟩
                      have hcon := E.con
                      clear E
                      go_simp
                    · intro ρ w' E
                      have e250 : ρ (.tmp 250) = .bool false := E.pre 10 rfl rfl rfl
                      refine step_plain rfl ?_
                      exact op_move (.inl rfl) e250 ⟨Below.refl _ _, rfl⟩
                    · intro ρ w' E
                      have e20 : ρ (.tmp 20) = .pointer (some ⟨GX, 0, none⟩) := E.out 20 rfl
                      refine step_yes rfl (E.pre 11 rfl rfl rfl) ?_
                      have hkb := (E.t.keep hxb (fun hf => TRF_noM HGX.out hf)).trans hxb.symm
                      have k0 := (World.cell?_of_block (w := wD) hkb).trans x0
                      have k1 := (World.cell?_of_block (w := wD) hkb).trans x1
                      refine op_val (v := .agg #[.int .i64 (sN:Int), .slice aX 1 cX]) (w' := w') ?_ ⟨Below.refl _ _, rfl⟩
                      have hcon := E.con
                      clear E hkb m1 x0 x1 y0 y1 hput hxb hmb
                      go_simp
                    · intro ρ w' E
                      have e19 : ρ (.tmp 19) = .pointer (some ⟨(GC + 1), 0, none⟩) := E.out 19 rfl
                      refine step_yes rfl (E.pre 11 rfl rfl rfl) ?_
                      have hkb := (E.t.keep hmb (fun hf => TRF_noM HGM.out hf)).trans hmb.symm
                      have k0 := (World.cell?_of_block (w := wD) hkb).trans y0
                      have k1 := (World.cell?_of_block (w := wD) hkb).trans y1
                      refine op_val (v := .agg #[.int .i64 (sN:Int), .slice (some ⟨GC, 0, none⟩) 1 1]) (w' := w') ?_ ⟨Below.refl _ _, rfl⟩
                      have hcon := E.con
                      clear E hkb m1 x0 x1 y0 y1 hput hxb hmb
                      go_simp
                    · intro ρ w' E
                      have e252 : ρ (.tmp 252) = .agg #[.int .i64 (sN:Int), .slice aX 1 cX] := E.pre 12 rfl rfl rfl
                      have e253 : ρ (.tmp 253) = .agg #[.int .i64 (sN:Int), .slice (some ⟨GC, 0, none⟩) 1 1] := E.pre 13 rfl rfl rfl
                      refine step_yes rfl (E.pre 11 rfl rfl rfl) ?_
                      refine op_call (f := 16) (args := #[.agg #[.int .i64 (sN:Int), .slice aX 1 cX], .agg #[.int .i64 (sN:Int), .slice (some ⟨GC, 0, none⟩) 1 1]]) (w' := w') (by have hcon := E.con; have hfn := E.fn; clear E m1 x0 x1 y0 y1 hput hxb hmb; go_simp) ?_
                      have hXe := HTX.out.r.trf HlB.out (Nat.le_refl _) E.t
                      have hMe := HMD.out.trf (Nat.le_refl _) (Nat.le_refl _) E.t
                      refine (keepmed_any (sN:Int) (sN:Int) aX (some ⟨GC, 0, none⟩) cX 1 1 1 csX us true w' hXe.mat hMe.mat hXe.len.symm hMe.len.symm (by decide) (by decide) (by rw [hXe.pls]; simp)).mono ?_
                      rintro e w2 ⟨rfl, hb⟩
                      exact ⟨_, rfl, hb, rfl⟩
                    · intro ρ w' E
                      have e254 : ρ (.tmp 254) = .bool true := E.pre 14 rfl rfl rfl
                      refine step_yes rfl (E.pre 11 rfl rfl rfl) ?_
                      refine op_val (v := .bool false) (w' := w') ?_ ⟨Below.refl _ _, rfl⟩
                      have hcon := E.con
                      clear E
                      go_simp
                    · intro ρ w' E
                      have e251 : ρ (.tmp 251) = .bool false := E.pre 11 rfl rfl rfl
                      have e255 : ρ (.tmp 255) = .bool false := E.pre 15 rfl rfl rfl
                      refine step_plain rfl ?_
                      exact op_pick (b := false) rfl e251 rfl ⟨Below.refl _ _, e255⟩
                  · intro σF wF KF EF
                    have s256 : σF 256 = .bool false := KF.val 16 rfl rfl rfl
                    have GF := KF.below
                    have HXF : Hid (MedR wF wB.heap.size ⟨(sN:Int), pls us⟩ aX 1 cX csX) := Lib.hid (HTX.out.r.trf HlB.out (Nat.le_refl _) KF.t)
                    have hxF := KF.t.keep hxb (fun hf => TRF_noM HGX.out hf)
                    have z0 := cell_of_row _ _ 0 _ _ _ hxF
                    have z1 := cell_of_row _ _ 1 _ _ _ hxF
                    clear KF EF hput m1 x0 x1 y0 y1 hxb hmb
                    simp only [upd, updL, dstsOf', elemB, List.filterMap_cons, List.filterMap_nil, Nat.reduceAdd, Nat.reduceBEq, Bool.or_false, Bool.or_true, cond_true, cond_false, Nat.zero_add, s256]
                    have HDF := Lib.hid (hd3.ext GF)
                    have HBF := Lib.hid (bthen HB6.out GF (Nat.le_refl _))
                    have HlF := Lib.hid (Nat.le_trans HlD.out (Nat.le_trans HlF0.out GF.size))
                    clear hd3 hm3 HB6 GF HlF0 hxF
                    go_wp2_with fail
                    refine (spoilmed_ty wB.heap.size wD.heap.size (sN:Int) aX cX 1 csX wF HXF.out.own HXF.out.len.symm (by decide) Hxs'.out HlF.out HBN.out.1 HBN.out.2).mono ?_
                    rintro e wy ⟨rfl, hbf, hmf⟩
                    obtain ⟨SE, DE, sE, EE, HDE, HSE, HBE⟩ : ∃ SE DE sE EE, Hid (TwoR w3.heap.size 0 0 wy r g rr q SE DE sE SE EE sE) ∧ Hid (RSame SE sE vN dN sN (t + 1)) ∧ Hid (Below w3.heap.size w3 wy) := ⟨_, _, _, _, Lib.hid ((HDF.out.spoil hmf fun b T hf => ⟨⟨by have := hf.1; have := HlB.out; omega, hf.2.1⟩, hf.2.2.elim .inl fun h => .inr (.inl h)⟩).whole), Lib.hid (by
                      have hl := RS.putE_len HPE.out
                      exact ⟨hl.1.trans HSr.out.vols, hl.2.1.trans HSr.out.bays, hl.2.2.1.trans HSr.out.size, by rw [hl.2.2.2.1]; have := HSr.out.asked; omega, by have := HSr.out.life; omega⟩), Lib.hid (HBF.out.trans (hbf.mono (Nat.le_trans HB1.out.size HlB.out)))⟩
                    clear hbf hmf HDF HBF HlF z0 z1
                    go_wp2_with fail
                    obtain ⟨Z, ⟨V, hRL, _⟩, _⟩ := HDE.out.refP
                    obtain ⟨_, _, _, _, _, _, q6, _, hlr⟩ := hRL.cells
                    obtain ⟨KE, hKE⟩ := HDE.out.realP
                    have HKE := Lib.hid hKE
                    obtain ⟨mt, hmt⟩ : ∃ m, m = SE.mounts := ⟨_, rfl⟩
                    rw [← hmt] at q6
                    have Hmt := Lib.hid hmt.symm
                    clear hRL hKE hmt
                    refine wp_region_phase (by kernel_rfl) [] (by kernel_rfl) (by kernel_rfl) ?_
                    refine stage_last [Sp.eq (.pointer (some ⟨r, 0, none⟩)), Sp.eq (.int .i64 mt), Sp.eq (.pointer (some ⟨rr, 0, none⟩)), Sp.eq (.pointer (some ⟨rr, 0, none⟩)), Sp.eq (.pointer (some ⟨rr, 6, none⟩)), Sp.eq (.int .i64 mt), Sp.eq (.bool false)] ?_ ?_
                    · refine stepsG_cons ?_ (stepsG_cons ?_ (stepsG_cons ?_ (stepsG_cons ?_ (stepsG_cons ?_ (stepsG_cons ?_ (stepsG_cons ?_ (stepsG_nil)))))))
                      · intro ρ w' E
                        have e11 : ρ (.tmp 11) = .pointer (some ⟨r, 0, none⟩) := E.out 11 rfl
                        refine step_plain rfl ?_
                        refine op_val (v := .pointer (some ⟨r, 0, none⟩)) (w' := w') ?_ ⟨Below.refl _ _, rfl⟩
                        have hcon := E.con
                        clear E
                        go_simp
                      · intro ρ w' E
                        have e289 : ρ (.tmp 289) = .pointer (some ⟨r, 0, none⟩) := E.pre 0 rfl rfl
                        refine step_plain rfl ?_
                        refine op_call (f := 36) (args := #[.pointer (some ⟨r, 0, none⟩)]) (w' := w') (by have hcon := E.con; have hfn := E.fn; clear E; go_simp) ?_
                        refine (rob_mountsP mt w' (HKE.out.ext E.below) Hmt.out).mono ?_
                        rintro e w2 ⟨rfl, rfl⟩
                        exact ⟨_, rfl, Below.refl _ _, rfl⟩
                      · intro ρ w' E
                        have e15 : ρ (.tmp 15) = .pointer (some ⟨rr, 0, none⟩) := E.out 15 rfl
                        refine step_plain rfl ?_
                        refine op_val (v := .pointer (some ⟨rr, 0, none⟩)) (w' := w') ?_ ⟨Below.refl _ _, rfl⟩
                        have hcon := E.con
                        clear E
                        go_simp
                      · intro ρ w' E
                        have e291 : ρ (.tmp 291) = .pointer (some ⟨rr, 0, none⟩) := E.pre 2 rfl rfl
                        refine step_plain rfl ?_
                        refine op_val (v := .pointer (some ⟨rr, 0, none⟩)) (w' := w') ?_ ⟨Below.refl _ _, rfl⟩
                        have hcon := E.con
                        clear E
                        go_simp
                      · intro ρ w' E
                        have e292 : ρ (.tmp 292) = .pointer (some ⟨rr, 0, none⟩) := E.pre 3 rfl rfl
                        refine step_plain rfl ?_
                        refine op_val (v := .pointer (some ⟨rr, 6, none⟩)) (w' := w') ?_ ⟨Below.refl _ _, rfl⟩
                        have hcon := E.con
                        clear E
                        go_simp
                      · intro ρ w' E
                        have e293 : ρ (.tmp 293) = .pointer (some ⟨rr, 6, none⟩) := E.pre 4 rfl rfl
                        refine step_plain rfl ?_
                        refine op_val (v := .int .i64 mt) (w' := w') ?_ ⟨Below.refl _ _, rfl⟩
                        have hk := (World.cell?_of_block (w := wy) (E.below.block _ hlr)).trans q6
                        have hcon := E.con
                        clear E q6
                        go_simp
                      · intro ρ w' E
                        have e290 : ρ (.tmp 290) = .int .i64 mt := E.pre 1 rfl rfl
                        have e294 : ρ (.tmp 294) = .int .i64 mt := E.pre 5 rfl rfl
                        refine step_plain rfl ?_
                        refine op_val (v := .bool false) (w' := w') ?_ ⟨Below.refl _ _, rfl⟩
                        have hcon := E.con
                        clear E
                        go_simp
                    · intro σF wF GF OF HF
                      have s295 : σF 295 = .bool false := HF 6 rfl rfl
                      clear OF HF
                      simp only [upd, updL, dstsOf', elemB, List.filterMap_cons, List.filterMap_nil, Nat.reduceAdd, Nat.reduceBEq, Bool.or_false, Bool.false_or, Bool.or_true, Bool.true_or, cond_true, cond_false, Nat.zero_add, s295]
                      have HDF := Lib.hid (HDE.out.ext GF)
                      have HBF := Lib.hid (bthen HBE.out GF (Nat.le_refl _))
                      clear GF q6 hlr HDE HBE HKE Hmt
                      go_wp2_with fail
                      go_roundw
                      case rel => exact ⟨t + 1, _, _, _, _, _, rfl, by omega, by omega, by go_num, HDF, HSE, HBF⟩
                      case measure => simp [intOf]; omega
      have e5 : ((z : Int) == 5) = false := by simp; omega
      by_cases hz6 : z = 6
      · as_aux_lemma =>
          have e6 : ((z : Int) == 6) = true := by simp; omega
          have hput := setRow_heap (wr.alloc (.cells #[.int .i64 0, .int .i64 0, .int .i64 0, .slice none 0 0, .int .i64 0] 38)) wr.heap.size _ #[.int .i64 x.what, .int .i64 x.n, .int .i64 x.m, .slice x.b.a x.b.l.length x.b.c, .int .i64 x.torn] _ _ (heap_alloc_new wr _)
          have hbp : Below wr.heap.size wr ((wr.alloc (.cells #[.int .i64 0, .int .i64 0, .int .i64 0, .slice none 0 0, .int .i64 0] 38)).setRow wr.heap.size #[.int .i64 x.what, .int .i64 x.n, .int .i64 x.m, .slice x.b.a x.b.l.length x.b.c, .int .i64 x.torn]) := bsetRow (ext_alloc wr _) (Nat.le_refl _) _
          have m0 := cell_of_row _ _ 0 _ _ _ hput
          have m1 := cell_of_row _ _ 1 _ _ _ hput
          have m2 := cell_of_row _ _ 2 _ _ _ hput
          have m3 := cell_of_row _ _ 3 _ _ _ hput
          have m4 := cell_of_row _ _ 4 _ _ _ hput
          go_wp2_with (first
            | (refine wpList_store_row rfl rfl 38 (.tmp 17) (.tmp 131) rfl wr.heap.size rfl 38 #[.int .i64 0, .int .i64 0, .int .i64 0, .slice none 0 0, .int .i64 0] #[.int .i64 x.what, .int .i64 x.n, .int .i64 x.m, .slice x.b.a x.b.l.length x.b.c, .int .i64 x.torn] rfl (heap_alloc_new wr _) rfl (by kernel_rfl) (by intro v hv; simp at hv; rcases hv with rfl | rfl | rfl | rfl | rfl <;> rfl) ?_))
          generalize hws : World.setRow _ _ _ = w1 at *
          have HD1 := Lib.hid (HD.out.ext hbp)
          have HB1 := Lib.hid (bthen HBr.out hbp (Nat.le_refl _))
          have Hok1 := Lib.hid (show A5okR w1 x from ⟨Hok5.out.1.ext hbp, Hok5.out.2⟩)
          clear hws hbp c0 c1 c2 c3 c4 m0
          refine (HD1.out.real (Nat.zero_le _) (X := fun e D' _ => e = .returned (.tuple #[]) ∧ D' = D) (fun K hR hu => (cut_nil hu.le hR.pow rfl).mono fun e w' ⟨he, hp, hm⟩ => ⟨D, ⟨he, rfl⟩, hR.pf hm hp, PF_RobF hm⟩)).mono ?_
          rintro e w2x ⟨D', ⟨rfl, rfl⟩, hd2, hm2⟩
          have HD2 := Lib.hid hd2
          have HB2 := Lib.hid (HB1.out.trans (hm2.below (fun b T h => h.1) HB1.out.size))
          have m1 := (World.cell?_of_block (w := w1) ((hm2.keep hput (fun hf => TRF_noA _ hf)).trans hput.symm)).trans m1
          have m2 := (World.cell?_of_block (w := w1) ((hm2.keep hput (fun hf => TRF_noA _ hf)).trans hput.symm)).trans m2
          have m4 := (World.cell?_of_block (w := w1) ((hm2.keep hput (fun hf => TRF_noA _ hf)).trans hput.symm)).trans m4
          skip
          clear hd2 hm2 m3
          go_wp2_with fail
          refine (HD2.out.ref (Nat.zero_le _) (X := fun e E' _ => e = .returned (.tuple #[]) ∧ E' = E) (fun Z hR hu hfr => (rpow_cut w3.heap.size q s none 0 0 [] x.torn w2x hu.le hR.pow (Src.nil _ _) rfl (by decide)).mono fun e w' ⟨he, hp, hm⟩ => ⟨E, ⟨he, rfl⟩, hR.rpf hm hp, RPF.rrf hm⟩)).mono ?_
          rintro e wy ⟨E', ⟨rfl, rfl⟩, hd3, hm3⟩
          obtain ⟨SE, DE, sE, EE, HDE, HSE, HBE⟩ : ∃ SE DE sE EE, Hid (TwoR w3.heap.size 0 0 wy r g rr q SE DE sE SE EE sE) ∧ Hid (RSame SE sE vN dN sN (t + 1)) ∧ Hid (Below w3.heap.size w3 wy) := ⟨_, _, _, _, Lib.hid hd3, Lib.hid ⟨HSr.out.vols, HSr.out.bays, HSr.out.size, by have := HSr.out.asked; omega, by have := HSr.out.life; rw [cut_life0]; omega⟩, Lib.hid (HB2.out.trans (hm3.below (fun b T h => h.1) HB2.out.size))⟩
          clear hd3 hm3 HD2 HB2 m1 m2 m4
          go_wp2_with fail
          obtain ⟨Z, ⟨V, hRL, _⟩, _⟩ := HDE.out.refP
          obtain ⟨_, _, _, _, _, _, q6, _, hlr⟩ := hRL.cells
          obtain ⟨KE, hKE⟩ := HDE.out.realP
          have HKE := Lib.hid hKE
          obtain ⟨mt, hmt⟩ : ∃ m, m = SE.mounts := ⟨_, rfl⟩
          rw [← hmt] at q6
          have Hmt := Lib.hid hmt.symm
          clear hRL hKE hmt
          refine wp_region_phase (by kernel_rfl) [] (by kernel_rfl) (by kernel_rfl) ?_
          refine stage_last [Sp.eq (.pointer (some ⟨r, 0, none⟩)), Sp.eq (.int .i64 mt), Sp.eq (.pointer (some ⟨rr, 0, none⟩)), Sp.eq (.pointer (some ⟨rr, 0, none⟩)), Sp.eq (.pointer (some ⟨rr, 6, none⟩)), Sp.eq (.int .i64 mt), Sp.eq (.bool false)] ?_ ?_
          · refine stepsG_cons ?_ (stepsG_cons ?_ (stepsG_cons ?_ (stepsG_cons ?_ (stepsG_cons ?_ (stepsG_cons ?_ (stepsG_cons ?_ (stepsG_nil)))))))
            · intro ρ w' E
              have e11 : ρ (.tmp 11) = .pointer (some ⟨r, 0, none⟩) := E.out 11 rfl
              refine step_plain rfl ?_
              refine op_val (v := .pointer (some ⟨r, 0, none⟩)) (w' := w') ?_ ⟨Below.refl _ _, rfl⟩
              have hcon := E.con
              clear E
              go_simp
            · intro ρ w' E
              have e289 : ρ (.tmp 289) = .pointer (some ⟨r, 0, none⟩) := E.pre 0 rfl rfl
              refine step_plain rfl ?_
              refine op_call (f := 36) (args := #[.pointer (some ⟨r, 0, none⟩)]) (w' := w') (by have hcon := E.con; have hfn := E.fn; clear E; go_simp) ?_
              refine (rob_mountsP mt w' (HKE.out.ext E.below) Hmt.out).mono ?_
              rintro e w2 ⟨rfl, rfl⟩
              exact ⟨_, rfl, Below.refl _ _, rfl⟩
            · intro ρ w' E
              have e15 : ρ (.tmp 15) = .pointer (some ⟨rr, 0, none⟩) := E.out 15 rfl
              refine step_plain rfl ?_
              refine op_val (v := .pointer (some ⟨rr, 0, none⟩)) (w' := w') ?_ ⟨Below.refl _ _, rfl⟩
              have hcon := E.con
              clear E
              go_simp
            · intro ρ w' E
              have e291 : ρ (.tmp 291) = .pointer (some ⟨rr, 0, none⟩) := E.pre 2 rfl rfl
              refine step_plain rfl ?_
              refine op_val (v := .pointer (some ⟨rr, 0, none⟩)) (w' := w') ?_ ⟨Below.refl _ _, rfl⟩
              have hcon := E.con
              clear E
              go_simp
            · intro ρ w' E
              have e292 : ρ (.tmp 292) = .pointer (some ⟨rr, 0, none⟩) := E.pre 3 rfl rfl
              refine step_plain rfl ?_
              refine op_val (v := .pointer (some ⟨rr, 6, none⟩)) (w' := w') ?_ ⟨Below.refl _ _, rfl⟩
              have hcon := E.con
              clear E
              go_simp
            · intro ρ w' E
              have e293 : ρ (.tmp 293) = .pointer (some ⟨rr, 6, none⟩) := E.pre 4 rfl rfl
              refine step_plain rfl ?_
              refine op_val (v := .int .i64 mt) (w' := w') ?_ ⟨Below.refl _ _, rfl⟩
              have hk := (World.cell?_of_block (w := wy) (E.below.block _ hlr)).trans q6
              have hcon := E.con
              clear E q6
              go_simp
            · intro ρ w' E
              have e290 : ρ (.tmp 290) = .int .i64 mt := E.pre 1 rfl rfl
              have e294 : ρ (.tmp 294) = .int .i64 mt := E.pre 5 rfl rfl
              refine step_plain rfl ?_
              refine op_val (v := .bool false) (w' := w') ?_ ⟨Below.refl _ _, rfl⟩
              have hcon := E.con
              clear E
              go_simp
          · intro σF wF GF OF HF
            have s295 : σF 295 = .bool false := HF 6 rfl rfl
            clear OF HF
            simp only [upd, updL, dstsOf', elemB, List.filterMap_cons, List.filterMap_nil, Nat.reduceAdd, Nat.reduceBEq, Bool.or_false, Bool.false_or, Bool.or_true, Bool.true_or, cond_true, cond_false, Nat.zero_add, s295]
            have HDF := Lib.hid (HDE.out.ext GF)
            have HBF := Lib.hid (bthen HBE.out GF (Nat.le_refl _))
            clear GF q6 hlr HDE HBE HKE Hmt
            go_wp2_with fail
            go_roundw
            case rel => exact ⟨t + 1, _, _, _, _, _, rfl, by omega, by omega, by go_num, HDF, HSE, HBF⟩
            case measure => simp [intOf]; omega
      have e6 : ((z : Int) == 6) = false := by simp; omega
      by_cases hz7 : z = 7
      · as_aux_lemma =>
          have e7 : ((z : Int) == 7) = true := by simp; omega
          have hput := setRow_heap (wr.alloc (.cells #[.int .i64 0, .int .i64 0, .int .i64 0, .slice none 0 0, .int .i64 0] 38)) wr.heap.size _ #[.int .i64 x.what, .int .i64 x.n, .int .i64 x.m, .slice x.b.a x.b.l.length x.b.c, .int .i64 x.torn] _ _ (heap_alloc_new wr _)
          have hbp : Below wr.heap.size wr ((wr.alloc (.cells #[.int .i64 0, .int .i64 0, .int .i64 0, .slice none 0 0, .int .i64 0] 38)).setRow wr.heap.size #[.int .i64 x.what, .int .i64 x.n, .int .i64 x.m, .slice x.b.a x.b.l.length x.b.c, .int .i64 x.torn]) := bsetRow (ext_alloc wr _) (Nat.le_refl _) _
          have m0 := cell_of_row _ _ 0 _ _ _ hput
          have m1 := cell_of_row _ _ 1 _ _ _ hput
          have m2 := cell_of_row _ _ 2 _ _ _ hput
          have m3 := cell_of_row _ _ 3 _ _ _ hput
          have m4 := cell_of_row _ _ 4 _ _ _ hput
          go_wp2_with (first
            | (refine wpList_store_row rfl rfl 38 (.tmp 17) (.tmp 131) rfl wr.heap.size rfl 38 #[.int .i64 0, .int .i64 0, .int .i64 0, .slice none 0 0, .int .i64 0] #[.int .i64 x.what, .int .i64 x.n, .int .i64 x.m, .slice x.b.a x.b.l.length x.b.c, .int .i64 x.torn] rfl (heap_alloc_new wr _) rfl (by kernel_rfl) (by intro v hv; simp at hv; rcases hv with rfl | rfl | rfl | rfl | rfl <;> rfl) ?_))
          generalize hws : World.setRow _ _ _ = w1 at *
          have HD1 := Lib.hid (HD.out.ext hbp)
          have HB1 := Lib.hid (bthen HBr.out hbp (Nat.le_refl _))
          have Hok1 := Lib.hid (show A5okR w1 x from ⟨Hok5.out.1.ext hbp, Hok5.out.2⟩)
          clear hws hbp c0 c1 c2 c3 c4 m0
          refine (HD1.out.real (Nat.zero_le _) (X := fun e D' _ => e = .returned (.tuple #[]) ∧ D' = D) (fun K hR hu => (start_at hR.pow rfl HSr.out.life.1 (by have := HSr.out.life.2; omega)).mono fun e w' ⟨he, hp, hm⟩ => ⟨D, ⟨he, rfl⟩, hR.pf hm hp, PF_RobF hm⟩)).mono ?_
          rintro e w2x ⟨D', ⟨rfl, rfl⟩, hd2, hm2⟩
          have HD2 := Lib.hid hd2
          have HB2 := Lib.hid (HB1.out.trans (hm2.below (fun b T h => h.1) HB1.out.size))
          have m1 := (World.cell?_of_block (w := w1) ((hm2.keep hput (fun hf => TRF_noA _ hf)).trans hput.symm)).trans m1
          have m2 := (World.cell?_of_block (w := w1) ((hm2.keep hput (fun hf => TRF_noA _ hf)).trans hput.symm)).trans m2
          have m4 := (World.cell?_of_block (w := w1) ((hm2.keep hput (fun hf => TRF_noA _ hf)).trans hput.symm)).trans m4
          skip
          clear hd2 hm2 m3
          go_wp2_with fail
          refine (HD2.out.ref (Nat.zero_le _) (X := fun e E' _ => e = .returned (.tuple #[]) ∧ E' = E) (fun Z hR hu hfr => (rpow_start w3.heap.size q s w2x hR.pow HSr.out.life.1 (by have := HSr.out.life.2; omega)).mono fun e w' ⟨he, hp, hm⟩ => ⟨E, ⟨he, rfl⟩, hR.rpf hm hp, RPF.rrf hm⟩)).mono ?_
          rintro e wy ⟨E', ⟨rfl, rfl⟩, hd3, hm3⟩
          obtain ⟨SE, DE, sE, EE, HDE, HSE, HBE⟩ : ∃ SE DE sE EE, Hid (TwoR w3.heap.size 0 0 wy r g rr q SE DE sE SE EE sE) ∧ Hid (RSame SE sE vN dN sN (t + 1)) ∧ Hid (Below w3.heap.size w3 wy) := ⟨_, _, _, _, Lib.hid hd3, Lib.hid ⟨HSr.out.vols, HSr.out.bays, HSr.out.size, by have := HSr.out.asked; omega, by have := HSr.out.life; rcases start_life0 (s := s) with h | h <;> rw [h] <;> omega⟩, Lib.hid (HB2.out.trans (hm3.below (fun b T h => h.1) HB2.out.size))⟩
          clear hd3 hm3 HD2 HB2 m1 m2 m4
          go_wp2_with fail
          obtain ⟨Z, ⟨V, hRL, _⟩, _⟩ := HDE.out.refP
          obtain ⟨_, _, _, _, _, _, q6, _, hlr⟩ := hRL.cells
          obtain ⟨KE, hKE⟩ := HDE.out.realP
          have HKE := Lib.hid hKE
          obtain ⟨mt, hmt⟩ : ∃ m, m = SE.mounts := ⟨_, rfl⟩
          rw [← hmt] at q6
          have Hmt := Lib.hid hmt.symm
          clear hRL hKE hmt
          refine wp_region_phase (by kernel_rfl) [] (by kernel_rfl) (by kernel_rfl) ?_
          refine stage_last [Sp.eq (.pointer (some ⟨r, 0, none⟩)), Sp.eq (.int .i64 mt), Sp.eq (.pointer (some ⟨rr, 0, none⟩)), Sp.eq (.pointer (some ⟨rr, 0, none⟩)), Sp.eq (.pointer (some ⟨rr, 6, none⟩)), Sp.eq (.int .i64 mt), Sp.eq (.bool false)] ?_ ?_
          · refine stepsG_cons ?_ (stepsG_cons ?_ (stepsG_cons ?_ (stepsG_cons ?_ (stepsG_cons ?_ (stepsG_cons ?_ (stepsG_cons ?_ (stepsG_nil)))))))
            · intro ρ w' E
              have e11 : ρ (.tmp 11) = .pointer (some ⟨r, 0, none⟩) := E.out 11 rfl
              refine step_plain rfl ?_
              refine op_val (v := .pointer (some ⟨r, 0, none⟩)) (w' := w') ?_ ⟨Below.refl _ _, rfl⟩
              have hcon := E.con
              clear E
              go_simp
            · intro ρ w' E
              have e289 : ρ (.tmp 289) = .pointer (some ⟨r, 0, none⟩) := E.pre 0 rfl rfl
              refine step_plain rfl ?_
              refine op_call (f := 36) (args := #[.pointer (some ⟨r, 0, none⟩)]) (w' := w') (by have hcon := E.con; have hfn := E.fn; clear E; go_simp) ?_
              refine (rob_mountsP mt w' (HKE.out.ext E.below) Hmt.out).mono ?_
              rintro e w2 ⟨rfl, rfl⟩
              exact ⟨_, rfl, Below.refl _ _, rfl⟩
            · intro ρ w' E
              have e15 : ρ (.tmp 15) = .pointer (some ⟨rr, 0, none⟩) := E.out 15 rfl
              refine step_plain rfl ?_
              refine op_val (v := .pointer (some ⟨rr, 0, none⟩)) (w' := w') ?_ ⟨Below.refl _ _, rfl⟩
              have hcon := E.con
              clear E
              go_simp
            · intro ρ w' E
              have e291 : ρ (.tmp 291) = .pointer (some ⟨rr, 0, none⟩) := E.pre 2 rfl rfl
              refine step_plain rfl ?_
              refine op_val (v := .pointer (some ⟨rr, 0, none⟩)) (w' := w') ?_ ⟨Below.refl _ _, rfl⟩
              have hcon := E.con
              clear E
              go_simp
            · intro ρ w' E
              have e292 : ρ (.tmp 292) = .pointer (some ⟨rr, 0, none⟩) := E.pre 3 rfl rfl
              refine step_plain rfl ?_
              refine op_val (v := .pointer (some ⟨rr, 6, none⟩)) (w' := w') ?_ ⟨Below.refl _ _, rfl⟩
              have hcon := E.con
              clear E
              go_simp
            · intro ρ w' E
              have e293 : ρ (.tmp 293) = .pointer (some ⟨rr, 6, none⟩) := E.pre 4 rfl rfl
              refine step_plain rfl ?_
              refine op_val (v := .int .i64 mt) (w' := w') ?_ ⟨Below.refl _ _, rfl⟩
              have hk := (World.cell?_of_block (w := wy) (E.below.block _ hlr)).trans q6
              have hcon := E.con
              clear E q6
              go_simp
            · intro ρ w' E
              have e290 : ρ (.tmp 290) = .int .i64 mt := E.pre 1 rfl rfl
              have e294 : ρ (.tmp 294) = .int .i64 mt := E.pre 5 rfl rfl
              refine step_plain rfl ?_
              refine op_val (v := .bool false) (w' := w') ?_ ⟨Below.refl _ _, rfl⟩
              have hcon := E.con
              clear E
              go_simp
          · intro σF wF GF OF HF
            have s295 : σF 295 = .bool false := HF 6 rfl rfl
            clear OF HF
            simp only [upd, updL, dstsOf', elemB, List.filterMap_cons, List.filterMap_nil, Nat.reduceAdd, Nat.reduceBEq, Bool.or_false, Bool.false_or, Bool.or_true, Bool.true_or, cond_true, cond_false, Nat.zero_add, s295]
            have HDF := Lib.hid (HDE.out.ext GF)
            have HBF := Lib.hid (bthen HBE.out GF (Nat.le_refl _))
            clear GF q6 hlr HDE HBE HKE Hmt
            go_wp2_with fail
            go_roundw
            case rel => exact ⟨t + 1, _, _, _, _, _, rfl, by omega, by omega, by go_num, HDF, HSE, HBF⟩
            case measure => simp [intOf]; omega
      have e7 : ((z : Int) == 7) = false := by simp; omega
      by_cases hz8 : z = 8
      · as_aux_lemma =>
          have e8 : ((z : Int) == 8) = true := by simp; omega
          have hn63 : x.m ≤ 9223372036854775807 := by have := Hok3.out.2.2.2.1; simp [Lit.wf, IntKind.min, IntKind.max, IntKind.signed, IntKind.bits] at this; omega
          have Hn63 := Lib.hid hn63
          clear hn63
          have hput := setRow_heap (wr.alloc (.cells #[.int .i64 0, .int .i64 0, .int .i64 0, .slice none 0 0, .int .i64 0] 38)) wr.heap.size _ #[.int .i64 x.what, .int .i64 x.n, .int .i64 x.m, .slice x.b.a x.b.l.length x.b.c, .int .i64 x.torn] _ _ (heap_alloc_new wr _)
          have hbp : Below wr.heap.size wr ((wr.alloc (.cells #[.int .i64 0, .int .i64 0, .int .i64 0, .slice none 0 0, .int .i64 0] 38)).setRow wr.heap.size #[.int .i64 x.what, .int .i64 x.n, .int .i64 x.m, .slice x.b.a x.b.l.length x.b.c, .int .i64 x.torn]) := bsetRow (ext_alloc wr _) (Nat.le_refl _) _
          have m0 := cell_of_row _ _ 0 _ _ _ hput
          have m1 := cell_of_row _ _ 1 _ _ _ hput
          have m2 := cell_of_row _ _ 2 _ _ _ hput
          have m3 := cell_of_row _ _ 3 _ _ _ hput
          have m4 := cell_of_row _ _ 4 _ _ _ hput
          go_wp2_with (first
            | (refine wpList_store_row rfl rfl 38 (.tmp 17) (.tmp 131) rfl wr.heap.size rfl 38 #[.int .i64 0, .int .i64 0, .int .i64 0, .slice none 0 0, .int .i64 0] #[.int .i64 x.what, .int .i64 x.n, .int .i64 x.m, .slice x.b.a x.b.l.length x.b.c, .int .i64 x.torn] rfl (heap_alloc_new wr _) rfl (by kernel_rfl) (by intro v hv; simp at hv; rcases hv with rfl | rfl | rfl | rfl | rfl <;> rfl) ?_))
          generalize hws : World.setRow _ _ _ = w1 at *
          have HD1 := Lib.hid (HD.out.ext hbp)
          have HB1 := Lib.hid (bthen HBr.out hbp (Nat.le_refl _))
          have Hok1 := Lib.hid (show A5okR w1 x from ⟨Hok5.out.1.ext hbp, Hok5.out.2⟩)
          clear hws hbp c0 c1 c2 c3 c4 m0
          refine (HD1.out.real (Nat.zero_le _) (X := fun e D' _ => e = .returned (.tuple #[]) ∧ D' = D) (fun K hR hu => (arm_nil hu.le hR.pow rfl Hn63.out).mono fun e w' ⟨he, hp, hm⟩ => ⟨D, ⟨he, rfl⟩, hR.pf hm hp, PF_RobF hm⟩)).mono ?_
          rintro e w2x ⟨D', ⟨rfl, rfl⟩, hd2, hm2⟩
          have HD2 := Lib.hid hd2
          have HB2 := Lib.hid (HB1.out.trans (hm2.below (fun b T h => h.1) HB1.out.size))
          have m1 := (World.cell?_of_block (w := w1) ((hm2.keep hput (fun hf => TRF_noA _ hf)).trans hput.symm)).trans m1
          have m2 := (World.cell?_of_block (w := w1) ((hm2.keep hput (fun hf => TRF_noA _ hf)).trans hput.symm)).trans m2
          have m4 := (World.cell?_of_block (w := w1) ((hm2.keep hput (fun hf => TRF_noA _ hf)).trans hput.symm)).trans m4
          skip
          clear hd2 hm2 m3
          go_wp2_with fail
          refine (HD2.out.ref (Nat.zero_le _) (X := fun e E' _ => e = .returned (.tuple #[]) ∧ E' = E) (fun Z hR hu hfr => (rpow_arm w3.heap.size q s none 0 0 [] x.m x.torn w2x hu.le hR.pow (Src.nil _ _) rfl (by decide) Hn63.out).mono fun e w' ⟨he, hp, hm⟩ => ⟨E, ⟨he, rfl⟩, hR.rpf hm hp, RPF.rrf hm⟩)).mono ?_
          rintro e wy ⟨E', ⟨rfl, rfl⟩, hd3, hm3⟩
          obtain ⟨SE, DE, sE, EE, HDE, HSE, HBE⟩ : ∃ SE DE sE EE, Hid (TwoR w3.heap.size 0 0 wy r g rr q SE DE sE SE EE sE) ∧ Hid (RSame SE sE vN dN sN (t + 1)) ∧ Hid (Below w3.heap.size w3 wy) := ⟨_, _, _, _, Lib.hid hd3, Lib.hid ⟨HSr.out.vols, HSr.out.bays, HSr.out.size, by have := HSr.out.asked; omega, by have := HSr.out.life; show 0 ≤ s.life ∧ s.life ≤ _; omega⟩, Lib.hid (HB2.out.trans (hm3.below (fun b T h => h.1) HB2.out.size))⟩
          clear hd3 hm3 HD2 HB2 m1 m2 m4
          go_wp2_with fail
          obtain ⟨Z, ⟨V, hRL, _⟩, _⟩ := HDE.out.refP
          obtain ⟨_, _, _, _, _, _, q6, _, hlr⟩ := hRL.cells
          obtain ⟨KE, hKE⟩ := HDE.out.realP
          have HKE := Lib.hid hKE
          obtain ⟨mt, hmt⟩ : ∃ m, m = SE.mounts := ⟨_, rfl⟩
          rw [← hmt] at q6
          have Hmt := Lib.hid hmt.symm
          clear hRL hKE hmt
          refine wp_region_phase (by kernel_rfl) [] (by kernel_rfl) (by kernel_rfl) ?_
          refine stage_last [Sp.eq (.pointer (some ⟨r, 0, none⟩)), Sp.eq (.int .i64 mt), Sp.eq (.pointer (some ⟨rr, 0, none⟩)), Sp.eq (.pointer (some ⟨rr, 0, none⟩)), Sp.eq (.pointer (some ⟨rr, 6, none⟩)), Sp.eq (.int .i64 mt), Sp.eq (.bool false)] ?_ ?_
          · refine stepsG_cons ?_ (stepsG_cons ?_ (stepsG_cons ?_ (stepsG_cons ?_ (stepsG_cons ?_ (stepsG_cons ?_ (stepsG_cons ?_ (stepsG_nil)))))))
            · intro ρ w' E
              have e11 : ρ (.tmp 11) = .pointer (some ⟨r, 0, none⟩) := E.out 11 rfl
              refine step_plain rfl ?_
              refine op_val (v := .pointer (some ⟨r, 0, none⟩)) (w' := w') ?_ ⟨Below.refl _ _, rfl⟩
              have hcon := E.con
              clear E
              go_simp
            · intro ρ w' E
              have e289 : ρ (.tmp 289) = .pointer (some ⟨r, 0, none⟩) := E.pre 0 rfl rfl
              refine step_plain rfl ?_
              refine op_call (f := 36) (args := #[.pointer (some ⟨r, 0, none⟩)]) (w' := w') (by have hcon := E.con; have hfn := E.fn; clear E; go_simp) ?_
              refine (rob_mountsP mt w' (HKE.out.ext E.below) Hmt.out).mono ?_
              rintro e w2 ⟨rfl, rfl⟩
              exact ⟨_, rfl, Below.refl _ _, rfl⟩
            · intro ρ w' E
              have e15 : ρ (.tmp 15) = .pointer (some ⟨rr, 0, none⟩) := E.out 15 rfl
              refine step_plain rfl ?_
              refine op_val (v := .pointer (some ⟨rr, 0, none⟩)) (w' := w') ?_ ⟨Below.refl _ _, rfl⟩
              have hcon := E.con
              clear E
              go_simp
            · intro ρ w' E
              have e291 : ρ (.tmp 291) = .pointer (some ⟨rr, 0, none⟩) := E.pre 2 rfl rfl
              refine step_plain rfl ?_
              refine op_val (v := .pointer (some ⟨rr, 0, none⟩)) (w' := w') ?_ ⟨Below.refl _ _, rfl⟩
              have hcon := E.con
              clear E
              go_simp
            · intro ρ w' E
              have e292 : ρ (.tmp 292) = .pointer (some ⟨rr, 0, none⟩) := E.pre 3 rfl rfl
              refine step_plain rfl ?_
              refine op_val (v := .pointer (some ⟨rr, 6, none⟩)) (w' := w') ?_ ⟨Below.refl _ _, rfl⟩
              have hcon := E.con
              clear E
              go_simp
            · intro ρ w' E
              have e293 : ρ (.tmp 293) = .pointer (some ⟨rr, 6, none⟩) := E.pre 4 rfl rfl
              refine step_plain rfl ?_
              refine op_val (v := .int .i64 mt) (w' := w') ?_ ⟨Below.refl _ _, rfl⟩
              have hk := (World.cell?_of_block (w := wy) (E.below.block _ hlr)).trans q6
              have hcon := E.con
              clear E q6
              go_simp
            · intro ρ w' E
              have e290 : ρ (.tmp 290) = .int .i64 mt := E.pre 1 rfl rfl
              have e294 : ρ (.tmp 294) = .int .i64 mt := E.pre 5 rfl rfl
              refine step_plain rfl ?_
              refine op_val (v := .bool false) (w' := w') ?_ ⟨Below.refl _ _, rfl⟩
              have hcon := E.con
              clear E
              go_simp
          · intro σF wF GF OF HF
            have s295 : σF 295 = .bool false := HF 6 rfl rfl
            clear OF HF
            simp only [upd, updL, dstsOf', elemB, List.filterMap_cons, List.filterMap_nil, Nat.reduceAdd, Nat.reduceBEq, Bool.or_false, Bool.false_or, Bool.or_true, Bool.true_or, cond_true, cond_false, Nat.zero_add, s295]
            have HDF := Lib.hid (HDE.out.ext GF)
            have HBF := Lib.hid (bthen HBE.out GF (Nat.le_refl _))
            clear GF q6 hlr HDE HBE HKE Hmt
            go_wp2_with fail
            go_roundw
            case rel => exact ⟨t + 1, _, _, _, _, _, rfl, by omega, by omega, by go_num, HDF, HSE, HBF⟩
            case measure => simp [intOf]; omega
      have e8 : ((z : Int) == 8) = false := by simp; omega
      have hz5' : z < 5 := by omega
      clear hz5 hz6 hz7 hz8
      by_cases hoff : s.off = true
      · as_aux_lemma =>
          have Hoff := Lib.hid hoff
          clear hoff
          have hput := setRow_heap (wr.alloc (.cells #[.int .i64 0, .int .i64 0, .int .i64 0, .slice none 0 0, .int .i64 0] 38)) wr.heap.size _ #[.int .i64 x.what, .int .i64 x.n, .int .i64 x.m, .slice x.b.a x.b.l.length x.b.c, .int .i64 x.torn] _ _ (heap_alloc_new wr _)
          have hbp : Below wr.heap.size wr ((wr.alloc (.cells #[.int .i64 0, .int .i64 0, .int .i64 0, .slice none 0 0, .int .i64 0] 38)).setRow wr.heap.size #[.int .i64 x.what, .int .i64 x.n, .int .i64 x.m, .slice x.b.a x.b.l.length x.b.c, .int .i64 x.torn]) := bsetRow (ext_alloc wr _) (Nat.le_refl _) _
          have m0 := cell_of_row _ _ 0 _ _ _ hput
          have m1 := cell_of_row _ _ 1 _ _ _ hput
          have m2 := cell_of_row _ _ 2 _ _ _ hput
          have m3 := cell_of_row _ _ 3 _ _ _ hput
          have m4 := cell_of_row _ _ 4 _ _ _ hput
          go_wp2_with (first
            | (refine wpList_store_row rfl rfl 38 (.tmp 17) (.tmp 131) rfl wr.heap.size rfl 38 #[.int .i64 0, .int .i64 0, .int .i64 0, .slice none 0 0, .int .i64 0] #[.int .i64 x.what, .int .i64 x.n, .int .i64 x.m, .slice x.b.a x.b.l.length x.b.c, .int .i64 x.torn] rfl (heap_alloc_new wr _) rfl (by kernel_rfl) (by intro v hv; simp at hv; rcases hv with rfl | rfl | rfl | rfl | rfl <;> rfl) ?_))
          generalize hws : World.setRow _ _ _ = w1 at *
          have HD1 := Lib.hid (HD.out.ext hbp)
          have HB1 := Lib.hid (bthen HBr.out hbp (Nat.le_refl _))
          have Hok1 := Lib.hid (show A5okR w1 x from ⟨Hok5.out.1.ext hbp, Hok5.out.2⟩)
          clear hws hbp c0 c1 c2 c3 c4 m0
          obtain ⟨K1, hK1⟩ := HD1.out.realP
          refine (rob_mount_off x.n w1 hK1 Hoff.out).mono ?_
          rintro e w2x ⟨rfl, rfl⟩
          clear hK1
          go_wp2_with fail
          obtain ⟨Z1, hZ1⟩ := HD1.out.refP
          refine (rrob_mount_off x.n w1 hZ1 Hoff.out).mono ?_
          rintro e w2x ⟨rfl, rfl⟩
          clear hZ1
          go_wp2_with fail
          go_roundw
          case rel => exact ⟨t + 1, _, _, _, _, _, rfl, by omega, by omega, by go_num, HD1, Lib.hid ⟨HSr.out.vols, HSr.out.bays, HSr.out.size, by have := HSr.out.asked; omega, by have := HSr.out.life; omega⟩, HB1⟩
          case measure => simp [intOf]; omega
      have hoff : s.off = false := by simpa using hoff
      have Hoff := Lib.hid hoff
      clear hoff
      by_cases hvb : x.n < 0 ∨ (vN : Int) ≤ x.n
      · as_aux_lemma =>
          have Hvb : Hid (x.n < 0 ∨ (S.vols.length : Int) ≤ x.n) := Lib.hid (by rw [HSr.out.vols]; exact hvb)
          clear hvb
          have hput := setRow_heap (wr.alloc (.cells #[.int .i64 0, .int .i64 0, .int .i64 0, .slice none 0 0, .int .i64 0] 38)) wr.heap.size _ #[.int .i64 x.what, .int .i64 x.n, .int .i64 x.m, .slice x.b.a x.b.l.length x.b.c, .int .i64 x.torn] _ _ (heap_alloc_new wr _)
          have hbp : Below wr.heap.size wr ((wr.alloc (.cells #[.int .i64 0, .int .i64 0, .int .i64 0, .slice none 0 0, .int .i64 0] 38)).setRow wr.heap.size #[.int .i64 x.what, .int .i64 x.n, .int .i64 x.m, .slice x.b.a x.b.l.length x.b.c, .int .i64 x.torn]) := bsetRow (ext_alloc wr _) (Nat.le_refl _) _
          have m0 := cell_of_row _ _ 0 _ _ _ hput
          have m1 := cell_of_row _ _ 1 _ _ _ hput
          have m2 := cell_of_row _ _ 2 _ _ _ hput
          have m3 := cell_of_row _ _ 3 _ _ _ hput
          have m4 := cell_of_row _ _ 4 _ _ _ hput
          go_wp2_with (first
            | (refine wpList_store_row rfl rfl 38 (.tmp 17) (.tmp 131) rfl wr.heap.size rfl 38 #[.int .i64 0, .int .i64 0, .int .i64 0, .slice none 0 0, .int .i64 0] #[.int .i64 x.what, .int .i64 x.n, .int .i64 x.m, .slice x.b.a x.b.l.length x.b.c, .int .i64 x.torn] rfl (heap_alloc_new wr _) rfl (by kernel_rfl) (by intro v hv; simp at hv; rcases hv with rfl | rfl | rfl | rfl | rfl <;> rfl) ?_))
          generalize hws : World.setRow _ _ _ = w1 at *
          have HD1 := Lib.hid (HD.out.ext hbp)
          have HB1 := Lib.hid (bthen HBr.out hbp (Nat.le_refl _))
          have Hok1 := Lib.hid (show A5okR w1 x from ⟨Hok5.out.1.ext hbp, Hok5.out.2⟩)
          clear hws hbp c0 c1 c2 c3 c4 m0
          obtain ⟨K1, hK1⟩ := HD1.out.realP
          refine (rob_mount_arg x.n w1 hK1 Hoff.out Hvb.out).mono ?_
          rintro e w2x ⟨rfl, rfl⟩
          clear hK1
          go_wp2_with fail
          obtain ⟨Z1, hZ1⟩ := HD1.out.refP
          refine (rrob_mount_arg x.n w1 hZ1 Hoff.out Hvb.out).mono ?_
          rintro e w2x ⟨rfl, rfl⟩
          clear hZ1
          go_wp2_with fail
          go_roundw
          case rel => exact ⟨t + 1, _, _, _, _, _, rfl, by omega, by omega, by go_num, HD1, Lib.hid ⟨HSr.out.vols, HSr.out.bays, HSr.out.size, by have := HSr.out.asked; omega, by have := HSr.out.life; omega⟩, HB1⟩
          case measure => simp [intOf]; omega
      obtain ⟨vn, hvn⟩ := Int.eq_ofNat_of_zero_le (show 0 ≤ x.n by omega)
      obtain ⟨⟨S1, i⟩, hMT⟩ : ∃ y, y = S.mount vn := ⟨_, rfl⟩
      have Hvl : Hid (vn < S.vols.length) := Lib.hid (by rw [HSr.out.vols]; omega)
      have Hask : Hid (S.asked < 4000000000000000000) := Lib.hid (by have := HSr.out.asked; omega)
      have HMT := Lib.hid hMT.symm
      have hgd := RS.mount_good HD.out.good.1 Hask.out Hvl.out hMT.symm
      have HS1 : Hid (RSame S1 s vN dN sN (t + 1)) := Lib.hid ⟨hgd.2.1.trans HSr.out.vols, hgd.2.2.1.trans HSr.out.bays, hgd.2.2.2.2.1.trans HSr.out.size, by have h1 := HSr.out.asked; have h2 := hgd.2.2.2.1; omega, by have := HSr.out.life; omega⟩
      have Hvn := Lib.hid hvn
      obtain ⟨⟨u0, u1, M, p⟩, hb, hbv, -⟩ := hgd.2.2.2.2.2
      have hbk := hgd.1.bay _ (List.mem_of_getElem? hb)
      have hbv : u0 = (vn : Int) := hbv
      have hgg : DGood M p ∧ M.cap = S1.size := hbk.good (by show 0 ≤ u0; omega)
      have Hbi := Lib.hid hb
      have Hbv : Hid (0 ≤ u0) := Lib.hid (by omega)
      have HG := Lib.hid hgg.1
      have HC := Lib.hid hgg.2
      clear hvn hMT hgd hb hbv hbk hgg hvb
      have hput := setRow_heap (wr.alloc (.cells #[.int .i64 0, .int .i64 0, .int .i64 0, .slice none 0 0, .int .i64 0] 38)) wr.heap.size _ #[.int .i64 x.what, .int .i64 x.n, .int .i64 x.m, .slice x.b.a x.b.l.length x.b.c, .int .i64 x.torn] _ _ (heap_alloc_new wr _)
      have hbp : Below wr.heap.size wr ((wr.alloc (.cells #[.int .i64 0, .int .i64 0, .int .i64 0, .slice none 0 0, .int .i64 0] 38)).setRow wr.heap.size #[.int .i64 x.what, .int .i64 x.n, .int .i64 x.m, .slice x.b.a x.b.l.length x.b.c, .int .i64 x.torn]) := bsetRow (ext_alloc wr _) (Nat.le_refl _) _
      have m0 := cell_of_row _ _ 0 _ _ _ hput
      have m1 := cell_of_row _ _ 1 _ _ _ hput
      have m2 := cell_of_row _ _ 2 _ _ _ hput
      have m3 := cell_of_row _ _ 3 _ _ _ hput
      have m4 := cell_of_row _ _ 4 _ _ _ hput
      go_wp2_with (first
        | (refine wpList_store_row rfl rfl 38 (.tmp 17) (.tmp 131) rfl wr.heap.size rfl 38 #[.int .i64 0, .int .i64 0, .int .i64 0, .slice none 0 0, .int .i64 0] #[.int .i64 x.what, .int .i64 x.n, .int .i64 x.m, .slice x.b.a x.b.l.length x.b.c, .int .i64 x.torn] rfl (heap_alloc_new wr _) rfl (by kernel_rfl) (by intro v hv; simp at hv; rcases hv with rfl | rfl | rfl | rfl | rfl <;> rfl) ?_))
      generalize hws : World.setRow _ _ _ = w1 at *
      have HD1 := Lib.hid (HD.out.ext hbp)
      have HB1 := Lib.hid (bthen HBr.out hbp (Nat.le_refl _))
      have Hok1 := Lib.hid (show A5okR w1 x from ⟨Hok5.out.1.ext hbp, Hok5.out.2⟩)
      clear hws hbp c0 c1 c2 c3 c4 m0
      obtain ⟨GA, hGA⟩ : ∃ G, G = wr.heap.size := ⟨_, rfl⟩
      rw [← hGA] at hput m1 m2 m3 m4 ⊢
      clear hGA
      rw [Hvn.out]
      refine (HD1.out.real (Nat.zero_le _) (X := fun e D' _ => ∃ d, e = .returned (.tuple #[.pointer (some ⟨d, 0, none⟩), .int .i64 0]) ∧ d = D' i) (fun K hR hu => (rob_mountP HMT.out w1 hR hu Hoff.out Hvl.out Hask.out).mono fun e w' ⟨d, D', he, hd, h1, hm⟩ => ⟨D', ⟨d, he, hd⟩, h1, RobG.f hm⟩)).mono ?_
      rintro e w2x ⟨DP, ⟨d, rfl, hdi⟩, hd2, hm2⟩
      have Hdi := Lib.hid hdi
      have HD2 := Lib.hid hd2
      have HB2 := Lib.hid (HB1.out.trans (hm2.below (fun b T h => h.1) HB1.out.size))
      have hput2 := hm2.keep hput (fun hf => TRF_noA _ hf)
      clear hput m1 m2 m3 m4
      have hput := hput2
      clear hput2
      have m1 := cell_of_row _ _ 1 _ _ _ hput
      have m2 := cell_of_row _ _ 2 _ _ _ hput
      have m3 := cell_of_row _ _ 3 _ _ _ hput
      have m4 := cell_of_row _ _ 4 _ _ _ hput
      clear hd2 hm2 hdi HD1 HB1
      go_wp2_with fail
      rw [Hvn.out]
      refine (HD2.out.ref (Nat.zero_le _) (X := fun e E' _ => e = .returned (.tuple #[.pointer (some ⟨E' i, 0, none⟩), .int .i64 0])) (fun Z hR hu hfr => (rrob_mount HMT.out w2x hR hu Hoff.out Hvl.out Hask.out).mono fun e w' ⟨E', he, h1, hm⟩ => ⟨E', he, h1, hm⟩)).mono ?_
      rintro e w3x ⟨EP, rfl, hd2, hm2⟩
      have HD3 := Lib.hid hd2
      have HB3 := Lib.hid (HB2.out.trans (hm2.below (fun b T h => h.1) HB2.out.size))
      have hput2 := hm2.keep hput (fun hf => TRF_noA _ hf)
      clear hput m1 m2 m3 m4
      have hput := hput2
      clear hput2
      have m1 := cell_of_row _ _ 1 _ _ _ hput
      have m2 := cell_of_row _ _ 2 _ _ _ hput
      have m3 := cell_of_row _ _ 3 _ _ _ hput
      have m4 := cell_of_row _ _ 4 _ _ _ hput
      clear hd2 hm2 HD2 HB2 HMT
      obtain ⟨Z3, hZ3⟩ := HD3.out.refP
      obtain ⟨⟨aR, kR, cR, csR, hRD, _⟩, _⟩ := hZ3.drv Hbi.out Hbv.out
      have r3 := cell_of_row _ (EP i) 3 _ _ _ hRD.obj
      have hlR := heap_lt hRD.obj
      obtain ⟨K3, hK3⟩ := HD3.out.realP
      obtain ⟨K3', hD3⟩ := hK3.drvP Hbi.out Hbv.out
      rw [← Hdi.out] at hD3
      have HDR := Lib.hid hD3
      clear hZ3 hK3 hRD hD3
      go_wp2_with fail
      refine wp_region_phase (by kernel_rfl) [] (by kernel_rfl) (by kernel_rfl) ?_
      refine stage_last [Sp.eq (.pointer (some ⟨d, 0, none⟩)), Sp.eq (.pointer (some ⟨d, 0, none⟩)), Sp.eq (.pointer (some ⟨d, 0, none⟩)), Sp.eq (.int .i64 p), Sp.eq (.pointer (some ⟨EP i, 0, none⟩)), Sp.eq (.pointer (some ⟨EP i, 0, none⟩)), Sp.eq (.pointer (some ⟨EP i, 3, none⟩)), Sp.eq (.int .i64 p), Sp.eq (.bool false)] ?_ ?_
      · refine stepsG_cons ?_ (stepsG_cons ?_ (stepsG_cons ?_ (stepsG_cons ?_ (stepsG_cons ?_ (stepsG_cons ?_ (stepsG_cons ?_ (stepsG_cons ?_ (stepsG_cons ?_ (stepsG_nil)))))))))
        · intro ρ w' E
          have e21 : ρ (.tmp 21) = .pointer (some ⟨d, 0, none⟩) := E.out 21 rfl
          refine step_plain rfl ?_
          refine op_val (v := .pointer (some ⟨d, 0, none⟩)) (w' := w') ?_ ⟨Below.refl _ _, rfl⟩
          have hcon := E.con
          clear E
          go_simp
        · intro ρ w' E
          have e163 : ρ (.tmp 163) = .pointer (some ⟨d, 0, none⟩) := E.pre 0 rfl rfl
          refine step_plain rfl ?_
          refine op_val (v := .pointer (some ⟨d, 0, none⟩)) (w' := w') ?_ ⟨Below.refl _ _, rfl⟩
          have hcon := E.con
          clear E
          go_simp
        · intro ρ w' E
          have e164 : ρ (.tmp 164) = .pointer (some ⟨d, 0, none⟩) := E.pre 1 rfl rfl
          refine step_plain rfl ?_
          refine op_val (v := .pointer (some ⟨d, 0, none⟩)) (w' := w') ?_ ⟨Below.refl _ _, rfl⟩
          have hcon := E.con
          clear E
          go_simp
        · intro ρ w' E
          have e165 : ρ (.tmp 165) = .pointer (some ⟨d, 0, none⟩) := E.pre 2 rfl rfl
          refine step_plain rfl ?_
          refine op_call (f := 26) (args := #[.pointer (some ⟨d, 0, none⟩)]) (w' := w') (by have hcon := E.con; have hfn := E.fn; clear E; go_simp) ?_
          refine (drv_placeP w' (HDR.out.ext E.below)).mono ?_
          rintro e w2 ⟨rfl, rfl⟩
          exact ⟨_, rfl, Below.refl _ _, rfl⟩
        · intro ρ w' E
          have e23 : ρ (.tmp 23) = .pointer (some ⟨EP i, 0, none⟩) := E.out 23 rfl
          refine step_plain rfl ?_
          refine op_val (v := .pointer (some ⟨EP i, 0, none⟩)) (w' := w') ?_ ⟨Below.refl _ _, rfl⟩
          have hcon := E.con
          clear E
          go_simp
        · intro ρ w' E
          have e167 : ρ (.tmp 167) = .pointer (some ⟨EP i, 0, none⟩) := E.pre 4 rfl rfl
          refine step_plain rfl ?_
          refine op_val (v := .pointer (some ⟨EP i, 0, none⟩)) (w' := w') ?_ ⟨Below.refl _ _, rfl⟩
          have hcon := E.con
          clear E
          go_simp
        · intro ρ w' E
          have e168 : ρ (.tmp 168) = .pointer (some ⟨EP i, 0, none⟩) := E.pre 5 rfl rfl
          refine step_plain rfl ?_
          refine op_val (v := .pointer (some ⟨EP i, 3, none⟩)) (w' := w') ?_ ⟨Below.refl _ _, rfl⟩
          have hcon := E.con
          clear E
          go_simp
        · intro ρ w' E
          have e169 : ρ (.tmp 169) = .pointer (some ⟨EP i, 3, none⟩) := E.pre 6 rfl rfl
          refine step_plain rfl ?_
          refine op_val (v := .int .i64 p) (w' := w') ?_ ⟨Below.refl _ _, rfl⟩
          have hk := (World.cell?_of_block (w := w3x) (E.below.block _ hlR)).trans r3
          have hcon := E.con
          clear E r3 m1 m2 m3 m4
          go_simp
        · intro ρ w' E
          have e166 : ρ (.tmp 166) = .int .i64 p := E.pre 3 rfl rfl
          have e170 : ρ (.tmp 170) = .int .i64 p := E.pre 7 rfl rfl
          refine step_plain rfl ?_
          refine op_val (v := .bool false) (w' := w') ?_ ⟨Below.refl _ _, rfl⟩
          have hcon := E.con
          clear E
          go_simp
      · intro σF wF GF OF HF
        have s171 : σF 171 = .bool false := HF 8 rfl rfl
        clear OF HF
        simp only [upd, updL, dstsOf', elemB, List.filterMap_cons, List.filterMap_nil, Nat.reduceAdd, Nat.reduceBEq, Bool.or_false, Bool.false_or, Bool.or_true, Bool.true_or, cond_true, cond_false, Nat.zero_add, s171]
        have HD4 := Lib.hid (HD3.out.ext GF)
        have HB4 := Lib.hid (bthen HB3.out GF (Nat.le_refl _))
        have hputF := (GF.block _ (heap_lt hput)).trans hput
        clear GF r3 hlR HDR HD3 HB3 hput m1 m2 m3 m4
        have hput := hputF
        clear hputF
        have m1 := cell_of_row _ _ 1 _ _ _ hput
        have m2 := cell_of_row _ _ 2 _ _ _ hput
        have m3 := cell_of_row _ _ 3 _ _ _ hput
        have m4 := cell_of_row _ _ 4 _ _ _ hput
        generalize wF = w4 at *
        by_cases hz0 : z = 0
        · as_aux_lemma =>
            have e0 : ((z : Int) == 0) = true := by simp; omega
            obtain ⟨pn, rfl, hpl⟩ := HG.out.pos
            obtain ⟨⟨Em, s', M', p'⟩, hrr⟩ : ∃ y, y = dvWrite s M pn x.b.l := ⟨_, rfl⟩
            have hgd := dvWrite_good HG.out.ok hpl hrr.symm
            have HRR := Lib.hid hrr.symm
            have Hgd : Hid (DGood M' p' ∧ M'.cap = S1.size) := Lib.hid ⟨hgd.1, hgd.2.1.trans HC.out⟩
            have Hlf := Lib.hid hgd.2.2
            have HS3 : Hid (∀ w', Below w3.heap.size w3 w' → Src w' x.b.a (bvs x.b.l)) := Lib.hid fun w' hb => (Hok3.out.1.ext hb).1
            have HLE3 : Hid (x.b.l.length ≤ 300) := H300
            have HLC3 : Hid (x.b.l.length ≤ x.b.c) := Lib.hid Hok3.out.2.1
            clear hrr hgd m1 m2 m4
            go_wp2_with fail
            refine wp_region_free (by kernel_rfl) [0, 1, 2, 4, 5, 6] [3, 7] (Mod.rel (TRF w3.heap.size 0 0)) [SpT.eq (.pointer (some ⟨d, 0, none⟩)), SpT.eq (.pointer (some ⟨GA, 3, none⟩)), SpT.eq (.slice x.b.a x.b.l.length x.b.c), SpT.top, SpT.eq (.pointer (some ⟨EP i, 0, none⟩)), SpT.eq (.pointer (some ⟨GA, 3, none⟩)), SpT.eq (.slice x.b.a x.b.l.length x.b.c), SpT.top, SpT.top] (by kernel_rfl) (by kernel_rfl) (by kernel_rfl) ?_ ?_
            · refine stepsE_yes rfl ?_ (stepsE_yes rfl ?_ (stepsE_yes rfl ?_ (stepsE_no rfl (stepsE_yes rfl ?_ (stepsE_yes rfl ?_ (stepsE_yes rfl ?_ (stepsE_no rfl (stepsE_no rfl (stepsE_nil)))))))))
              · intro ρ w' E
                have e21 : ρ (.tmp 21) = .pointer (some ⟨d, 0, none⟩) := E.out 21 rfl
                refine step_plain rfl ?_
                exact op_move (.inl rfl) e21 ⟨Below.refl _ _, rfl⟩
              · intro ρ w' E
                have e17 : ρ (.tmp 17) = .pointer (some ⟨GA, 0, none⟩) := E.out 17 rfl
                refine step_plain rfl ?_
                refine op_val (v := .pointer (some ⟨GA, 3, none⟩)) (w' := w') ?_ ⟨Below.refl _ _, rfl⟩
                have hcon := E.con
                clear E
                go_simp
              · intro ρ w' E
                have e176 : ρ (.tmp 176) = .pointer (some ⟨GA, 3, none⟩) := E.pre 1 rfl
                refine step_plain rfl ?_
                have k := (World.cell?_of_block (w := w4) ((E.t.keep hput (fun hf => TRF_noA _ hf)).trans hput.symm)).trans m3
                refine op_val (v := .slice x.b.a x.b.l.length x.b.c) (w' := w') ?_ ⟨Below.refl _ _, rfl⟩
                have hcon := E.con
                clear E m3 hput
                go_simp
              · intro ρ w' E
                have e23 : ρ (.tmp 23) = .pointer (some ⟨EP i, 0, none⟩) := E.out 23 rfl
                refine step_plain rfl ?_
                exact op_move (.inl rfl) e23 ⟨Below.refl _ _, rfl⟩
              · intro ρ w' E
                have e17 : ρ (.tmp 17) = .pointer (some ⟨GA, 0, none⟩) := E.out 17 rfl
                refine step_plain rfl ?_
                refine op_val (v := .pointer (some ⟨GA, 3, none⟩)) (w' := w') ?_ ⟨Below.refl _ _, rfl⟩
                have hcon := E.con
                clear E
                go_simp
              · intro ρ w' E
                have e180 : ρ (.tmp 180) = .pointer (some ⟨GA, 3, none⟩) := E.pre 5 rfl
                refine step_plain rfl ?_
                have k := (World.cell?_of_block (w := w4) ((E.t.keep hput (fun hf => TRF_noA _ hf)).trans hput.symm)).trans m3
                refine op_val (v := .slice x.b.a x.b.l.length x.b.c) (w' := w') ?_ ⟨Below.refl _ _, rfl⟩
                have hcon := E.con
                clear E m3 hput
                go_simp
            · skip
              refine stageH_more [Sp.eq undef, Sp.eq undef, Sp.eq undef] rfl ?_ ?_
              · refine stepsH_skip rfl (stepsH_skip rfl (stepsH_skip rfl (stepsH_nil)))
              · intro σ1 ρ1 w1c E1 K1
                have e175 : ρ1 (.tmp 175) = .pointer (some ⟨d, 0, none⟩) := E1.early 0 rfl rfl
                have e177 : ρ1 (.tmp 177) = .slice x.b.a x.b.l.length x.b.c := E1.early 2 rfl rfl
                refine step_plain rfl ?_
                refine op_call (f := 27) (args := #[.pointer (some ⟨d, 0, none⟩), .slice x.b.a x.b.l.length x.b.c]) (w' := w1c) (by have hcon := E1.con; have hfn := E1.fn; clear E1 m3 hput; go_simp) ?_
                have hB5 := bthen HB4.out E1.below (Nat.le_refl _)
                refine ((HD4.out.ext E1.below).real (Nat.zero_le _) (X := fun e D' _ => e = .returned (.int .i64 Em) ∧ DP = D') (fun K hR hu => (hR.drive hu Hbi.out Hbv.out Hdi.out (R := fun e _ => e = .returned (.int .i64 Em)) (fun K' hd hu' => drv_write pn x.b.a x.b.l.length x.b.c x.b.l s s' Em M' p' w1c hd hu' hpl HG.out.len (fun w' hm => HS3.out _ (hB5.trans (hm.below (fun b T h => h.1) hB5.size))) rfl (by have := HLE3.out; omega) HLC3.out HRR.out) Hgd.out).mono fun e w' ⟨he, h1, hm⟩ => ⟨DP, ⟨he, rfl⟩, h1, hm⟩)).mono ?_
                rintro e w2x ⟨D', ⟨rfl, rfl⟩, hd2, hm2⟩
                have HB5 := Lib.hid (hB5.trans (hm2.below (fun b T h => h.1) hB5.size))
                clear hB5
                refine ⟨_, rfl, hm2, ?_⟩
                refine stageH_more [Sp.eq undef, Sp.eq undef, Sp.eq undef] rfl ?_ ?_
                · refine stepsH_skip rfl (stepsH_skip rfl (stepsH_skip rfl (stepsH_nil)))
                · intro σ2 ρ2 w2c E2 K2
                  have s178_2 : σ2 178 = .int .i64 Em := (K2.old 3 178 rfl rfl rfl).trans rfl
                  have e179 : ρ2 (.tmp 179) = .pointer (some ⟨EP i, 0, none⟩) := E2.early 4 rfl rfl
                  have e181 : ρ2 (.tmp 181) = .slice x.b.a x.b.l.length x.b.c := E2.early 6 rfl rfl
                  refine step_plain rfl ?_
                  refine op_call (f := 28) (args := #[.pointer (some ⟨EP i, 0, none⟩), .slice x.b.a x.b.l.length x.b.c]) (w' := w2c) (by have hcon := E2.con; have hfn := E2.fn; clear E2 E1 m3 hput; go_simp) ?_
                  have hB6 := bthen HB5.out E2.below (Nat.le_refl _)
                  refine ((hd2.ext E2.below).ref (Nat.zero_le _) (X := fun e E' _ => e = .returned (.int .i64 Em) ∧ EP = E') (fun Z hR hu hfr => (hR.drive hu Hbi.out Hbv.out (X := fun e _ => e = .returned (.int .i64 Em)) (fun hd => rdrv_write pn x.b.a x.b.l.length x.b.c x.b.l s s' Em M' p' w2c hd HG.out.ok hpl (fun w' hm => HS3.out _ (hB6.trans (hm.below (fun b T h => h.1) hB6.size))) rfl (by have := HLE3.out; omega) HLC3.out HRR.out) Hgd.out).mono fun e w' ⟨he, h1, hm⟩ => ⟨EP, ⟨he, rfl⟩, h1, hm⟩)).mono ?_
                  rintro e w4x ⟨E', ⟨rfl, rfl⟩, hd3, hm3⟩
                  have HB6 := Lib.hid (hB6.trans (hm3.below (fun b T h => h.1) hB6.size))
                  clear hd2 hm2 HB5 hB6
                  refine ⟨_, rfl, hm3, ?_⟩
                  refine stageH_last [Sp.eq (.bool false)] ?_ ?_
                  · refine stepsH_cons rfl ?_ (stepsH_nil)
                    · intro ρ w' E
                      have e178 : ρ (.tmp 178) = .int .i64 Em := (E.old 3 178 rfl rfl rfl).trans s178_2
                      have e182 : ρ (.tmp 182) = .int .i64 Em := (E.old 7 182 rfl rfl rfl).trans rfl
                      refine step_plain rfl ?_
                      refine op_val (v := .bool false) (w' := w') ?_ ⟨Below.refl _ _, rfl⟩
                      have hcon := E.con
                      clear E
                      go_simp
                  · intro σF wF KF EF
                    have s183 : σF 183 = .bool false := KF.val 8 rfl rfl rfl
                    have GF := KF.below
                    clear KF
                    simp only [upd, updL, dstsOf', elemB, List.filterMap_cons, List.filterMap_nil, Nat.reduceAdd, Nat.reduceBEq, Bool.or_false, Bool.or_true, cond_true, cond_false, Nat.zero_add, s183]
                    have hd3 := hd3.ext GF
                    have HBF3 := Lib.hid (bthen HB6.out GF (Nat.le_refl _))
                    generalize wF = wy at *
                    obtain ⟨SE, DE, sE, EE, HDE, HSE, HBE⟩ : ∃ SE DE sE EE, Hid (TwoR w3.heap.size 0 0 wy r g rr q SE DE sE SE EE sE) ∧ Hid (RSame SE sE vN dN sN (t + 1)) ∧ Hid (Below w3.heap.size w3 wy) := ⟨_, _, _, _, Lib.hid hd3, Lib.hid ⟨(drive_len _ _ _ _).1.trans HS1.out.vols, (drive_len _ _ _ _).2.1.trans HS1.out.bays, (drive_len _ _ _ _).2.2.1.trans HS1.out.size, by rw [(drive_len _ _ _ _).2.2.2]; exact HS1.out.asked, by first | exact HS1.out.life | (rw [Hlf.out]; exact HS1.out.life)⟩, HBF3⟩
                    clear hd3 HBF3 HB6 HRR Hgd GF EF
                    go_wp2_with fail
                    obtain ⟨Z, ⟨V, hRL, _⟩, _⟩ := HDE.out.refP
                    obtain ⟨_, _, _, _, _, _, q6, _, hlr⟩ := hRL.cells
                    obtain ⟨KE, hKE⟩ := HDE.out.realP
                    have HKE := Lib.hid hKE
                    obtain ⟨mt, hmt⟩ : ∃ m, m = SE.mounts := ⟨_, rfl⟩
                    rw [← hmt] at q6
                    have Hmt := Lib.hid hmt.symm
                    clear hRL hKE hmt
                    refine wp_region_phase (by kernel_rfl) [] (by kernel_rfl) (by kernel_rfl) ?_
                    refine stage_last [Sp.eq (.pointer (some ⟨r, 0, none⟩)), Sp.eq (.int .i64 mt), Sp.eq (.pointer (some ⟨rr, 0, none⟩)), Sp.eq (.pointer (some ⟨rr, 0, none⟩)), Sp.eq (.pointer (some ⟨rr, 6, none⟩)), Sp.eq (.int .i64 mt), Sp.eq (.bool false)] ?_ ?_
                    · refine stepsG_cons ?_ (stepsG_cons ?_ (stepsG_cons ?_ (stepsG_cons ?_ (stepsG_cons ?_ (stepsG_cons ?_ (stepsG_cons ?_ (stepsG_nil)))))))
                      · intro ρ w' E
                        have e11 : ρ (.tmp 11) = .pointer (some ⟨r, 0, none⟩) := E.out 11 rfl
                        refine step_plain rfl ?_
                        refine op_val (v := .pointer (some ⟨r, 0, none⟩)) (w' := w') ?_ ⟨Below.refl _ _, rfl⟩
                        have hcon := E.con
                        clear E
                        go_simp
                      · intro ρ w' E
                        have e289 : ρ (.tmp 289) = .pointer (some ⟨r, 0, none⟩) := E.pre 0 rfl rfl
                        refine step_plain rfl ?_
                        refine op_call (f := 36) (args := #[.pointer (some ⟨r, 0, none⟩)]) (w' := w') (by have hcon := E.con; have hfn := E.fn; clear E; go_simp) ?_
                        refine (rob_mountsP mt w' (HKE.out.ext E.below) Hmt.out).mono ?_
                        rintro e w2 ⟨rfl, rfl⟩
                        exact ⟨_, rfl, Below.refl _ _, rfl⟩
                      · intro ρ w' E
                        have e15 : ρ (.tmp 15) = .pointer (some ⟨rr, 0, none⟩) := E.out 15 rfl
                        refine step_plain rfl ?_
                        refine op_val (v := .pointer (some ⟨rr, 0, none⟩)) (w' := w') ?_ ⟨Below.refl _ _, rfl⟩
                        have hcon := E.con
                        clear E
                        go_simp
                      · intro ρ w' E
                        have e291 : ρ (.tmp 291) = .pointer (some ⟨rr, 0, none⟩) := E.pre 2 rfl rfl
                        refine step_plain rfl ?_
                        refine op_val (v := .pointer (some ⟨rr, 0, none⟩)) (w' := w') ?_ ⟨Below.refl _ _, rfl⟩
                        have hcon := E.con
                        clear E
                        go_simp
                      · intro ρ w' E
                        have e292 : ρ (.tmp 292) = .pointer (some ⟨rr, 0, none⟩) := E.pre 3 rfl rfl
                        refine step_plain rfl ?_
                        refine op_val (v := .pointer (some ⟨rr, 6, none⟩)) (w' := w') ?_ ⟨Below.refl _ _, rfl⟩
                        have hcon := E.con
                        clear E
                        go_simp
                      · intro ρ w' E
                        have e293 : ρ (.tmp 293) = .pointer (some ⟨rr, 6, none⟩) := E.pre 4 rfl rfl
                        refine step_plain rfl ?_
                        refine op_val (v := .int .i64 mt) (w' := w') ?_ ⟨Below.refl _ _, rfl⟩
                        have hk := (World.cell?_of_block (w := wy) (E.below.block _ hlr)).trans q6
                        have hcon := E.con
                        clear E q6
                        go_simp
                      · intro ρ w' E
                        have e290 : ρ (.tmp 290) = .int .i64 mt := E.pre 1 rfl rfl
                        have e294 : ρ (.tmp 294) = .int .i64 mt := E.pre 5 rfl rfl
                        refine step_plain rfl ?_
                        refine op_val (v := .bool false) (w' := w') ?_ ⟨Below.refl _ _, rfl⟩
                        have hcon := E.con
                        clear E
                        go_simp
                    · intro σF wF GF OF HF
                      have s295 : σF 295 = .bool false := HF 6 rfl rfl
                      clear OF HF
                      simp only [upd, updL, dstsOf', elemB, List.filterMap_cons, List.filterMap_nil, Nat.reduceAdd, Nat.reduceBEq, Bool.or_false, Bool.false_or, Bool.or_true, Bool.true_or, cond_true, cond_false, Nat.zero_add, s295]
                      have HDF := Lib.hid (HDE.out.ext GF)
                      have HBF := Lib.hid (bthen HBE.out GF (Nat.le_refl _))
                      clear GF q6 hlr HDE HBE HKE Hmt
                      go_wp2_with fail
                      go_roundw
                      case rel => exact ⟨t + 1, _, _, _, _, _, rfl, by omega, by omega, by go_num, HDF, HSE, HBF⟩
                      case measure => simp [intOf]; omega
        have e0 : ((z : Int) == 0) = false := by simp; omega
        by_cases hz1 : z = 1
        · as_aux_lemma =>
            have e1 : ((z : Int) == 1) = true := by simp; omega
            obtain ⟨pn, rfl, hpl⟩ := HG.out.pos
            obtain ⟨⟨Em, s', M', p'⟩, hrr⟩ : ∃ y, y = dvMark s M pn := ⟨_, rfl⟩
            have hgd := dvMark_good HG.out.ok hpl hrr.symm
            have HRR := Lib.hid hrr.symm
            have Hgd : Hid (DGood M' p' ∧ M'.cap = S1.size) := Lib.hid ⟨hgd.1, hgd.2.1.trans HC.out⟩
            have Hlf := Lib.hid hgd.2.2
            clear hrr hgd m1 m2 m3 m4 hput
            go_wp2_with fail
            refine (HD4.out.real (Nat.zero_le _) (X := fun e D' _ => e = .returned (.int .i64 Em) ∧ DP = D') (fun K hR hu => (hR.drive hu Hbi.out Hbv.out Hdi.out (R := fun e _ => e = .returned (.int .i64 Em)) (fun K' hd hu' => drv_mark pn s s' Em M' p' w4 hd hu' hpl HG.out.len HRR.out) Hgd.out).mono fun e w' ⟨he, h1, hm⟩ => ⟨DP, ⟨he, rfl⟩, h1, hm⟩)).mono ?_
            rintro e w5x ⟨D', ⟨rfl, rfl⟩, hd2, hm2⟩
            have HD5 := Lib.hid hd2
            have HB5 := Lib.hid (HB4.out.trans (hm2.below (fun b T h => h.1) HB4.out.size))
            clear hd2 hm2
            go_wp2_with fail
            refine (HD5.out.ref (Nat.zero_le _) (X := fun e E' _ => e = .returned (.int .i64 Em) ∧ EP = E') (fun Z hR hu hfr => (hR.drive hu Hbi.out Hbv.out (X := fun e _ => e = .returned (.int .i64 Em)) (fun hd => rdrv_mark pn s s' Em M' p' w5x hd HG.out.ok hpl HRR.out) Hgd.out).mono fun e w' ⟨he, h1, hm⟩ => ⟨EP, ⟨he, rfl⟩, h1, hm⟩)).mono ?_
            rintro e wy ⟨E', ⟨rfl, rfl⟩, hd3, hm3⟩
            obtain ⟨SE, DE, sE, EE, HDE, HSE, HBE⟩ : ∃ SE DE sE EE, Hid (TwoR w3.heap.size 0 0 wy r g rr q SE DE sE SE EE sE) ∧ Hid (RSame SE sE vN dN sN (t + 1)) ∧ Hid (Below w3.heap.size w3 wy) := ⟨_, _, _, _, Lib.hid hd3, Lib.hid ⟨(drive_len _ _ _ _).1.trans HS1.out.vols, (drive_len _ _ _ _).2.1.trans HS1.out.bays, (drive_len _ _ _ _).2.2.1.trans HS1.out.size, by rw [(drive_len _ _ _ _).2.2.2]; exact HS1.out.asked, by rw [Hlf.out]; exact HS1.out.life⟩, Lib.hid (HB5.out.trans (hm3.below (fun b T h => h.1) HB5.out.size))⟩
            clear hd3 hm3 HD5 HB5
            go_wp2_with fail
            obtain ⟨Z, ⟨V, hRL, _⟩, _⟩ := HDE.out.refP
            obtain ⟨_, _, _, _, _, _, q6, _, hlr⟩ := hRL.cells
            obtain ⟨KE, hKE⟩ := HDE.out.realP
            have HKE := Lib.hid hKE
            obtain ⟨mt, hmt⟩ : ∃ m, m = SE.mounts := ⟨_, rfl⟩
            rw [← hmt] at q6
            have Hmt := Lib.hid hmt.symm
            clear hRL hKE hmt
            refine wp_region_phase (by kernel_rfl) [] (by kernel_rfl) (by kernel_rfl) ?_
            refine stage_last [Sp.eq (.pointer (some ⟨r, 0, none⟩)), Sp.eq (.int .i64 mt), Sp.eq (.pointer (some ⟨rr, 0, none⟩)), Sp.eq (.pointer (some ⟨rr, 0, none⟩)), Sp.eq (.pointer (some ⟨rr, 6, none⟩)), Sp.eq (.int .i64 mt), Sp.eq (.bool false)] ?_ ?_
            · refine stepsG_cons ?_ (stepsG_cons ?_ (stepsG_cons ?_ (stepsG_cons ?_ (stepsG_cons ?_ (stepsG_cons ?_ (stepsG_cons ?_ (stepsG_nil)))))))
              · intro ρ w' E
                have e11 : ρ (.tmp 11) = .pointer (some ⟨r, 0, none⟩) := E.out 11 rfl
                refine step_plain rfl ?_
                refine op_val (v := .pointer (some ⟨r, 0, none⟩)) (w' := w') ?_ ⟨Below.refl _ _, rfl⟩
                have hcon := E.con
                clear E
                go_simp
              · intro ρ w' E
                have e289 : ρ (.tmp 289) = .pointer (some ⟨r, 0, none⟩) := E.pre 0 rfl rfl
                refine step_plain rfl ?_
                refine op_call (f := 36) (args := #[.pointer (some ⟨r, 0, none⟩)]) (w' := w') (by have hcon := E.con; have hfn := E.fn; clear E; go_simp) ?_
                refine (rob_mountsP mt w' (HKE.out.ext E.below) Hmt.out).mono ?_
                rintro e w2 ⟨rfl, rfl⟩
                exact ⟨_, rfl, Below.refl _ _, rfl⟩
              · intro ρ w' E
                have e15 : ρ (.tmp 15) = .pointer (some ⟨rr, 0, none⟩) := E.out 15 rfl
                refine step_plain rfl ?_
                refine op_val (v := .pointer (some ⟨rr, 0, none⟩)) (w' := w') ?_ ⟨Below.refl _ _, rfl⟩
                have hcon := E.con
                clear E
                go_simp
              · intro ρ w' E
                have e291 : ρ (.tmp 291) = .pointer (some ⟨rr, 0, none⟩) := E.pre 2 rfl rfl
                refine step_plain rfl ?_
                refine op_val (v := .pointer (some ⟨rr, 0, none⟩)) (w' := w') ?_ ⟨Below.refl _ _, rfl⟩
                have hcon := E.con
                clear E
                go_simp
              · intro ρ w' E
                have e292 : ρ (.tmp 292) = .pointer (some ⟨rr, 0, none⟩) := E.pre 3 rfl rfl
                refine step_plain rfl ?_
                refine op_val (v := .pointer (some ⟨rr, 6, none⟩)) (w' := w') ?_ ⟨Below.refl _ _, rfl⟩
                have hcon := E.con
                clear E
                go_simp
              · intro ρ w' E
                have e293 : ρ (.tmp 293) = .pointer (some ⟨rr, 6, none⟩) := E.pre 4 rfl rfl
                refine step_plain rfl ?_
                refine op_val (v := .int .i64 mt) (w' := w') ?_ ⟨Below.refl _ _, rfl⟩
                have hk := (World.cell?_of_block (w := wy) (E.below.block _ hlr)).trans q6
                have hcon := E.con
                clear E q6
                go_simp
              · intro ρ w' E
                have e290 : ρ (.tmp 290) = .int .i64 mt := E.pre 1 rfl rfl
                have e294 : ρ (.tmp 294) = .int .i64 mt := E.pre 5 rfl rfl
                refine step_plain rfl ?_
                refine op_val (v := .bool false) (w' := w') ?_ ⟨Below.refl _ _, rfl⟩
                have hcon := E.con
                clear E
                go_simp
            · intro σF wF GF OF HF
              have s295 : σF 295 = .bool false := HF 6 rfl rfl
              clear OF HF
              simp only [upd, updL, dstsOf', elemB, List.filterMap_cons, List.filterMap_nil, Nat.reduceAdd, Nat.reduceBEq, Bool.or_false, Bool.false_or, Bool.or_true, Bool.true_or, cond_true, cond_false, Nat.zero_add, s295]
              have HDF := Lib.hid (HDE.out.ext GF)
              have HBF := Lib.hid (bthen HBE.out GF (Nat.le_refl _))
              clear GF q6 hlr HDE HBE HKE Hmt
              go_wp2_with fail
              go_roundw
              case rel => exact ⟨t + 1, _, _, _, _, _, rfl, by omega, by omega, by go_num, HDF, HSE, HBF⟩
              case measure => simp [intOf]; omega
        have e1 : ((z : Int) == 1) = false := by simp; omega
        by_cases hz2 : z = 2
        · as_aux_lemma =>
            have e2 : ((z : Int) == 2) = true := by simp; omega
            obtain ⟨⟨Em, p'⟩, hrr⟩ : ∃ y, y = (if s.off then ((5 : Int), p) else M.locate x.m 0 p) := ⟨_, rfl⟩
            have HRR := Lib.hid hrr.symm
            have Hgd : Hid (DGood M p' ∧ M.cap = S1.size) := Lib.hid ⟨locate_good HG.out hrr.symm, HC.out⟩
            have Hlf : Hid (s.life = s.life) := Lib.hid rfl
            have Hm63 : Hid (x.m ≤ 9223372036854775807) := Lib.hid (by have := Hok3.out.2.2.2.1; simp [Lit.wf, IntKind.min, IntKind.max, IntKind.signed, IntKind.bits] at this; omega)
            clear hrr m1 m3 m4
            go_wp2_with fail
            refine wp_region_free (by kernel_rfl) [0, 1, 2, 4, 5, 6] [3, 7] (Mod.rel (TRF w3.heap.size 0 0)) [SpT.eq (.pointer (some ⟨d, 0, none⟩)), SpT.eq (.pointer (some ⟨GA, 2, none⟩)), SpT.eq (.int .i64 x.m), SpT.top, SpT.eq (.pointer (some ⟨EP i, 0, none⟩)), SpT.eq (.pointer (some ⟨GA, 2, none⟩)), SpT.eq (.int .i64 x.m), SpT.top, SpT.top] (by kernel_rfl) (by kernel_rfl) (by kernel_rfl) ?_ ?_
            · refine stepsE_yes rfl ?_ (stepsE_yes rfl ?_ (stepsE_yes rfl ?_ (stepsE_no rfl (stepsE_yes rfl ?_ (stepsE_yes rfl ?_ (stepsE_yes rfl ?_ (stepsE_no rfl (stepsE_no rfl (stepsE_nil)))))))))
              · intro ρ w' E
                have e21 : ρ (.tmp 21) = .pointer (some ⟨d, 0, none⟩) := E.out 21 rfl
                refine step_plain rfl ?_
                exact op_move (.inl rfl) e21 ⟨Below.refl _ _, rfl⟩
              · intro ρ w' E
                have e17 : ρ (.tmp 17) = .pointer (some ⟨GA, 0, none⟩) := E.out 17 rfl
                refine step_plain rfl ?_
                refine op_val (v := .pointer (some ⟨GA, 2, none⟩)) (w' := w') ?_ ⟨Below.refl _ _, rfl⟩
                have hcon := E.con
                clear E
                go_simp
              · intro ρ w' E
                have e194 : ρ (.tmp 194) = .pointer (some ⟨GA, 2, none⟩) := E.pre 1 rfl
                refine step_plain rfl ?_
                have k := (World.cell?_of_block (w := w4) ((E.t.keep hput (fun hf => TRF_noA _ hf)).trans hput.symm)).trans m2
                refine op_val (v := .int .i64 x.m) (w' := w') ?_ ⟨Below.refl _ _, rfl⟩
                have hcon := E.con
                clear E m2 hput
                go_simp
              · intro ρ w' E
                have e23 : ρ (.tmp 23) = .pointer (some ⟨EP i, 0, none⟩) := E.out 23 rfl
                refine step_plain rfl ?_
                exact op_move (.inl rfl) e23 ⟨Below.refl _ _, rfl⟩
              · intro ρ w' E
                have e17 : ρ (.tmp 17) = .pointer (some ⟨GA, 0, none⟩) := E.out 17 rfl
                refine step_plain rfl ?_
                refine op_val (v := .pointer (some ⟨GA, 2, none⟩)) (w' := w') ?_ ⟨Below.refl _ _, rfl⟩
                have hcon := E.con
                clear E
                go_simp
              · intro ρ w' E
                have e198 : ρ (.tmp 198) = .pointer (some ⟨GA, 2, none⟩) := E.pre 5 rfl
                refine step_plain rfl ?_
                have k := (World.cell?_of_block (w := w4) ((E.t.keep hput (fun hf => TRF_noA _ hf)).trans hput.symm)).trans m2
                refine op_val (v := .int .i64 x.m) (w' := w') ?_ ⟨Below.refl _ _, rfl⟩
                have hcon := E.con
                clear E m2 hput
                go_simp
            · skip
              refine stageH_more [Sp.eq undef, Sp.eq undef, Sp.eq undef] rfl ?_ ?_
              · refine stepsH_skip rfl (stepsH_skip rfl (stepsH_skip rfl (stepsH_nil)))
              · intro σ1 ρ1 w1c E1 K1
                have e193 : ρ1 (.tmp 193) = .pointer (some ⟨d, 0, none⟩) := E1.early 0 rfl rfl
                have e195 : ρ1 (.tmp 195) = .int .i64 x.m := E1.early 2 rfl rfl
                refine step_plain rfl ?_
                refine op_call (f := 31) (args := #[.pointer (some ⟨d, 0, none⟩), .int .i64 x.m, .int .i64 0]) (w' := w1c) (by have hcon := E1.con; have hfn := E1.fn; clear E1 m2 hput; go_simp) ?_
                have hB5 := bthen HB4.out E1.below (Nat.le_refl _)
                refine ((HD4.out.ext E1.below).real (Nat.zero_le _) (X := fun e D' _ => e = .returned (.int .i64 Em) ∧ DP = D') (fun K hR hu => (hR.drive hu Hbi.out Hbv.out Hdi.out (R := fun e _ => e = .returned (.int .i64 Em)) (fun K' hd hu' => drv_locate x.m 0 Em p' s w1c hd HG.out.len Hm63.out (by decide) HRR.out) Hgd.out).mono fun e w' ⟨he, h1, hm⟩ => ⟨DP, ⟨he, rfl⟩, h1, hm⟩)).mono ?_
                rintro e w2x ⟨D', ⟨rfl, rfl⟩, hd2, hm2⟩
                have HB5 := Lib.hid (hB5.trans (hm2.below (fun b T h => h.1) hB5.size))
                clear hB5
                refine ⟨_, rfl, hm2, ?_⟩
                refine stageH_more [Sp.eq undef, Sp.eq undef, Sp.eq undef] rfl ?_ ?_
                · refine stepsH_skip rfl (stepsH_skip rfl (stepsH_skip rfl (stepsH_nil)))
                · intro σ2 ρ2 w2c E2 K2
                  have s196_2 : σ2 196 = .int .i64 Em := (K2.old 3 196 rfl rfl rfl).trans rfl
                  have e197 : ρ2 (.tmp 197) = .pointer (some ⟨EP i, 0, none⟩) := E2.early 4 rfl rfl
                  have e199 : ρ2 (.tmp 199) = .int .i64 x.m := E2.early 6 rfl rfl
                  refine step_plain rfl ?_
                  refine op_call (f := 32) (args := #[.pointer (some ⟨EP i, 0, none⟩), .int .i64 x.m, .int .i64 0]) (w' := w2c) (by have hcon := E2.con; have hfn := E2.fn; clear E2 E1 m2 hput; go_simp) ?_
                  have hB6 := bthen HB5.out E2.below (Nat.le_refl _)
                  refine ((hd2.ext E2.below).ref (Nat.zero_le _) (X := fun e E' _ => e = .returned (.int .i64 Em) ∧ EP = E') (fun Z hR hu hfr => (hR.drive hu Hbi.out Hbv.out (X := fun e _ => e = .returned (.int .i64 Em)) (fun hd => (rdrv_locate x.m 0 Em p' s w2c hd HG.out.len Hm63.out (by decide) HRR.out).mono fun e w' h => ⟨h.1, h.2.1.reZ fun b h => .inl h, h.2.2⟩) Hgd.out).mono fun e w' ⟨he, h1, hm⟩ => ⟨EP, ⟨he, rfl⟩, h1, hm⟩)).mono ?_
                  rintro e w4x ⟨E', ⟨rfl, rfl⟩, hd3, hm3⟩
                  have HB6 := Lib.hid (hB6.trans (hm3.below (fun b T h => h.1) hB6.size))
                  clear hd2 hm2 HB5 hB6
                  refine ⟨_, rfl, hm3, ?_⟩
                  refine stageH_last [Sp.eq (.bool false)] ?_ ?_
                  · refine stepsH_cons rfl ?_ (stepsH_nil)
                    · intro ρ w' E
                      have e196 : ρ (.tmp 196) = .int .i64 Em := (E.old 3 196 rfl rfl rfl).trans s196_2
                      have e200 : ρ (.tmp 200) = .int .i64 Em := (E.old 7 200 rfl rfl rfl).trans rfl
                      refine step_plain rfl ?_
                      refine op_val (v := .bool false) (w' := w') ?_ ⟨Below.refl _ _, rfl⟩
                      have hcon := E.con
                      clear E
                      go_simp
                  · intro σF wF KF EF
                    have s201 : σF 201 = .bool false := KF.val 8 rfl rfl rfl
                    have GF := KF.below
                    clear KF
                    simp only [upd, updL, dstsOf', elemB, List.filterMap_cons, List.filterMap_nil, Nat.reduceAdd, Nat.reduceBEq, Bool.or_false, Bool.or_true, cond_true, cond_false, Nat.zero_add, s201]
                    have hd3 := hd3.ext GF
                    have HBF3 := Lib.hid (bthen HB6.out GF (Nat.le_refl _))
                    generalize wF = wy at *
                    obtain ⟨SE, DE, sE, EE, HDE, HSE, HBE⟩ : ∃ SE DE sE EE, Hid (TwoR w3.heap.size 0 0 wy r g rr q SE DE sE SE EE sE) ∧ Hid (RSame SE sE vN dN sN (t + 1)) ∧ Hid (Below w3.heap.size w3 wy) := ⟨_, _, _, _, Lib.hid hd3, Lib.hid ⟨(drive_len _ _ _ _).1.trans HS1.out.vols, (drive_len _ _ _ _).2.1.trans HS1.out.bays, (drive_len _ _ _ _).2.2.1.trans HS1.out.size, by rw [(drive_len _ _ _ _).2.2.2]; exact HS1.out.asked, by first | exact HS1.out.life | (rw [Hlf.out]; exact HS1.out.life)⟩, HBF3⟩
                    clear hd3 HBF3 HB6 HRR Hgd GF EF
                    go_wp2_with fail
                    obtain ⟨Z, ⟨V, hRL, _⟩, _⟩ := HDE.out.refP
                    obtain ⟨_, _, _, _, _, _, q6, _, hlr⟩ := hRL.cells
                    obtain ⟨KE, hKE⟩ := HDE.out.realP
                    have HKE := Lib.hid hKE
                    obtain ⟨mt, hmt⟩ : ∃ m, m = SE.mounts := ⟨_, rfl⟩
                    rw [← hmt] at q6
                    have Hmt := Lib.hid hmt.symm
                    clear hRL hKE hmt
                    refine wp_region_phase (by kernel_rfl) [] (by kernel_rfl) (by kernel_rfl) ?_
                    refine stage_last [Sp.eq (.pointer (some ⟨r, 0, none⟩)), Sp.eq (.int .i64 mt), Sp.eq (.pointer (some ⟨rr, 0, none⟩)), Sp.eq (.pointer (some ⟨rr, 0, none⟩)), Sp.eq (.pointer (some ⟨rr, 6, none⟩)), Sp.eq (.int .i64 mt), Sp.eq (.bool false)] ?_ ?_
                    · refine stepsG_cons ?_ (stepsG_cons ?_ (stepsG_cons ?_ (stepsG_cons ?_ (stepsG_cons ?_ (stepsG_cons ?_ (stepsG_cons ?_ (stepsG_nil)))))))
                      · intro ρ w' E
                        have e11 : ρ (.tmp 11) = .pointer (some ⟨r, 0, none⟩) := E.out 11 rfl
                        refine step_plain rfl ?_
                        refine op_val (v := .pointer (some ⟨r, 0, none⟩)) (w' := w') ?_ ⟨Below.refl _ _, rfl⟩
                        have hcon := E.con
                        clear E
                        go_simp
                      · intro ρ w' E
                        have e289 : ρ (.tmp 289) = .pointer (some ⟨r, 0, none⟩) := E.pre 0 rfl rfl
                        refine step_plain rfl ?_
                        refine op_call (f := 36) (args := #[.pointer (some ⟨r, 0, none⟩)]) (w' := w') (by have hcon := E.con; have hfn := E.fn; clear E; go_simp) ?_
                        refine (rob_mountsP mt w' (HKE.out.ext E.below) Hmt.out).mono ?_
                        rintro e w2 ⟨rfl, rfl⟩
                        exact ⟨_, rfl, Below.refl _ _, rfl⟩
                      · intro ρ w' E
                        have e15 : ρ (.tmp 15) = .pointer (some ⟨rr, 0, none⟩) := E.out 15 rfl
                        refine step_plain rfl ?_
                        refine op_val (v := .pointer (some ⟨rr, 0, none⟩)) (w' := w') ?_ ⟨Below.refl _ _, rfl⟩
                        have hcon := E.con
                        clear E
                        go_simp
                      · intro ρ w' E
                        have e291 : ρ (.tmp 291) = .pointer (some ⟨rr, 0, none⟩) := E.pre 2 rfl rfl
                        refine step_plain rfl ?_
                        refine op_val (v := .pointer (some ⟨rr, 0, none⟩)) (w' := w') ?_ ⟨Below.refl _ _, rfl⟩
                        have hcon := E.con
                        clear E
                        go_simp
                      · intro ρ w' E
                        have e292 : ρ (.tmp 292) = .pointer (some ⟨rr, 0, none⟩) := E.pre 3 rfl rfl
                        refine step_plain rfl ?_
                        refine op_val (v := .pointer (some ⟨rr, 6, none⟩)) (w' := w') ?_ ⟨Below.refl _ _, rfl⟩
                        have hcon := E.con
                        clear E
                        go_simp
                      · intro ρ w' E
                        have e293 : ρ (.tmp 293) = .pointer (some ⟨rr, 6, none⟩) := E.pre 4 rfl rfl
                        refine step_plain rfl ?_
                        refine op_val (v := .int .i64 mt) (w' := w') ?_ ⟨Below.refl _ _, rfl⟩
                        have hk := (World.cell?_of_block (w := wy) (E.below.block _ hlr)).trans q6
                        have hcon := E.con
                        clear E q6
                        go_simp
                      · intro ρ w' E
                        have e290 : ρ (.tmp 290) = .int .i64 mt := E.pre 1 rfl rfl
                        have e294 : ρ (.tmp 294) = .int .i64 mt := E.pre 5 rfl rfl
                        refine step_plain rfl ?_
                        refine op_val (v := .bool false) (w' := w') ?_ ⟨Below.refl _ _, rfl⟩
                        have hcon := E.con
                        clear E
                        go_simp
                    · intro σF wF GF OF HF
                      have s295 : σF 295 = .bool false := HF 6 rfl rfl
                      clear OF HF
                      simp only [upd, updL, dstsOf', elemB, List.filterMap_cons, List.filterMap_nil, Nat.reduceAdd, Nat.reduceBEq, Bool.or_false, Bool.false_or, Bool.or_true, Bool.true_or, cond_true, cond_false, Nat.zero_add, s295]
                      have HDF := Lib.hid (HDE.out.ext GF)
                      have HBF := Lib.hid (bthen HBE.out GF (Nat.le_refl _))
                      clear GF q6 hlr HDE HBE HKE Hmt
                      go_wp2_with fail
                      go_roundw
                      case rel => exact ⟨t + 1, _, _, _, _, _, rfl, by omega, by omega, by go_num, HDF, HSE, HBF⟩
                      case measure => simp [intOf]; omega
        have e2 : ((z : Int) == 2) = false := by simp; omega
        by_cases hz3 : z = 3
        · as_aux_lemma =>
            have e3 : ((z : Int) == 3) = true := by simp; omega
            obtain ⟨⟨lr, Er, pr⟩, hrr⟩ : ∃ y, y = (if s.off then (([] : List Byte), (5 : Int), p) else ((M.look p).1, (M.look p).2, if (M.look p).2 = 8 then p else p + 1)) := ⟨_, rfl⟩
            have Hgd : Hid (DGood M pr ∧ M.cap = S1.size) := Lib.hid ⟨read_good HG.out hrr.symm, HC.out⟩
            have Hlr := Lib.hid (read_len HG.out hrr.symm)
            have HRR := Lib.hid hrr.symm
            obtain ⟨nr, hnr0⟩ : ∃ n, n = lr.length := ⟨_, rfl⟩
            have hnr := Lib.hid hnr0
            have HA0 := Lib.hid HG.out.at0
            clear hrr hnr0 m1 m2 m3 m4 hput
            go_wp2_with fail
            refine (HD4.out.real (Nat.zero_le _) (X := fun e D' w' => (∃ a' c', e = .returned (.tuple #[.slice a' nr c', .int .i64 Er]) ∧ Own w' w4.heap.size 5 1 a' nr c' (bvs lr)) ∧ DP = D') (fun K hR hu => (hR.drive hu Hbi.out Hbv.out Hdi.out (R := fun e w' => ∃ a' c', e = .returned (.tuple #[.slice a' nr c', .int .i64 Er]) ∧ Own w' w4.heap.size 5 1 a' nr c' (bvs lr)) (fun K' hd hu' => (drv_read nr lr Er pr s w4 hd hu'.le HG.out.short hnr.out (by have := HA0.out; show -9223372036854775808 ≤ p; omega) (by have := HA0.out; show p ≤ 9223372036854775806; omega) HRR.out).mono fun e w' ⟨a', c', he, ho, hd', hm⟩ => ⟨⟨a', c', he, ho⟩, hd', hm⟩) Hgd.out).mono fun e w' ⟨he, h1, hm⟩ => ⟨DP, ⟨he, rfl⟩, h1, hm⟩)).mono ?_
            rintro e w5x ⟨D', ⟨⟨aR1, cR1, rfl, hoR⟩, rfl⟩, hd2, hm2⟩
            have HD5 := Lib.hid hd2
            have HB5 := Lib.hid (HB4.out.trans (hm2.below (fun b T h => h.1) HB4.out.size))
            have HO2 := Lib.hid hoR
            clear hd2 hm2 hoR
            go_wp2_with fail
            refine (HD5.out.ref (Nat.zero_le _) (X := fun e E' w' => (∃ a' c', e = .returned (.tuple #[.slice a' nr c', .int .i64 Er]) ∧ Own w' w5x.heap.size 5 1 a' nr c' (bvs lr)) ∧ EP = E') (fun Z hR hu hfr => (hR.drive hu Hbi.out Hbv.out (X := fun e w' => ∃ a' c', e = .returned (.tuple #[.slice a' nr c', .int .i64 Er]) ∧ Own w' w5x.heap.size 5 1 a' nr c' (bvs lr)) (fun hd => (rdrv_read nr lr Er pr s w5x hd HG.out.short hnr.out (by have := HA0.out; show -9223372036854775808 ≤ p; omega) (by have := HA0.out; show p ≤ 9223372036854775806; omega) HRR.out).mono fun e w' ⟨a', c', he, ho, hd', hm⟩ => ⟨⟨a', c', he, ho⟩, hd'.reZ fun b h => .inl h, hm⟩) Hgd.out).mono fun e w' ⟨he, h1, hm⟩ => ⟨EP, ⟨he, rfl⟩, h1, hm⟩)).mono ?_
            rintro e w6x ⟨E', ⟨⟨aR2, cR2, rfl, hoR⟩, rfl⟩, hd3, hm3⟩
            have HD6 := Lib.hid hd3
            have HB6 := Lib.hid (HB5.out.trans (hm3.below (fun b T h => h.1) HB5.out.size))
            have HS6 := Lib.hid hoR.src
            have HO6 := Lib.hid (HO2.out.mod hm3 fun b _ _ => TRF_no8 b)
            clear hd3 hm3 hoR HD5 HB5
            go_wp2_with fail
            refine (bytes_at aR1 cR1 lr aR2 cR2 lr w6x nr nr true HO6.out.src HS6.out hnr.out hnr.out (by have := hnr.out; have := Hlr.out; omega) (by have := hnr.out; have := Hlr.out; omega) (by simp)).mono ?_
            rintro e wy ⟨rfl, nd, hwy⟩
            have hbd := ext_drewN w6x nd w6x.heap.size
            rw [← hwy] at hbd
            clear hwy
            obtain ⟨SE, DE, sE, EE, HDE, HSE, HBE⟩ : ∃ SE DE sE EE, Hid (TwoR w3.heap.size 0 0 wy r g rr q SE DE sE SE EE sE) ∧ Hid (RSame SE sE vN dN sN (t + 1)) ∧ Hid (Below w3.heap.size w3 wy) := ⟨_, _, _, _, Lib.hid (HD6.out.ext hbd), Lib.hid ⟨(drive_len _ _ _ _).1.trans HS1.out.vols, (drive_len _ _ _ _).2.1.trans HS1.out.bays, (drive_len _ _ _ _).2.2.1.trans HS1.out.size, by rw [(drive_len _ _ _ _).2.2.2]; exact HS1.out.asked, HS1.out.life⟩, Lib.hid (bthen HB6.out hbd (Nat.le_refl _))⟩
            clear hbd HD6 HB6 HS6 HO6 HO2
            go_wp2_with fail
            obtain ⟨Z, ⟨V, hRL, _⟩, _⟩ := HDE.out.refP
            obtain ⟨_, _, _, _, _, _, q6, _, hlr⟩ := hRL.cells
            obtain ⟨KE, hKE⟩ := HDE.out.realP
            have HKE := Lib.hid hKE
            obtain ⟨mt, hmt⟩ : ∃ m, m = SE.mounts := ⟨_, rfl⟩
            rw [← hmt] at q6
            have Hmt := Lib.hid hmt.symm
            clear hRL hKE hmt
            refine wp_region_phase (by kernel_rfl) [] (by kernel_rfl) (by kernel_rfl) ?_
            refine stage_last [Sp.eq (.pointer (some ⟨r, 0, none⟩)), Sp.eq (.int .i64 mt), Sp.eq (.pointer (some ⟨rr, 0, none⟩)), Sp.eq (.pointer (some ⟨rr, 0, none⟩)), Sp.eq (.pointer (some ⟨rr, 6, none⟩)), Sp.eq (.int .i64 mt), Sp.eq (.bool false)] ?_ ?_
            · refine stepsG_cons ?_ (stepsG_cons ?_ (stepsG_cons ?_ (stepsG_cons ?_ (stepsG_cons ?_ (stepsG_cons ?_ (stepsG_cons ?_ (stepsG_nil)))))))
              · intro ρ w' E
                have e11 : ρ (.tmp 11) = .pointer (some ⟨r, 0, none⟩) := E.out 11 rfl
                refine step_plain rfl ?_
                refine op_val (v := .pointer (some ⟨r, 0, none⟩)) (w' := w') ?_ ⟨Below.refl _ _, rfl⟩
                have hcon := E.con
                clear E
                go_simp
              · intro ρ w' E
                have e289 : ρ (.tmp 289) = .pointer (some ⟨r, 0, none⟩) := E.pre 0 rfl rfl
                refine step_plain rfl ?_
                refine op_call (f := 36) (args := #[.pointer (some ⟨r, 0, none⟩)]) (w' := w') (by have hcon := E.con; have hfn := E.fn; clear E; go_simp) ?_
                refine (rob_mountsP mt w' (HKE.out.ext E.below) Hmt.out).mono ?_
                rintro e w2 ⟨rfl, rfl⟩
                exact ⟨_, rfl, Below.refl _ _, rfl⟩
              · intro ρ w' E
                have e15 : ρ (.tmp 15) = .pointer (some ⟨rr, 0, none⟩) := E.out 15 rfl
                refine step_plain rfl ?_
                refine op_val (v := .pointer (some ⟨rr, 0, none⟩)) (w' := w') ?_ ⟨Below.refl _ _, rfl⟩
                have hcon := E.con
                clear E
                go_simp
              · intro ρ w' E
                have e291 : ρ (.tmp 291) = .pointer (some ⟨rr, 0, none⟩) := E.pre 2 rfl rfl
                refine step_plain rfl ?_
                refine op_val (v := .pointer (some ⟨rr, 0, none⟩)) (w' := w') ?_ ⟨Below.refl _ _, rfl⟩
                have hcon := E.con
                clear E
                go_simp
              · intro ρ w' E
                have e292 : ρ (.tmp 292) = .pointer (some ⟨rr, 0, none⟩) := E.pre 3 rfl rfl
                refine step_plain rfl ?_
                refine op_val (v := .pointer (some ⟨rr, 6, none⟩)) (w' := w') ?_ ⟨Below.refl _ _, rfl⟩
                have hcon := E.con
                clear E
                go_simp
              · intro ρ w' E
                have e293 : ρ (.tmp 293) = .pointer (some ⟨rr, 6, none⟩) := E.pre 4 rfl rfl
                refine step_plain rfl ?_
                refine op_val (v := .int .i64 mt) (w' := w') ?_ ⟨Below.refl _ _, rfl⟩
                have hk := (World.cell?_of_block (w := wy) (E.below.block _ hlr)).trans q6
                have hcon := E.con
                clear E q6
                go_simp
              · intro ρ w' E
                have e290 : ρ (.tmp 290) = .int .i64 mt := E.pre 1 rfl rfl
                have e294 : ρ (.tmp 294) = .int .i64 mt := E.pre 5 rfl rfl
                refine step_plain rfl ?_
                refine op_val (v := .bool false) (w' := w') ?_ ⟨Below.refl _ _, rfl⟩
                have hcon := E.con
                clear E
                go_simp
            · intro σF wF GF OF HF
              have s295 : σF 295 = .bool false := HF 6 rfl rfl
              clear OF HF
              simp only [upd, updL, dstsOf', elemB, List.filterMap_cons, List.filterMap_nil, Nat.reduceAdd, Nat.reduceBEq, Bool.or_false, Bool.false_or, Bool.or_true, Bool.true_or, cond_true, cond_false, Nat.zero_add, s295]
              have HDF := Lib.hid (HDE.out.ext GF)
              have HBF := Lib.hid (bthen HBE.out GF (Nat.le_refl _))
              clear GF q6 hlr HDE HBE HKE Hmt
              go_wp2_with fail
              go_roundw
              case rel => exact ⟨t + 1, _, _, _, _, _, rfl, by omega, by omega, by go_num, HDF, HSE, HBF⟩
              case measure => simp [intOf]; omega
        have e3 : ((z : Int) == 3) = false := by simp; omega
        as_aux_lemma =>
          obtain ⟨SE, DE, sE, EE, wy, hwy, HDE, HSE, HBE⟩ : ∃ SE DE sE EE wy, w4 = wy ∧ Hid (TwoR w3.heap.size 0 0 wy r g rr q SE DE sE SE EE sE) ∧ Hid (RSame SE sE vN dN sN (t + 1)) ∧ Hid (Below w3.heap.size w3 wy) := ⟨_, _, _, _, _, rfl, HD4, HS1, HB4⟩
          subst hwy
          generalize w4 = wy at *
          clear m1 m2 m3 m4 hput
          go_wp2_with fail
          obtain ⟨Z, ⟨V, hRL, _⟩, _⟩ := HDE.out.refP
          obtain ⟨_, _, _, _, _, _, q6, _, hlr⟩ := hRL.cells
          obtain ⟨KE, hKE⟩ := HDE.out.realP
          have HKE := Lib.hid hKE
          obtain ⟨mt, hmt⟩ : ∃ m, m = SE.mounts := ⟨_, rfl⟩
          rw [← hmt] at q6
          have Hmt := Lib.hid hmt.symm
          clear hRL hKE hmt
          refine wp_region_phase (by kernel_rfl) [] (by kernel_rfl) (by kernel_rfl) ?_
          refine stage_last [Sp.eq (.pointer (some ⟨r, 0, none⟩)), Sp.eq (.int .i64 mt), Sp.eq (.pointer (some ⟨rr, 0, none⟩)), Sp.eq (.pointer (some ⟨rr, 0, none⟩)), Sp.eq (.pointer (some ⟨rr, 6, none⟩)), Sp.eq (.int .i64 mt), Sp.eq (.bool false)] ?_ ?_
          · refine stepsG_cons ?_ (stepsG_cons ?_ (stepsG_cons ?_ (stepsG_cons ?_ (stepsG_cons ?_ (stepsG_cons ?_ (stepsG_cons ?_ (stepsG_nil)))))))
            · intro ρ w' E
              have e11 : ρ (.tmp 11) = .pointer (some ⟨r, 0, none⟩) := E.out 11 rfl
              refine step_plain rfl ?_
              refine op_val (v := .pointer (some ⟨r, 0, none⟩)) (w' := w') ?_ ⟨Below.refl _ _, rfl⟩
              have hcon := E.con
              clear E
              go_simp
            · intro ρ w' E
              have e289 : ρ (.tmp 289) = .pointer (some ⟨r, 0, none⟩) := E.pre 0 rfl rfl
              refine step_plain rfl ?_
              refine op_call (f := 36) (args := #[.pointer (some ⟨r, 0, none⟩)]) (w' := w') (by have hcon := E.con; have hfn := E.fn; clear E; go_simp) ?_
              refine (rob_mountsP mt w' (HKE.out.ext E.below) Hmt.out).mono ?_
              rintro e w2 ⟨rfl, rfl⟩
              exact ⟨_, rfl, Below.refl _ _, rfl⟩
            · intro ρ w' E
              have e15 : ρ (.tmp 15) = .pointer (some ⟨rr, 0, none⟩) := E.out 15 rfl
              refine step_plain rfl ?_
              refine op_val (v := .pointer (some ⟨rr, 0, none⟩)) (w' := w') ?_ ⟨Below.refl _ _, rfl⟩
              have hcon := E.con
              clear E
              go_simp
            · intro ρ w' E
              have e291 : ρ (.tmp 291) = .pointer (some ⟨rr, 0, none⟩) := E.pre 2 rfl rfl
              refine step_plain rfl ?_
              refine op_val (v := .pointer (some ⟨rr, 0, none⟩)) (w' := w') ?_ ⟨Below.refl _ _, rfl⟩
              have hcon := E.con
              clear E
              go_simp
            · intro ρ w' E
              have e292 : ρ (.tmp 292) = .pointer (some ⟨rr, 0, none⟩) := E.pre 3 rfl rfl
              refine step_plain rfl ?_
              refine op_val (v := .pointer (some ⟨rr, 6, none⟩)) (w' := w') ?_ ⟨Below.refl _ _, rfl⟩
              have hcon := E.con
              clear E
              go_simp
            · intro ρ w' E
              have e293 : ρ (.tmp 293) = .pointer (some ⟨rr, 6, none⟩) := E.pre 4 rfl rfl
              refine step_plain rfl ?_
              refine op_val (v := .int .i64 mt) (w' := w') ?_ ⟨Below.refl _ _, rfl⟩
              have hk := (World.cell?_of_block (w := wy) (E.below.block _ hlr)).trans q6
              have hcon := E.con
              clear E q6
              go_simp
            · intro ρ w' E
              have e290 : ρ (.tmp 290) = .int .i64 mt := E.pre 1 rfl rfl
              have e294 : ρ (.tmp 294) = .int .i64 mt := E.pre 5 rfl rfl
              refine step_plain rfl ?_
              refine op_val (v := .bool false) (w' := w') ?_ ⟨Below.refl _ _, rfl⟩
              have hcon := E.con
              clear E
              go_simp
          · intro σF wF GF OF HF
            have s295 : σF 295 = .bool false := HF 6 rfl rfl
            clear OF HF
            simp only [upd, updL, dstsOf', elemB, List.filterMap_cons, List.filterMap_nil, Nat.reduceAdd, Nat.reduceBEq, Bool.or_false, Bool.false_or, Bool.or_true, Bool.true_or, cond_true, cond_false, Nat.zero_add, s295]
            have HDF := Lib.hid (HDE.out.ext GF)
            have HBF := Lib.hid (bthen HBE.out GF (Nat.le_refl _))
            clear GF q6 hlr HDE HBE HKE Hmt
            go_wp2_with fail
            go_roundw
            case rel => exact ⟨t + 1, _, _, _, _, _, rfl, by omega, by omega, by go_num, HDF, HSE, HBF⟩
            case measure => simp [intOf]; omega
    · as_aux_lemma =>
        go_wp2_with fail
        clear HLr
        go_loopw [29] (fun i wx => ∃ (j : Int) (wr2 : World), wr2 = wx ∧ wr2 = wr ∧ -1 ≤ j ∧ j ≤ dN + 1 ∧ i = .int .i64 j) (fun i _ => ((dN : Int) + 1 - intOf i).toNat)
        case atStart => exact ⟨-1, _, rfl, rfl, by omega, by omega, rfl⟩
        case round =>
          obtain ⟨j, wr2, hwr2, hwr3, hj0, hj1, rfl⟩ := hrel
          subst hwr2
          subst hwr3
          obtain ⟨K2, hK2⟩ := HD.out.realP
          have HK2 := Lib.hid hK2
          have hbl := HSr.out.bays
          clear hK2
          by_cases hjd : j ≤ dN
          · have ed : decide (j ≤ (dN : Int)) = true := by simpa using hjd
            have ew : IntKind.i64.wrap (j + 1) = j + 1 := by have := Hd.out; rw [IntKind.wrap_i64]; omega
            by_cases h0 : j < 0
            · have eg : decide (j ≥ 0) = false := by simp; omega
              go_wp2_with fail
              refine (rob_holdsP j (-1) wr2 HK2.out (by rw [if_neg (by omega)])).mono ?_
              rintro e w2 ⟨rfl, rfl⟩
              go_wp2_with fail
              go_roundw
              case rel => exact ⟨j + 1, _, rfl, rfl, by omega, by omega, by simp [ew]⟩
              case measure => simp [intOf]; omega
            have eg : decide (j ≥ 0) = true := by simp; omega
            by_cases h1 : j < dN
            · have el : decide (j < (dN : Int)) = true := by simpa using h1
              obtain ⟨jn, rfl⟩ := Int.eq_ofNat_of_zero_le (show 0 ≤ j by omega)
              obtain ⟨bb, hbb⟩ : ∃ b, S.bays[jn]? = some b := ⟨_, List.getElem?_eq_getElem (by omega)⟩
              obtain ⟨Z, ⟨V, hRL, _⟩, _⟩ := HD.out.refP
              obtain ⟨_, _, _, q3, _, _, _, _, hlr⟩ := hRL.cells
              obtain ⟨gD, gH, gU, y0, eD, eH, eU, _, _, _, _, _, _, qH, _⟩ := hRL.at (i := jn) (b := bb) hbb
              rw [eH, hbl] at q3
              obtain ⟨bv, hbv⟩ : ∃ v, v = bb.vol := ⟨_, rfl⟩
              rw [← hbv] at qH
              have hgd : (if 0 ≤ (jn : Int) ∧ (jn : Int) < S.bays.length then (S.bays.getD (jn : Int).toNat bay0).vol else -1) = bv := by
                rw [if_pos (by omega), hbv, Int.toNat_natCast, List.getD_eq_getElem?_getD, hbb]; rfl
              have Hgd := Lib.hid hgd
              have hjn : jn < dN := by omega
              clear hRL eD eH eU hbb hbv hgd hbl
              go_wp2_with fail
              refine (rob_holdsP (jn : Int) bv wr2 HK2.out Hgd.out).mono ?_
              rintro e w2 ⟨rfl, rfl⟩
              clear q3 qH
              go_wp2_with fail
              go_roundw
              case rel => exact ⟨(jn : Int) + 1, _, rfl, rfl, by omega, by omega, by simp [ew]⟩
              case measure => simp [intOf]; omega
            have el : decide (j < (dN : Int)) = false := by simpa using h1
            go_wp2_with fail
            refine (rob_holdsP j (-1) wr2 HK2.out (by rw [if_neg (by omega)])).mono ?_
            rintro e w2 ⟨rfl, rfl⟩
            go_wp2_with fail
            go_roundw
            case rel => exact ⟨j + 1, _, rfl, rfl, by omega, by omega, by simp [ew]⟩
            case measure => simp [intOf]; omega
          have ed : decide (j ≤ (dN : Int)) = false := by simpa using hjd
          go_wp2_with fail
          clear ed hjd hj0 hj1 HK2 hbl
          go_loopw [31] (fun i wx => ∃ (j : Int) (wr3 : World), wr3 = wx ∧ -1 ≤ j ∧ j ≤ vN + 1 ∧ i = .int .i64 j ∧ Hid (TwoR w3.heap.size 0 0 wr3 r g rr q S D s S E s) ∧ Hid (Below w3.heap.size w3 wr3)) (fun i _ => ((vN : Int) + 1 - intOf i).toNat)
          case atStart => exact ⟨-1, _, rfl, by omega, by omega, rfl, HD, HBr⟩
          case round =>
            obtain ⟨j, wr3, hwr3, hj0, hj1, rfl, HDx, HBx⟩ := hrel
            subst hwr3
            clear HD HBr
            by_cases hjd : j ≤ vN
            · have ed : decide (j ≤ (vN : Int)) = true := by simpa using hjd
              have ew : IntKind.i64.wrap (j + 1) = j + 1 := by have := Hv.out; rw [IntKind.wrap_i64]; omega
              obtain ⟨M, Er, hME⟩ : ∃ M Er, S.medE j = (M, Er) := ⟨_, _, rfl⟩
              have HME := Lib.hid hME
              have HMS := Lib.hid (RS.medE_short HDx.out.good.1 hME)
              clear hME
              go_wp2_with fail
              obtain ⟨K2, hK2⟩ := HDx.out.realP
              refine (rob_medE HME.out wr3 hK2).mono ?_
              rintro e wa ⟨a1, k1, c1, cs1, rfl, hM1, hk1, hb1⟩
              have hza := heap_alloc_new wa (.cells #[.int .i64 0, .slice none 0 0] 45)
              obtain ⟨hT1, hS1⟩ := TapeO.new M.cap rfl hM1 hk1
              clear hK2
              go_wp2_with (refine wpList_store_row rfl rfl 45 (.tmp 32) (.tmp 329) rfl wa.heap.size rfl 45 #[.int .i64 0, .slice none 0 0] #[.int .i64 M.cap, .slice a1 k1 c1] rfl hza rfl (by kernel_rfl) (by simp [Value.oneCell']) ?_)
              generalize hWb : (wa.alloc (.cells #[.int .i64 0, .slice none 0 0] 45)).setRow wa.heap.size #[.int .i64 M.cap, .slice a1 k1 c1] = wb at *
              have hb1b := bthen hb1 hS1 (Nat.le_refl _)
              have hGb := heap_lt hT1.box
              obtain ⟨GA, hGA⟩ : ∃ G, G = wa.heap.size := ⟨_, rfl⟩
              rw [← hGA] at hT1 hGb ⊢
              have HGA : Hid (wr3.heap.size ≤ GA ∧ GA < wb.heap.size) := Lib.hid ⟨by rw [hGA]; exact hb1.size, hGb⟩
              have HT1 := Lib.hid hT1
              have HBN := Lib.hid (hT1.r.own.bnd hT1.r.len)
              have HD1 := Lib.hid ((HDx.out.hole wb.heap.size (Nat.le_refl _)).ext hb1b)
              have HB1 := Lib.hid (bthen HBx.out hb1b (Nat.le_refl _))
              clear hM1 hk1 hb1 hza hT1 hS1 hWb hb1b hGb hGA
              obtain ⟨Z2, hZ2⟩ := HD1.out.refP
              refine (rrob_medE HME.out wb hZ2).mono ?_
              rintro e wc ⟨a2, k2, c2, cs2, rfl, hM2, hk2, hb2⟩
              have hzc := heap_alloc_new wc (.cells #[.int .i64 0, .slice none 0 0] 45)
              obtain ⟨hT2, hS2⟩ := TapeO.new M.cap rfl hM2 hk2
              have hbbd := bthen hb2 hS2 (Nat.le_refl _)
              have hT1d := HT1.out.ext hbbd
              obtain ⟨x0, x1⟩ := hT1d.box.cells
              obtain ⟨y0, y1⟩ := hT2.box.cells
              try dsimp only at x0 x1 y0 y1
              clear hZ2
              go_wp2_with (refine wpList_store_row rfl rfl 45 (.tmp 34) (.tmp 335) rfl wc.heap.size rfl 45 #[.int .i64 0, .slice none 0 0] #[.int .i64 M.cap, .slice a2 k2 c2] rfl hzc rfl (by kernel_rfl) (by simp [Value.oneCell']) ?_)
              generalize hWd : (wc.alloc (.cells #[.int .i64 0, .slice none 0 0] 45)).setRow wc.heap.size #[.int .i64 M.cap, .slice a2 k2 c2] = wd at *
              obtain ⟨GC, hGC⟩ : ∃ G, G = wc.heap.size := ⟨_, rfl⟩
              rw [← hGC] at hT2 y0 y1 ⊢
              have HGC : Hid (wb.heap.size ≤ GC) := Lib.hid (by rw [hGC]; exact hb2.size)
              have HT1 := Lib.hid hT1d
              have HT2 := Lib.hid hT2
              have HD2 := Lib.hid (HD1.out.ext hbbd)
              have HB2 := Lib.hid (bthen HB1.out hbbd (Nat.le_refl _))
              have Hbb := Lib.hid hbbd.size
              clear hM2 hk2 hb2 hzc hT2 hS2 hWd hbbd hT1d hGC HD1 HB1 x0 x1 y0 y1
              refine (keepmed_any M.cap M.cap a1 a2 c1 k1 c2 k2 cs1 cs2 true wd HT1.out.r.mat HT2.out.r.mat HT1.out.r.len.symm HT2.out.r.len.symm HT1.out.r.len63 HT2.out.r.len63 (by rw [HT1.out.r.pls, HT2.out.r.pls]; simp)).mono ?_
              rintro e we ⟨rfl, hbe⟩
              have HT1 := Lib.hid (HT1.out.ext hbe)
              have HT2 := Lib.hid (HT2.out.ext hbe)
              have HD3 := Lib.hid (HD2.out.ext hbe)
              have HB3 := Lib.hid (bthen HB2.out hbe (Nat.le_refl _))
              have Hbb := Lib.hid (Nat.le_trans Hbb.out hbe.size)
              clear hbe HD2 HB2
              obtain ⟨x0, x1⟩ := HT1.out.box.cells
              try dsimp only at x0 x1
              go_wp2_with fail
              clear x0 x1
              refine (spoilmed_ty wr3.heap.size wb.heap.size M.cap a1 c1 k1 cs1 we HT1.out.r.own HT1.out.r.len.symm (by have h1 := HT1.out.r.size; have h2 := HMS.out.1; omega) (HT1.out.r.short HMS.out.2) (by have := Hbb.out; have := HGA.out; omega) HBN.out.1 HBN.out.2).mono ?_
              rintro e wf ⟨rfl, hbf, hmf⟩
              have hx1 := hmf.keep HT1.out.box (fun hf => by have := hf.2.2; revert this; decide)
              have HX1 := Lib.hid hx1
              have HT2 : Hid (TapeO wf wb.heap.size GC M a2 k2 c2 cs2) := Lib.hid ⟨hmf.keep HT2.out.box (fun hf => by have := hf.2.2; revert this; decide), ⟨HT2.out.r.own.modB hmf fun g T hg hf => by have := hf.2.1; omega, HT2.out.r.len, HT2.out.r.pls⟩, HT2.out.cap⟩
              have HD4 := Lib.hid (HD3.out.spoil hmf fun b T hf => ⟨⟨hf.1, hf.2.1⟩, hf.2.2.elim .inl fun h => .inr (.inl h)⟩)
              have HB4 := Lib.hid (HB3.out.trans (hbf.mono HBx.out.size))
              have Hbb := Lib.hid (Nat.le_trans Hbb.out hmf.size)
              clear hbf hmf hx1 HT1 HD3 HB3
              go_wp2_with fail
              obtain ⟨K3, hK3⟩ := HD4.out.realP
              refine (rob_medE HME.out wf hK3).mono ?_
              rintro e wg ⟨a3, k3, c3, cs3, rfl, hM3, hk3, hb3⟩
              have hxg := (hb3.block _ (heap_lt HX1.out)).trans HX1.out
              have hT3 := TapeO.put M.cap rfl hM3 hk3 hxg
              have hT2g := (HT2.out.ext hb3).other (new := #[.int .i64 M.cap, .slice a3 k3 c3]) hxg (show GC ≠ GA by have := HGC.out; have := HGA.out; omega)
              obtain ⟨x0, x1⟩ := hT3.box.cells
              obtain ⟨y0, y1⟩ := hT2g.box.cells
              try dsimp only at x0 x1 y0 y1
              clear hK3
              go_wp2_with (refine wpList_store_row rfl rfl 45 (.tmp 32) (.tmp 352) rfl GA rfl 45 #[.int .i64 M.cap, .slice a1 k1 c1] #[.int .i64 M.cap, .slice a3 k3 c3] rfl hxg rfl (by kernel_rfl) (by simp [Value.oneCell']) ?_)
              have hmS : Mod (fun b T => b = GA ∧ T = 45) wg (wg.setRow GA #[.int .i64 M.cap, .slice a3 k3 c3]) := Mod.one (bsetRow (Below.refl GA wg) (Nat.le_refl _) _) (fun b hb => setRow_other wg _ b _ hb) hxg (setRow_heap wg _ _ _ _ _ hxg) ⟨rfl, rfl⟩
              have HD5 := Lib.hid ((HD4.out.ext hb3).spoil hmS fun b T hf => ⟨by rw [hf.1]; exact HGA.out, .inr (.inr hf.2)⟩)
              have HB5 := Lib.hid ((bthen HB4.out hb3 (Nat.le_refl _)).trans (hmS.below (fun b T hf => by rw [hf.1]; have := HGA.out; have := HBx.out.size; omega) (bthen HB4.out hb3 (Nat.le_refl _)).size))
              have HT3 := Lib.hid hT3
              have HT2 := Lib.hid hT2g
              clear hM3 hk3 hb3 hxg hT3 hT2g hmS HD4 HB4 x0 x1 y0 y1
              generalize wg.setRow GA #[.int .i64 M.cap, .slice a3 k3 c3] = wh at *
              refine (keepmed_any M.cap M.cap a3 a2 c3 k3 c2 k2 cs3 cs2 true wh HT3.out.r.mat HT2.out.r.mat HT3.out.r.len.symm HT2.out.r.len.symm HT3.out.r.len63 HT2.out.r.len63 (by rw [HT3.out.r.pls, HT2.out.r.pls]; simp)).mono ?_
              rintro e wi ⟨rfl, hbi⟩
              have HD6 := Lib.hid ((HD5.out.ext hbi).whole)
              have HB6 := Lib.hid (bthen HB5.out hbi (Nat.le_refl _))
              clear hbi HD5 HB5
              go_wp2_with fail
              go_roundw
              case rel => exact ⟨j + 1, _, rfl, by omega, by omega, by simp [ew], HD6, HB6⟩
              case measure => simp [intOf]; omega
            have ed : decide (j ≤ (vN : Int)) = false := by simpa using hjd
            go_wp2_with fail
            refine (wakes13_any wr3).mono ?_
            rintro e wy ⟨rfl, hby⟩
            have HBY := Lib.hid (bthen (bthen HB.out HBx.out (Nat.le_refl _)) hby (Nat.le_refl _))
            clear hby
            go_wp2
            go_ret
            exact ⟨rfl, HBY.out⟩
end Go.Proofs.Ytmaagkdehdmhlaa
