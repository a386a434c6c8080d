/- The walk of DiskErases. -/
import Derived.Test.YtfbbejdbofkpaaaDiskWakes
namespace Go.Proofs.Ytfbbejdbofkpaaa
open Go.RowKit

/-- A disk of noughts. -/
structure Blank (d : DS) (n : Nat) : Prop where
  safe : d.safe = List.replicate n Sec.nought
  now : d.now = List.replicate n Sec.nought
  pend : d.pend = []
theorem Blank.wake {d : DS} {n : Nat} (h : Blank d n) (p : PS) : Blank (d.wake p) n := by
  unfold DS.wake
  split
  · exact h
  · rw [h.pend]; exact ⟨h.safe, h.safe, rfl⟩
theorem Blank.read {d : DS} {n : Nat} (h : Blank d n) {p : PS} (hp : p.off = false) {j : Nat} (hj : j < n) : d.read p j = (zb 256, 0) := by
  unfold DS.read
  rw [hp]
  have hw := h.wake p
  unfold DS.get DS.inB
  rw [hw.now]
  simp only [List.length_replicate, Bool.false_eq_true, if_false]
  rw [if_pos (by simp; omega)]
  have hg : (List.replicate n Sec.nought).getD ((j : Int)).toNat Sec.nought = Sec.nought := by simp [List.getD_eq_getElem?_getD, List.getElem?_replicate, hj]
  rw [hg]
  rfl
theorem erase_blank {d : DS} {n : Nat} {p : PS} (hok : d.ok n) (hp : p.off = false) : ∃ d', d.erase p = (0, d') ∧ Blank d' n := by
  refine ⟨_, by unfold DS.erase; rw [hp]; rfl, ?_⟩
  rw [hok.safe]
  exact ⟨rfl, rfl, rfl⟩

set_option maxRecDepth 100000 in
set_option maxHeartbeats 4000000 in
theorem diskErases_walk (w : World) (a : Option Addr) (c : Nat) (ps : List Bsl) (hm : Mat w a ps) (hn : ps.length ≤ 9223372036854775807) (sy : Bool) (ak : Option Addr) (ck : Nat) (ks : List Bool) (hk : Src w ak (bovs ks)) (hkl : ks.length ≤ 9223372036854775807) (t : Int) (wt : (Lit.int .i64 t).wf = true) :
    Calls Try.prog 5 #[.slice a ps.length c, .bool sy, .slice ak ks.length ck, .int .i64 t] w fun e w' => e = .returned (.bool true) ∧ Below w.heap.size w w' := by
  clear wt
  by_cases h10 : ps.length ≤ 10 ∧ ks.length ≤ 100
  · obtain ⟨p10, k100⟩ := h10
    have Hk := Lib.hid hk
    obtain ⟨L, hL⟩ : ∃ L, L = ps.length := ⟨_, rfl⟩
    obtain ⟨M, hM⟩ : ∃ M, M = ks.length := ⟨_, rfl⟩
    rw [← hL, ← hM]
    have HL := Lib.hid hL
    have HM := Lib.hid hM
    have hL10 : L ≤ 10 := by omega
    have hM100 : M ≤ 100 := by omega
    have Hm := Lib.hid hm
    clear hk hL hM p10 k100 hn hkl hm
    go_enter Try.func5, Try.ntmps5
    go_wp2_with fail
    refine (power_new w).mono ?_
    rintro e w1 ⟨pg, rfl, hp, hb1⟩
    go_wp2_with fail
    refine (disk_new pg PS.new 10 w.heap.size w1 hp (by decide) (by decide)).mono ?_
    rintro e w2 ⟨g, rfl, hd, hb2⟩
    have HD2 := Lib.hid (new_dw hp hb1 hd hb2)
    have hb02 := bthen hb1 hb2 (Nat.le_refl _)
    clear hp hb1 hd hb2
    go_wp2_with fail
    go_loopw [12] (fun i wr => ∃ (k : Nat) (d : DS), k ≤ L ∧ i = .int .i64 (k : Int) ∧ DW (fun _ => True) w.heap.size wr g pg 10 d PS.new k ∧ d.life = 0 ∧ Below w.heap.size w wr) (fun i _ => L - (intOf i).toNat)
    case atStart => exact ⟨0, DS.new 0 10, by omega, rfl, HD2.out.mono (fun _ _ _ => trivial) (Nat.le_refl _), rfl, hb02⟩
    case round =>
      rename_i wr
      obtain ⟨k, d, hk, rfl, hD, hlife, hbr⟩ := hrel
      have HD := Lib.hid hD
      have Hlife := Lib.hid hlife
      clear hD hlife hb02
      by_cases hlt : k < L
      · have hkp : k < ps.length := by have := HL.out; omega
        obtain ⟨b, o, rfl, hlb, hat⟩ := Hm.out.at hkp
        have hc0 := hat k hkp
        have hrow := Hm.out.row _ (List.getElem_mem hkp)
        generalize ps[k] = q at *
        have hcell := (World.cell?_of_block (w := w) (a := ⟨b, o + k, none⟩) (hbr.block b hlb)).trans hc0
        have hs := Lib.hid (hrow.1.ext hbr)
        clear hat hc0 hrow
        by_cases h300 : q.l.length ≤ 300
        · go_wp2_with fail
          refine (sector_any (.slice none 0 0) (.int .i64 0) (.int .i64 0) (.int .i64 0) (.int .i64 0) false q.a q.c q.l.length q.l wr hs.out rfl (by omega) rfl).mono ?_
          rintro e w3 ⟨a3, c3, rfl, ho3, hb3⟩
          have HD3 := Lib.hid (HD.out.ext hb3)
          have Ho3 := Lib.hid ho3
          have hb03 := bthen hbr hb3 (Nat.le_refl _)
          clear hb3 ho3 hcell
          go_wp2_with fail
          refine (HD3.out.write (by decide) (by decide) (by omega) k a3 c3 256 (pad q.l) (fun w' hm => (Ho3.out.mod hm fun b _ _ => DF_no_u8 b).src) (pad_length q.l).symm (by decide)
            (write_on (n := 10) (i := k) HD3.out.ok rfl rfl (by rw [Hlife.out]; rfl) (by omega) (pad_length q.l))).mono ?_
          rintro e w4 ⟨rfl, hd4, hm4⟩
          have HD4 := Lib.hid hd4
          have hb04 := hb03.trans (hm4.below (fun b T h => h.1) hb03.size)
          clear hd4 hm4 hb03
          go_wp2_with fail
          go_roundw
          case rel => exact ⟨k + 1, _, by omega, by go_num, HD4.out.mono (fun _ _ _ => trivial) (Nat.le_refl _), Hlife.out, hb04⟩
          case measure => simp [intOf]; omega
        · go_wp2
          go_ret
          exact ⟨rfl, hbr⟩
      · cases sy with
        | true =>
          go_wp2_with fail
          refine (HD.out.sync (by decide) (by decide) (by omega) (sync_on rfl rfl (by rw [Hlife.out]; rfl))).mono ?_
          rintro e wS ⟨rfl, hdS, hmS⟩
          have HDS := Lib.hid hdS
          have hbS := hbr.trans (hmS.below (fun b T h => h.1) hbr.size)
          clear hdS hmS hbr
          go_wp2_with fail
          obtain ⟨d', he, hbl⟩ := erase_blank (p := PS.new) HDS.out.ok rfl
          refine (HDS.out.erase (by decide) (by decide) (by omega) he).mono ?_
          rintro e wE ⟨rfl, hdE, hmE⟩
          have HDE := Lib.hid (hdE.mono (K' := fun _ => True) (m' := 20) (fun _ _ _ => trivial) (by omega))
          have HBE := Lib.hid hbl
          have hbE := hbS.trans (hmE.below (fun b T h => h.1) hbS.size)
          clear hdE hmE hbl he hbS
          go_wp2_with fail
          go_loopw [13] (fun i wr => ∃ (k : Nat) (d : DS) (p : PS), k ≤ 2 ∧ i = .int .i64 (k : Int) ∧ DW (fun _ => True) w.heap.size wr g pg 10 d p 20 ∧ Blank d 10 ∧ p.off = false ∧ p.life = (k : Int) ∧ Below w.heap.size w wr) (fun i _ => 2 - (intOf i).toNat)
          case atStart => exact ⟨0, _, PS.new, by omega, rfl, HDE.out, HBE.out, rfl, rfl, hbE⟩
          case round =>
            rename_i wr
            obtain ⟨k, d, p, hk, rfl, hD, hbl, hoff, hlife, hbr⟩ := hrel
            have HD := Lib.hid hD
            have Hbl := Lib.hid hbl
            have Hoff := Lib.hid hoff
            have Hlife := Lib.hid hlife
            clear hD hbl hoff hlife hbE
            by_cases hlt : k < 2
            · have htt : decide ((k : Int) < 2) = true := by simp; omega
              go_wp2_with fail
              go_loopw [14] (fun i wy => ∃ (j : Nat) (d : DS) (wz : World), wz = wy ∧ j ≤ 10 ∧ i = .int .i64 (j : Int) ∧ DW (fun _ => True) w.heap.size wz g pg 10 d p 20 ∧ Blank d 10 ∧ Below w.heap.size w wz) (fun i _ => 10 - (intOf i).toNat)
              case atStart => exact ⟨0, d, _, rfl, by omega, rfl, HD.out, Hbl.out, hbr⟩
              case round =>
                rename_i wz
                obtain ⟨j, d, wq, hwq, hj, rfl, hD, hbl, hbz⟩ := hrel
                subst hwq
                have HD := Lib.hid hD
                have Hbl := Lib.hid hbl
                clear hD hbl hbr
                by_cases hlt2 : j < 10
                · go_wp2_with fail
                  refine (HD.out.read (by decide) (by decide) (by decide) j (Hbl.out.read Hoff.out hlt2)).mono ?_
                  rintro e w3 ⟨a3, c3, k3, rfl, hk3, ho3, hd3, hm3⟩
                  have HD3 := Lib.hid hd3
                  have Ho3 := Lib.hid ho3
                  have Hz3 := Lib.hid hk3
                  have hb03 := hbz.trans (hm3.below (fun b T h => h.1) hbz.size)
                  have Hbl3 := Lib.hid (Hbl.out.wake p)
                  clear hd3 ho3 hm3 hk3
                  go_wp2_with fail
                  have hF := fill_any 0#8 w3
                  rw [show ((0#8 : Byte).toNat : Int) = 0 from rfl] at hF
                  refine hF.mono ?_
                  rintro e w4 ⟨a4, c4, rfl, ho4, hb4⟩
                  clear hF
                  have HD4 := Lib.hid (HD3.out.ext hb4)
                  have Ho4 := Lib.hid ho4
                  have Ho3' := Lib.hid (Ho3.out.ext hb4)
                  have hb04 := bthen hb03 hb4 (Nat.le_refl _)
                  clear ho4 hb4 hb03
                  go_wp2_with fail
                  refine (bytes_at a3 c3 (zb 256) a4 c4 (fb 0#8 256) w4 k3 256 true Ho3'.out.src Ho4.out.src Hz3.out (fb_length _ _).symm (by rw [Hz3.out, zb_length]; decide) (by decide) (by rw [fb_zero]; exact decide_eq_true rfl)).mono ?_
                  rintro e w5 ⟨rfl, nq, rfl⟩
                  have hb5 := ext_drewN w4 nq w4.heap.size
                  have HD5 := Lib.hid (HD4.out.ext hb5)
                  have hb05 := bthen hb04 hb5 (Nat.le_refl _)
                  clear hb5 hb04
                  go_wp2_with fail
                  go_roundw
                  case rel => exact ⟨j + 1, _, _, rfl, by omega, by go_num, HD5.out, Hbl3.out, hb05⟩
                  case measure => simp [intOf]; omega
                · go_wp2_with fail
                  refine (HD.out.cut ak ck M ks t (Hk.out.ext hbz) HM.out (by omega) rfl).mono ?_
                  rintro e w3 ⟨rfl, hd3, hm3⟩
                  have HD3 := Lib.hid hd3
                  have hb03 := hbz.trans (hm3.below (fun b T h => h.1) hbz.size)
                  have hcut : p.cut ks t = ⟨true, p.life, ks, t, none⟩ := by unfold PS.cut; rw [Hoff.out]; rfl
                  rw [hcut] at HD3
                  clear hd3 hm3 hcut
                  go_wp2_with fail
                  refine (HD3.out.erase (by decide) (by decide) (by decide) (E := 5) (d' := d) (by unfold DS.erase; rfl)).mono ?_
                  rintro e w4 ⟨rfl, hd4, hm4⟩
                  have HD4 := Lib.hid hd4
                  have hb04 := hb03.trans (hm4.below (fun b T h => h.1) hb03.size)
                  clear hd4 hm4 hb03
                  go_wp2_with fail
                  refine (HD4.out.start (by show 0 ≤ p.life; rw [Hlife.out]; omega) (by show p.life ≤ _; rw [Hlife.out]; omega) rfl).mono ?_
                  rintro e w5 ⟨rfl, hd5, hm5⟩
                  have HD5 := Lib.hid hd5
                  have hb05 := hb04.trans (hm5.below (fun b T h => h.1) hb04.size)
                  clear hd5 hm5 hb04
                  go_wp2_with fail
                  go_roundw
                  case rel => exact ⟨k + 1, d, _, by omega, by go_num, HD5.out, Hbl.out, rfl, by show p.life + 1 = _; rw [Hlife.out]; omega, hb05⟩
                  case measure => simp [intOf]; omega
            · go_wp2_with fail
              refine (wakes09_any wr).mono ?_
              rintro e w3 ⟨rfl, hb3⟩
              go_wp2
              go_ret
              exact ⟨rfl, bthen hbr hb3 (Nat.le_refl _)⟩
        | false =>
          have HDS := HD
          have hbS := hbr
          clear hbr
          go_wp2_with fail
          obtain ⟨d', he, hbl⟩ := erase_blank (p := PS.new) HDS.out.ok rfl
          refine (HDS.out.erase (by decide) (by decide) (by omega) he).mono ?_
          rintro e wE ⟨rfl, hdE, hmE⟩
          have HDE := Lib.hid (hdE.mono (K' := fun _ => True) (m' := 20) (fun _ _ _ => trivial) (by omega))
          have HBE := Lib.hid hbl
          have hbE := hbS.trans (hmE.below (fun b T h => h.1) hbS.size)
          clear hdE hmE hbl he hbS
          go_wp2_with fail
          go_loopw [13] (fun i wr => ∃ (k : Nat) (d : DS) (p : PS), k ≤ 2 ∧ i = .int .i64 (k : Int) ∧ DW (fun _ => True) w.heap.size wr g pg 10 d p 20 ∧ Blank d 10 ∧ p.off = false ∧ p.life = (k : Int) ∧ Below w.heap.size w wr) (fun i _ => 2 - (intOf i).toNat)
          case atStart => exact ⟨0, _, PS.new, by omega, rfl, HDE.out, HBE.out, rfl, rfl, hbE⟩
          case round =>
            rename_i wr
            obtain ⟨k, d, p, hk, rfl, hD, hbl, hoff, hlife, hbr⟩ := hrel
            have HD := Lib.hid hD
            have Hbl := Lib.hid hbl
            have Hoff := Lib.hid hoff
            have Hlife := Lib.hid hlife
            clear hD hbl hoff hlife hbE
            by_cases hlt : k < 2
            · have htt : decide ((k : Int) < 2) = true := by simp; omega
              go_wp2_with fail
              go_loopw [14] (fun i wy => ∃ (j : Nat) (d : DS) (wz : World), wz = wy ∧ j ≤ 10 ∧ i = .int .i64 (j : Int) ∧ DW (fun _ => True) w.heap.size wz g pg 10 d p 20 ∧ Blank d 10 ∧ Below w.heap.size w wz) (fun i _ => 10 - (intOf i).toNat)
              case atStart => exact ⟨0, d, _, rfl, by omega, rfl, HD.out, Hbl.out, hbr⟩
              case round =>
                rename_i wz
                obtain ⟨j, d, wq, hwq, hj, rfl, hD, hbl, hbz⟩ := hrel
                subst hwq
                have HD := Lib.hid hD
                have Hbl := Lib.hid hbl
                clear hD hbl hbr
                by_cases hlt2 : j < 10
                · go_wp2_with fail
                  refine (HD.out.read (by decide) (by decide) (by decide) j (Hbl.out.read Hoff.out hlt2)).mono ?_
                  rintro e w3 ⟨a3, c3, k3, rfl, hk3, ho3, hd3, hm3⟩
                  have HD3 := Lib.hid hd3
                  have Ho3 := Lib.hid ho3
                  have Hz3 := Lib.hid hk3
                  have hb03 := hbz.trans (hm3.below (fun b T h => h.1) hbz.size)
                  have Hbl3 := Lib.hid (Hbl.out.wake p)
                  clear hd3 ho3 hm3 hk3
                  go_wp2_with fail
                  have hF := fill_any 0#8 w3
                  rw [show ((0#8 : Byte).toNat : Int) = 0 from rfl] at hF
                  refine hF.mono ?_
                  rintro e w4 ⟨a4, c4, rfl, ho4, hb4⟩
                  clear hF
                  have HD4 := Lib.hid (HD3.out.ext hb4)
                  have Ho4 := Lib.hid ho4
                  have Ho3' := Lib.hid (Ho3.out.ext hb4)
                  have hb04 := bthen hb03 hb4 (Nat.le_refl _)
                  clear ho4 hb4 hb03
                  go_wp2_with fail
                  refine (bytes_at a3 c3 (zb 256) a4 c4 (fb 0#8 256) w4 k3 256 true Ho3'.out.src Ho4.out.src Hz3.out (fb_length _ _).symm (by rw [Hz3.out, zb_length]; decide) (by decide) (by rw [fb_zero]; exact decide_eq_true rfl)).mono ?_
                  rintro e w5 ⟨rfl, nq, rfl⟩
                  have hb5 := ext_drewN w4 nq w4.heap.size
                  have HD5 := Lib.hid (HD4.out.ext hb5)
                  have hb05 := bthen hb04 hb5 (Nat.le_refl _)
                  clear hb5 hb04
                  go_wp2_with fail
                  go_roundw
                  case rel => exact ⟨j + 1, _, _, rfl, by omega, by go_num, HD5.out, Hbl3.out, hb05⟩
                  case measure => simp [intOf]; omega
                · go_wp2_with fail
                  refine (HD.out.cut ak ck M ks t (Hk.out.ext hbz) HM.out (by omega) rfl).mono ?_
                  rintro e w3 ⟨rfl, hd3, hm3⟩
                  have HD3 := Lib.hid hd3
                  have hb03 := hbz.trans (hm3.below (fun b T h => h.1) hbz.size)
                  have hcut : p.cut ks t = ⟨true, p.life, ks, t, none⟩ := by unfold PS.cut; rw [Hoff.out]; rfl
                  rw [hcut] at HD3
                  clear hd3 hm3 hcut
                  go_wp2_with fail
                  refine (HD3.out.erase (by decide) (by decide) (by decide) (E := 5) (d' := d) (by unfold DS.erase; rfl)).mono ?_
                  rintro e w4 ⟨rfl, hd4, hm4⟩
                  have HD4 := Lib.hid hd4
                  have hb04 := hb03.trans (hm4.below (fun b T h => h.1) hb03.size)
                  clear hd4 hm4 hb03
                  go_wp2_with fail
                  refine (HD4.out.start (by show 0 ≤ p.life; rw [Hlife.out]; omega) (by show p.life ≤ _; rw [Hlife.out]; omega) rfl).mono ?_
                  rintro e w5 ⟨rfl, hd5, hm5⟩
                  have HD5 := Lib.hid hd5
                  have hb05 := hb04.trans (hm5.below (fun b T h => h.1) hb04.size)
                  clear hd5 hm5 hb04
                  go_wp2_with fail
                  go_roundw
                  case rel => exact ⟨k + 1, d, _, by omega, by go_num, HD5.out, Hbl.out, rfl, by show p.life + 1 = _; rw [Hlife.out]; omega, hb05⟩
                  case measure => simp [intOf]; omega
            · go_wp2_with fail
              refine (wakes09_any wr).mono ?_
              rintro e w3 ⟨rfl, hb3⟩
              go_wp2
              go_ret
              exact ⟨rfl, bthen hbr hb3 (Nat.le_refl _)⟩
  · by_cases h10' : ps.length ≤ 10
    · have hk100 : 100 < ks.length := by omega
      clear h10
      go_enter Try.func5, Try.ntmps5
      go_wp2
      go_ret
      exact ⟨rfl, Below.refl _ _⟩
    · have hp10 : 10 < ps.length := by omega
      clear h10 h10'
      go_enter Try.func5, Try.ntmps5
      go_wp2
      go_ret
      exact ⟨rfl, Below.refl _ _⟩
end Go.Proofs.Ytfbbejdbofkpaaa
