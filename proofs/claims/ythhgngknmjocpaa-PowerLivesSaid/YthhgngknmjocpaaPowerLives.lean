/- The law PowerLives, walked. -/
import Derived.Test.YthhgngknmjocpaaPowerWakes
import Derived.Test.YthhgngknmjocpaaBoolRows
namespace Go.Proofs.Ythhgngknmjocpaa
open Go.RowKit

/-- In the k-th of a cut's two rounds: off, then on again. -/
def liveS (i : Int) (K : List Bool) (t : Int) (k : Nat) : PS := if k = 0 then ⟨true, i, K, t, none⟩ else ⟨false, i + 1, K, t, none⟩
theorem liveS_kept (i : Int) (K : List Bool) (t : Int) (k : Nat) (z : Int) : (liveS i K t k).kept z = (decide (0 ≤ z) && K.getD z.toNat false) := by unfold liveS; split <;> rfl
theorem liveS_torn (i : Int) (K : List Bool) (t : Int) (k : Nat) : (liveS i K t k).torn = t := by unfold liveS; split <;> rfl
theorem liveS_start (i : Int) (K : List Bool) (t : Int) (k : Nat) : (liveS i K t k).start = liveS i K t (k + 1) := by unfold liveS; split <;> rfl

set_option maxRecDepth 100000 in
set_option maxHeartbeats 8000000 in
theorem powerLives_walk (w : World) (a : Option Addr) (c : Nat) (ps : List Bbl) (hm : BMat w a ps) (hn : ps.length ≤ 9223372036854775807) (az : Option Addr) (cz : Nat) (zs : List Int) (hz : Src w az (ivs zs)) (hzl : zs.length ≤ 9223372036854775807) (tw : Bool) :
    Calls Try.prog 4 #[.slice a ps.length c, .slice az zs.length cz, .bool tw] w fun e w' => e = .returned (.bool true) ∧ Below w.heap.size w w' := by
  by_cases h50 : ps.length ≤ 20 ∧ zs.length ≤ 100
  · obtain ⟨p20, z100⟩ := h50
    go_enter Try.func4, Try.ntmps4
    go_wp2_with fail
    refine (power_new w).mono ?_
    rintro e w1 ⟨g, rfl, hp, hb1⟩
    go_wp2_with fail
    refine (off_at hp rfl).mono ?_
    rintro e w2 ⟨rfl, rfl⟩
    go_wp2_with fail
    refine (life_at hp rfl).mono ?_
    rintro e w2 ⟨rfl, rfl⟩
    go_wp2_with fail
    refine (kept_at (r := false) hp rfl).mono ?_
    rintro e w2 ⟨rfl, rfl⟩
    go_wp2_with fail
    refine (torn_at (r := -1) hp rfl).mono ?_
    rintro e w2 ⟨rfl, rfl⟩
    go_wp2_with fail
    go_loopw [8, 9, 10, 11] (fun i _ _ _ wr => ∃ (k : Nat) (K : List Bool) (t : Int) (wz : World), wz = wr ∧ k ≤ ps.length ∧ i = .int .i64 (k : Int) ∧ Pow w.heap.size wz g ⟨false, k, K, t, none⟩ ∧ Below w.heap.size w wz) (fun i _ _ _ _ => ps.length - (intOf i).toNat)
    case atStart => exact ⟨0, [], -1, _, rfl, by omega, rfl, hp, hb1⟩
    case round =>
      obtain ⟨k, K0, t0, wr, rfl, hk, rfl, hp3, hb3⟩ := hrel
      have hz3 := hb3.size
      by_cases hlt : k < ps.length
      · have hrow := hm.row _ (List.getElem_mem hlt)
        obtain ⟨b, o, rfl, hlb, hat⟩ := hm.at hlt
        have hcl0 := hat k hlt
        clear hat
        generalize ps[k] = p at *
        obtain ⟨pa, pc, l⟩ := p
        obtain ⟨hsrc0, hll⟩ := hrow
        simp only at hcl0 hsrc0 hll
        have hc3 : wr.cell? ⟨b, o + k, none⟩ = some (.slice pa l.length pc) := (World.cell?_of_block (w := w) (a := ⟨b, o + k, none⟩) (hb3.block b hlb)).trans hcl0
        by_cases hl1 : l.length ≤ 100
        · by_cases hkz : k < zs.length
          · obtain ⟨b3, o3, rfl, hlb3, hat3⟩ := src_ints_at (hz.ext hb3) hkz
            have hcz := hat3 k hkz
            clear hat3
            generalize zs[k] = z at *
            cases tw
            · skip
              go_wp2_with fail
              refine (start_at hp3 (show (PS.mk false (k : Int) K0 t0 none).start = _ from rfl) (by show 0 ≤ (k : Int); omega) (by show (k : Int) ≤ _; omega)).mono ?_
              rintro e w4 ⟨rfl, hp4, hb4⟩
              have hb34 := hb3.trans hb4
              have hz4 := hb34.size
              have hc4 : w4.cell? ⟨b, o + k, none⟩ = some (.slice pa l.length pc) := (World.cell?_of_block (w := w) (a := ⟨b, o + k, none⟩) (hb34.block b hlb)).trans hcl0
              clear hc3 hp3 hb3 hb4
              go_wp2_with fail
              refine (life_at (r := (k : Int)) hp4 rfl).mono ?_
              rintro e w5 ⟨rfl, rfl⟩
              go_wp2_with fail
              refine (off_at (r := false) hp4 rfl).mono ?_
              rintro e w5 ⟨rfl, rfl⟩
              go_wp2_with fail
              refine (power_cut w.heap.size g (PS.mk false (k : Int) K0 t0 none) pa pc l.length l z w4 hz4 hp4 (hsrc0.ext hb34) rfl (by omega)).mono ?_
              rintro e w5 ⟨rfl, hp5, hb5⟩
              have hp5 : Pow w.heap.size w5 g (liveS (k : Int) l z 0) := hp5
              have hb5 := hb34.trans hb5
              have hz5 := hb5.size
              clear hp4 hb34 hz4 hc4
              go_wp2_with fail
              skip
              go_loopw [10, 11] (fun q _ wx => ∃ (m : Nat) (wz : World), wz = wx ∧ m ≤ 2 ∧ q = .int .i64 (m : Int) ∧ Pow w.heap.size wz g (liveS (k : Int) l z m) ∧ Below w.heap.size w wz) (fun q _ _ => 2 - (intOf q).toNat)
              case atStart => exact ⟨0, _, rfl, by omega, rfl, hp5, hb5⟩
              case round =>
                obtain ⟨m, wx, rfl, hm2, rfl, hp6, hb6⟩ := hrel
                by_cases hmm : m < 2
                · have hmd : decide ((m : Int) < 2) = true := by simp; omega
                  go_wp2_with fail
                  clear hmd
                  go_loopw [11] (fun q2 wy => ∃ (x : Int) (wu : World), wu = wy ∧ -1 ≤ x ∧ x ≤ (l.length : Int) + 1 ∧ q2 = .int .i64 x ∧ Pow w.heap.size wu g (liveS (k : Int) l z m) ∧ Below w.heap.size w wu) (fun q2 _ => ((l.length : Int) + 1 - intOf q2).toNat)
                  case atStart => exact ⟨-1, _, rfl, by omega, by omega, rfl, hp6, hb6⟩
                  case round =>
                    obtain ⟨x, wy, rfl, hx1, hx2, rfl, hp7, hb7⟩ := hrel
                    have hz7 := hb7.size
                    have hc7 : wy.cell? ⟨b, o + k, none⟩ = some (.slice pa l.length pc) := (World.cell?_of_block (w := w) (a := ⟨b, o + k, none⟩) (hb7.block b hlb)).trans hcl0
                    have hs7 := hsrc0.ext hb7
                    have Hmm := Lib.hid hmm
                    clear hmm
                    by_cases hx3 : x ≤ (l.length : Int)
                    · by_cases hx0 : 0 ≤ x
                      · obtain ⟨j, rfl⟩ := Int.eq_ofNat_of_zero_le hx0
                        by_cases hj : j < l.length
                        · obtain ⟨b2, o2, rfl, hlb2, hat2⟩ := src_bools_at hs7 hj
                          have hcb := hat2 j hj
                          have hkp : (liveS (k : Int) l z m).kept (j : Int) = l[j] := by rw [liveS_kept]; simp [hj]
                          clear hat2
                          generalize l[j] = bb at *
                          have Hkp := Lib.hid hkp
                          clear hkp
                          go_wp2_with fail
                          refine (kept_at hp7 Hkp.out).mono ?_
                          rintro e w8 ⟨rfl, rfl⟩
                          go_wp2_with fail
                          go_roundw
                          case rel => exact ⟨(j : Int) + 1, _, rfl, by omega, by omega, by go_num, hp7, hb7⟩
                          case measure => simp [intOf] <;> omega
                        · have hkp : (liveS (k : Int) l z m).kept (j : Int) = false := by rw [liveS_kept]; simp [Nat.not_lt.1 hj]
                          have Hkp := Lib.hid hkp
                          clear hkp
                          go_wp2_with fail
                          refine (kept_at hp7 Hkp.out).mono ?_
                          rintro e w8 ⟨rfl, rfl⟩
                          go_wp2_with fail
                          go_roundw
                          case rel => exact ⟨(j : Int) + 1, _, rfl, by omega, by omega, by go_num, hp7, hb7⟩
                          case measure => simp [intOf] <;> omega
                      · obtain rfl : x = -1 := by omega
                        have hkp : (liveS (k : Int) l z m).kept (-1) = false := by rw [liveS_kept]; simp
                        have Hkp := Lib.hid hkp
                        clear hkp
                        go_wp2_with fail
                        refine (kept_at hp7 Hkp.out).mono ?_
                        rintro e w8 ⟨rfl, rfl⟩
                        go_wp2_with fail
                        go_roundw
                        case rel => exact ⟨0, _, rfl, by omega, by omega, by go_num, hp7, hb7⟩
                        case measure => simp [intOf] <;> omega
                    · have Hst := Lib.hid (liveS_start (k : Int) l z m)
                      have Htn := Lib.hid (liveS_torn (k : Int) l z m)
                      go_wp2_with fail
                      refine (torn_at hp7 Htn.out).mono ?_
                      rintro e w8 ⟨rfl, rfl⟩
                      go_wp2_with fail
                      rcases (show m = 0 ∨ m = 1 by have := Hmm.out; omega) with rfl | rfl
                      · refine (off_at (r := true) hp7 rfl).mono ?_
                        rintro e w8 ⟨rfl, rfl⟩
                        go_wp2_with fail
                        refine (spend_at (r := false) (s' := liveS (k : Int) l z 0) hz7 hp7 rfl).mono ?_
                        rintro e w8 ⟨rfl, hp8, hb8⟩
                        go_wp2_with fail
                        refine (start_at hp8 Hst.out (by show 0 ≤ (k : Int); omega) (by show (k : Int) ≤ _; omega)).mono ?_
                        rintro e w9 ⟨rfl, hp9, hb9⟩
                        go_wp2_with fail
                        go_roundw
                        case rel => exact ⟨1, _, rfl, by omega, rfl, hp9, (hb7.trans hb8).trans hb9⟩
                        case measure => simp [intOf] <;> omega
                      · refine (off_at (r := false) hp7 rfl).mono ?_
                        rintro e w8 ⟨rfl, rfl⟩
                        go_wp2_with fail
                        refine (spend_at (r := true) (s' := liveS (k : Int) l z 1) hz7 hp7 rfl).mono ?_
                        rintro e w8 ⟨rfl, hp8, hb8⟩
                        go_wp2_with fail
                        refine (start_at hp8 Hst.out (by show 0 ≤ (k : Int) + 1; omega) (by show (k : Int) + 1 ≤ _; omega)).mono ?_
                        rintro e w9 ⟨rfl, hp9, hb9⟩
                        go_wp2_with fail
                        go_roundw
                        case rel => exact ⟨2, _, rfl, by omega, rfl, hp9, (hb7.trans hb8).trans hb9⟩
                        case measure => simp [intOf] <;> omega
                · obtain rfl : m = 2 := by omega
                  go_wp2_with fail
                  refine (life_at (r := (k : Int) + 1) hp6 rfl).mono ?_
                  rintro e w8 ⟨rfl, rfl⟩
                  go_wp2_with fail
                  go_roundw
                  case rel => exact ⟨k + 1, l, z, _, rfl, by omega, by go_num, hp6, hb6⟩
                  case measure => simp [intOf] <;> omega
            · skip
              go_wp2_with fail
              refine (start_at hp3 (show (PS.mk false (k : Int) K0 t0 none).start = _ from rfl) (by show 0 ≤ (k : Int); omega) (by show (k : Int) ≤ _; omega)).mono ?_
              rintro e w4 ⟨rfl, hp4, hb4⟩
              have hb34 := hb3.trans hb4
              have hz4 := hb34.size
              have hc4 : w4.cell? ⟨b, o + k, none⟩ = some (.slice pa l.length pc) := (World.cell?_of_block (w := w) (a := ⟨b, o + k, none⟩) (hb34.block b hlb)).trans hcl0
              clear hc3 hp3 hb3 hb4
              go_wp2_with fail
              refine (life_at (r := (k : Int)) hp4 rfl).mono ?_
              rintro e w5 ⟨rfl, rfl⟩
              go_wp2_with fail
              refine (off_at (r := false) hp4 rfl).mono ?_
              rintro e w5 ⟨rfl, rfl⟩
              go_wp2_with fail
              refine (power_cut w.heap.size g (PS.mk false (k : Int) K0 t0 none) pa pc l.length l z w4 hz4 hp4 (hsrc0.ext hb34) rfl (by omega)).mono ?_
              rintro e w5 ⟨rfl, hp5, hb5⟩
              have hp5 : Pow w.heap.size w5 g (liveS (k : Int) l z 0) := hp5
              have hb5 := hb34.trans hb5
              have hz5 := hb5.size
              clear hp4 hb34 hz4 hc4
              go_wp2_with fail
              refine (cut_nil (s' := liveS (k : Int) l z 0) hz5 hp5 rfl).mono ?_
              rintro e w10 ⟨rfl, hp10, hb10⟩
              have hb5 := hb5.trans hb10
              have hp5 := hp10
              clear hp10 hb10
              go_wp2_with fail
              go_loopw [10, 11] (fun q _ wx => ∃ (m : Nat) (wz : World), wz = wx ∧ m ≤ 2 ∧ q = .int .i64 (m : Int) ∧ Pow w.heap.size wz g (liveS (k : Int) l z m) ∧ Below w.heap.size w wz) (fun q _ _ => 2 - (intOf q).toNat)
              case atStart => exact ⟨0, _, rfl, by omega, rfl, hp5, hb5⟩
              case round =>
                obtain ⟨m, wx, rfl, hm2, rfl, hp6, hb6⟩ := hrel
                by_cases hmm : m < 2
                · have hmd : decide ((m : Int) < 2) = true := by simp; omega
                  go_wp2_with fail
                  clear hmd
                  go_loopw [11] (fun q2 wy => ∃ (x : Int) (wu : World), wu = wy ∧ -1 ≤ x ∧ x ≤ (l.length : Int) + 1 ∧ q2 = .int .i64 x ∧ Pow w.heap.size wu g (liveS (k : Int) l z m) ∧ Below w.heap.size w wu) (fun q2 _ => ((l.length : Int) + 1 - intOf q2).toNat)
                  case atStart => exact ⟨-1, _, rfl, by omega, by omega, rfl, hp6, hb6⟩
                  case round =>
                    obtain ⟨x, wy, rfl, hx1, hx2, rfl, hp7, hb7⟩ := hrel
                    have hz7 := hb7.size
                    have hc7 : wy.cell? ⟨b, o + k, none⟩ = some (.slice pa l.length pc) := (World.cell?_of_block (w := w) (a := ⟨b, o + k, none⟩) (hb7.block b hlb)).trans hcl0
                    have hs7 := hsrc0.ext hb7
                    have Hmm := Lib.hid hmm
                    clear hmm
                    by_cases hx3 : x ≤ (l.length : Int)
                    · by_cases hx0 : 0 ≤ x
                      · obtain ⟨j, rfl⟩ := Int.eq_ofNat_of_zero_le hx0
                        by_cases hj : j < l.length
                        · obtain ⟨b2, o2, rfl, hlb2, hat2⟩ := src_bools_at hs7 hj
                          have hcb := hat2 j hj
                          have hkp : (liveS (k : Int) l z m).kept (j : Int) = l[j] := by rw [liveS_kept]; simp [hj]
                          clear hat2
                          generalize l[j] = bb at *
                          have Hkp := Lib.hid hkp
                          clear hkp
                          go_wp2_with fail
                          refine (kept_at hp7 Hkp.out).mono ?_
                          rintro e w8 ⟨rfl, rfl⟩
                          go_wp2_with fail
                          go_roundw
                          case rel => exact ⟨(j : Int) + 1, _, rfl, by omega, by omega, by go_num, hp7, hb7⟩
                          case measure => simp [intOf] <;> omega
                        · have hkp : (liveS (k : Int) l z m).kept (j : Int) = false := by rw [liveS_kept]; simp [Nat.not_lt.1 hj]
                          have Hkp := Lib.hid hkp
                          clear hkp
                          go_wp2_with fail
                          refine (kept_at hp7 Hkp.out).mono ?_
                          rintro e w8 ⟨rfl, rfl⟩
                          go_wp2_with fail
                          go_roundw
                          case rel => exact ⟨(j : Int) + 1, _, rfl, by omega, by omega, by go_num, hp7, hb7⟩
                          case measure => simp [intOf] <;> omega
                      · obtain rfl : x = -1 := by omega
                        have hkp : (liveS (k : Int) l z m).kept (-1) = false := by rw [liveS_kept]; simp
                        have Hkp := Lib.hid hkp
                        clear hkp
                        go_wp2_with fail
                        refine (kept_at hp7 Hkp.out).mono ?_
                        rintro e w8 ⟨rfl, rfl⟩
                        go_wp2_with fail
                        go_roundw
                        case rel => exact ⟨0, _, rfl, by omega, by omega, by go_num, hp7, hb7⟩
                        case measure => simp [intOf] <;> omega
                    · have Hst := Lib.hid (liveS_start (k : Int) l z m)
                      have Htn := Lib.hid (liveS_torn (k : Int) l z m)
                      go_wp2_with fail
                      refine (torn_at hp7 Htn.out).mono ?_
                      rintro e w8 ⟨rfl, rfl⟩
                      go_wp2_with fail
                      rcases (show m = 0 ∨ m = 1 by have := Hmm.out; omega) with rfl | rfl
                      · refine (off_at (r := true) hp7 rfl).mono ?_
                        rintro e w8 ⟨rfl, rfl⟩
                        go_wp2_with fail
                        refine (spend_at (r := false) (s' := liveS (k : Int) l z 0) hz7 hp7 rfl).mono ?_
                        rintro e w8 ⟨rfl, hp8, hb8⟩
                        go_wp2_with fail
                        refine (start_at hp8 Hst.out (by show 0 ≤ (k : Int); omega) (by show (k : Int) ≤ _; omega)).mono ?_
                        rintro e w9 ⟨rfl, hp9, hb9⟩
                        go_wp2_with fail
                        go_roundw
                        case rel => exact ⟨1, _, rfl, by omega, rfl, hp9, (hb7.trans hb8).trans hb9⟩
                        case measure => simp [intOf] <;> omega
                      · refine (off_at (r := false) hp7 rfl).mono ?_
                        rintro e w8 ⟨rfl, rfl⟩
                        go_wp2_with fail
                        refine (spend_at (r := true) (s' := liveS (k : Int) l z 1) hz7 hp7 rfl).mono ?_
                        rintro e w8 ⟨rfl, hp8, hb8⟩
                        go_wp2_with fail
                        refine (start_at hp8 Hst.out (by show 0 ≤ (k : Int) + 1; omega) (by show (k : Int) + 1 ≤ _; omega)).mono ?_
                        rintro e w9 ⟨rfl, hp9, hb9⟩
                        go_wp2_with fail
                        go_roundw
                        case rel => exact ⟨2, _, rfl, by omega, rfl, hp9, (hb7.trans hb8).trans hb9⟩
                        case measure => simp [intOf] <;> omega
                · obtain rfl : m = 2 := by omega
                  go_wp2_with fail
                  refine (life_at (r := (k : Int) + 1) hp6 rfl).mono ?_
                  rintro e w8 ⟨rfl, rfl⟩
                  go_wp2_with fail
                  go_roundw
                  case rel => exact ⟨k + 1, l, z, _, rfl, by omega, by go_num, hp6, hb6⟩
                  case measure => simp [intOf] <;> omega
          · cases tw
            · skip
              go_wp2_with fail
              refine (start_at hp3 (show (PS.mk false (k : Int) K0 t0 none).start = _ from rfl) (by show 0 ≤ (k : Int); omega) (by show (k : Int) ≤ _; omega)).mono ?_
              rintro e w4 ⟨rfl, hp4, hb4⟩
              have hb34 := hb3.trans hb4
              have hz4 := hb34.size
              have hc4 : w4.cell? ⟨b, o + k, none⟩ = some (.slice pa l.length pc) := (World.cell?_of_block (w := w) (a := ⟨b, o + k, none⟩) (hb34.block b hlb)).trans hcl0
              clear hc3 hp3 hb3 hb4
              go_wp2_with fail
              refine (life_at (r := (k : Int)) hp4 rfl).mono ?_
              rintro e w5 ⟨rfl, rfl⟩
              go_wp2_with fail
              refine (off_at (r := false) hp4 rfl).mono ?_
              rintro e w5 ⟨rfl, rfl⟩
              go_wp2_with fail
              refine (power_cut w.heap.size g (PS.mk false (k : Int) K0 t0 none) pa pc l.length l (-1) w4 hz4 hp4 (hsrc0.ext hb34) rfl (by omega)).mono ?_
              rintro e w5 ⟨rfl, hp5, hb5⟩
              have hp5 : Pow w.heap.size w5 g (liveS (k : Int) l (-1) 0) := hp5
              have hb5 := hb34.trans hb5
              have hz5 := hb5.size
              clear hp4 hb34 hz4 hc4
              go_wp2_with fail
              skip
              go_loopw [10, 11] (fun q _ wx => ∃ (m : Nat) (wz : World), wz = wx ∧ m ≤ 2 ∧ q = .int .i64 (m : Int) ∧ Pow w.heap.size wz g (liveS (k : Int) l (-1) m) ∧ Below w.heap.size w wz) (fun q _ _ => 2 - (intOf q).toNat)
              case atStart => exact ⟨0, _, rfl, by omega, rfl, hp5, hb5⟩
              case round =>
                obtain ⟨m, wx, rfl, hm2, rfl, hp6, hb6⟩ := hrel
                by_cases hmm : m < 2
                · have hmd : decide ((m : Int) < 2) = true := by simp; omega
                  go_wp2_with fail
                  clear hmd
                  go_loopw [11] (fun q2 wy => ∃ (x : Int) (wu : World), wu = wy ∧ -1 ≤ x ∧ x ≤ (l.length : Int) + 1 ∧ q2 = .int .i64 x ∧ Pow w.heap.size wu g (liveS (k : Int) l (-1) m) ∧ Below w.heap.size w wu) (fun q2 _ => ((l.length : Int) + 1 - intOf q2).toNat)
                  case atStart => exact ⟨-1, _, rfl, by omega, by omega, rfl, hp6, hb6⟩
                  case round =>
                    obtain ⟨x, wy, rfl, hx1, hx2, rfl, hp7, hb7⟩ := hrel
                    have hz7 := hb7.size
                    have hc7 : wy.cell? ⟨b, o + k, none⟩ = some (.slice pa l.length pc) := (World.cell?_of_block (w := w) (a := ⟨b, o + k, none⟩) (hb7.block b hlb)).trans hcl0
                    have hs7 := hsrc0.ext hb7
                    have Hmm := Lib.hid hmm
                    clear hmm
                    by_cases hx3 : x ≤ (l.length : Int)
                    · by_cases hx0 : 0 ≤ x
                      · obtain ⟨j, rfl⟩ := Int.eq_ofNat_of_zero_le hx0
                        by_cases hj : j < l.length
                        · obtain ⟨b2, o2, rfl, hlb2, hat2⟩ := src_bools_at hs7 hj
                          have hcb := hat2 j hj
                          have hkp : (liveS (k : Int) l (-1) m).kept (j : Int) = l[j] := by rw [liveS_kept]; simp [hj]
                          clear hat2
                          generalize l[j] = bb at *
                          have Hkp := Lib.hid hkp
                          clear hkp
                          go_wp2_with fail
                          refine (kept_at hp7 Hkp.out).mono ?_
                          rintro e w8 ⟨rfl, rfl⟩
                          go_wp2_with fail
                          go_roundw
                          case rel => exact ⟨(j : Int) + 1, _, rfl, by omega, by omega, by go_num, hp7, hb7⟩
                          case measure => simp [intOf] <;> omega
                        · have hkp : (liveS (k : Int) l (-1) m).kept (j : Int) = false := by rw [liveS_kept]; simp [Nat.not_lt.1 hj]
                          have Hkp := Lib.hid hkp
                          clear hkp
                          go_wp2_with fail
                          refine (kept_at hp7 Hkp.out).mono ?_
                          rintro e w8 ⟨rfl, rfl⟩
                          go_wp2_with fail
                          go_roundw
                          case rel => exact ⟨(j : Int) + 1, _, rfl, by omega, by omega, by go_num, hp7, hb7⟩
                          case measure => simp [intOf] <;> omega
                      · obtain rfl : x = -1 := by omega
                        have hkp : (liveS (k : Int) l (-1) m).kept (-1) = false := by rw [liveS_kept]; simp
                        have Hkp := Lib.hid hkp
                        clear hkp
                        go_wp2_with fail
                        refine (kept_at hp7 Hkp.out).mono ?_
                        rintro e w8 ⟨rfl, rfl⟩
                        go_wp2_with fail
                        go_roundw
                        case rel => exact ⟨0, _, rfl, by omega, by omega, by go_num, hp7, hb7⟩
                        case measure => simp [intOf] <;> omega
                    · have Hst := Lib.hid (liveS_start (k : Int) l (-1) m)
                      have Htn := Lib.hid (liveS_torn (k : Int) l (-1) m)
                      go_wp2_with fail
                      refine (torn_at hp7 Htn.out).mono ?_
                      rintro e w8 ⟨rfl, rfl⟩
                      go_wp2_with fail
                      rcases (show m = 0 ∨ m = 1 by have := Hmm.out; omega) with rfl | rfl
                      · refine (off_at (r := true) hp7 rfl).mono ?_
                        rintro e w8 ⟨rfl, rfl⟩
                        go_wp2_with fail
                        refine (spend_at (r := false) (s' := liveS (k : Int) l (-1) 0) hz7 hp7 rfl).mono ?_
                        rintro e w8 ⟨rfl, hp8, hb8⟩
                        go_wp2_with fail
                        refine (start_at hp8 Hst.out (by show 0 ≤ (k : Int); omega) (by show (k : Int) ≤ _; omega)).mono ?_
                        rintro e w9 ⟨rfl, hp9, hb9⟩
                        go_wp2_with fail
                        go_roundw
                        case rel => exact ⟨1, _, rfl, by omega, rfl, hp9, (hb7.trans hb8).trans hb9⟩
                        case measure => simp [intOf] <;> omega
                      · refine (off_at (r := false) hp7 rfl).mono ?_
                        rintro e w8 ⟨rfl, rfl⟩
                        go_wp2_with fail
                        refine (spend_at (r := true) (s' := liveS (k : Int) l (-1) 1) hz7 hp7 rfl).mono ?_
                        rintro e w8 ⟨rfl, hp8, hb8⟩
                        go_wp2_with fail
                        refine (start_at hp8 Hst.out (by show 0 ≤ (k : Int) + 1; omega) (by show (k : Int) + 1 ≤ _; omega)).mono ?_
                        rintro e w9 ⟨rfl, hp9, hb9⟩
                        go_wp2_with fail
                        go_roundw
                        case rel => exact ⟨2, _, rfl, by omega, rfl, hp9, (hb7.trans hb8).trans hb9⟩
                        case measure => simp [intOf] <;> omega
                · obtain rfl : m = 2 := by omega
                  go_wp2_with fail
                  refine (life_at (r := (k : Int) + 1) hp6 rfl).mono ?_
                  rintro e w8 ⟨rfl, rfl⟩
                  go_wp2_with fail
                  go_roundw
                  case rel => exact ⟨k + 1, l, (-1), _, rfl, by omega, by go_num, hp6, hb6⟩
                  case measure => simp [intOf] <;> omega
            · skip
              go_wp2_with fail
              refine (start_at hp3 (show (PS.mk false (k : Int) K0 t0 none).start = _ from rfl) (by show 0 ≤ (k : Int); omega) (by show (k : Int) ≤ _; omega)).mono ?_
              rintro e w4 ⟨rfl, hp4, hb4⟩
              have hb34 := hb3.trans hb4
              have hz4 := hb34.size
              have hc4 : w4.cell? ⟨b, o + k, none⟩ = some (.slice pa l.length pc) := (World.cell?_of_block (w := w) (a := ⟨b, o + k, none⟩) (hb34.block b hlb)).trans hcl0
              clear hc3 hp3 hb3 hb4
              go_wp2_with fail
              refine (life_at (r := (k : Int)) hp4 rfl).mono ?_
              rintro e w5 ⟨rfl, rfl⟩
              go_wp2_with fail
              refine (off_at (r := false) hp4 rfl).mono ?_
              rintro e w5 ⟨rfl, rfl⟩
              go_wp2_with fail
              refine (power_cut w.heap.size g (PS.mk false (k : Int) K0 t0 none) pa pc l.length l (-1) w4 hz4 hp4 (hsrc0.ext hb34) rfl (by omega)).mono ?_
              rintro e w5 ⟨rfl, hp5, hb5⟩
              have hp5 : Pow w.heap.size w5 g (liveS (k : Int) l (-1) 0) := hp5
              have hb5 := hb34.trans hb5
              have hz5 := hb5.size
              clear hp4 hb34 hz4 hc4
              go_wp2_with fail
              refine (cut_nil (s' := liveS (k : Int) l (-1) 0) hz5 hp5 rfl).mono ?_
              rintro e w10 ⟨rfl, hp10, hb10⟩
              have hb5 := hb5.trans hb10
              have hp5 := hp10
              clear hp10 hb10
              go_wp2_with fail
              go_loopw [10, 11] (fun q _ wx => ∃ (m : Nat) (wz : World), wz = wx ∧ m ≤ 2 ∧ q = .int .i64 (m : Int) ∧ Pow w.heap.size wz g (liveS (k : Int) l (-1) m) ∧ Below w.heap.size w wz) (fun q _ _ => 2 - (intOf q).toNat)
              case atStart => exact ⟨0, _, rfl, by omega, rfl, hp5, hb5⟩
              case round =>
                obtain ⟨m, wx, rfl, hm2, rfl, hp6, hb6⟩ := hrel
                by_cases hmm : m < 2
                · have hmd : decide ((m : Int) < 2) = true := by simp; omega
                  go_wp2_with fail
                  clear hmd
                  go_loopw [11] (fun q2 wy => ∃ (x : Int) (wu : World), wu = wy ∧ -1 ≤ x ∧ x ≤ (l.length : Int) + 1 ∧ q2 = .int .i64 x ∧ Pow w.heap.size wu g (liveS (k : Int) l (-1) m) ∧ Below w.heap.size w wu) (fun q2 _ => ((l.length : Int) + 1 - intOf q2).toNat)
                  case atStart => exact ⟨-1, _, rfl, by omega, by omega, rfl, hp6, hb6⟩
                  case round =>
                    obtain ⟨x, wy, rfl, hx1, hx2, rfl, hp7, hb7⟩ := hrel
                    have hz7 := hb7.size
                    have hc7 : wy.cell? ⟨b, o + k, none⟩ = some (.slice pa l.length pc) := (World.cell?_of_block (w := w) (a := ⟨b, o + k, none⟩) (hb7.block b hlb)).trans hcl0
                    have hs7 := hsrc0.ext hb7
                    have Hmm := Lib.hid hmm
                    clear hmm
                    by_cases hx3 : x ≤ (l.length : Int)
                    · by_cases hx0 : 0 ≤ x
                      · obtain ⟨j, rfl⟩ := Int.eq_ofNat_of_zero_le hx0
                        by_cases hj : j < l.length
                        · obtain ⟨b2, o2, rfl, hlb2, hat2⟩ := src_bools_at hs7 hj
                          have hcb := hat2 j hj
                          have hkp : (liveS (k : Int) l (-1) m).kept (j : Int) = l[j] := by rw [liveS_kept]; simp [hj]
                          clear hat2
                          generalize l[j] = bb at *
                          have Hkp := Lib.hid hkp
                          clear hkp
                          go_wp2_with fail
                          refine (kept_at hp7 Hkp.out).mono ?_
                          rintro e w8 ⟨rfl, rfl⟩
                          go_wp2_with fail
                          go_roundw
                          case rel => exact ⟨(j : Int) + 1, _, rfl, by omega, by omega, by go_num, hp7, hb7⟩
                          case measure => simp [intOf] <;> omega
                        · have hkp : (liveS (k : Int) l (-1) m).kept (j : Int) = false := by rw [liveS_kept]; simp [Nat.not_lt.1 hj]
                          have Hkp := Lib.hid hkp
                          clear hkp
                          go_wp2_with fail
                          refine (kept_at hp7 Hkp.out).mono ?_
                          rintro e w8 ⟨rfl, rfl⟩
                          go_wp2_with fail
                          go_roundw
                          case rel => exact ⟨(j : Int) + 1, _, rfl, by omega, by omega, by go_num, hp7, hb7⟩
                          case measure => simp [intOf] <;> omega
                      · obtain rfl : x = -1 := by omega
                        have hkp : (liveS (k : Int) l (-1) m).kept (-1) = false := by rw [liveS_kept]; simp
                        have Hkp := Lib.hid hkp
                        clear hkp
                        go_wp2_with fail
                        refine (kept_at hp7 Hkp.out).mono ?_
                        rintro e w8 ⟨rfl, rfl⟩
                        go_wp2_with fail
                        go_roundw
                        case rel => exact ⟨0, _, rfl, by omega, by omega, by go_num, hp7, hb7⟩
                        case measure => simp [intOf] <;> omega
                    · have Hst := Lib.hid (liveS_start (k : Int) l (-1) m)
                      have Htn := Lib.hid (liveS_torn (k : Int) l (-1) m)
                      go_wp2_with fail
                      refine (torn_at hp7 Htn.out).mono ?_
                      rintro e w8 ⟨rfl, rfl⟩
                      go_wp2_with fail
                      rcases (show m = 0 ∨ m = 1 by have := Hmm.out; omega) with rfl | rfl
                      · refine (off_at (r := true) hp7 rfl).mono ?_
                        rintro e w8 ⟨rfl, rfl⟩
                        go_wp2_with fail
                        refine (spend_at (r := false) (s' := liveS (k : Int) l (-1) 0) hz7 hp7 rfl).mono ?_
                        rintro e w8 ⟨rfl, hp8, hb8⟩
                        go_wp2_with fail
                        refine (start_at hp8 Hst.out (by show 0 ≤ (k : Int); omega) (by show (k : Int) ≤ _; omega)).mono ?_
                        rintro e w9 ⟨rfl, hp9, hb9⟩
                        go_wp2_with fail
                        go_roundw
                        case rel => exact ⟨1, _, rfl, by omega, rfl, hp9, (hb7.trans hb8).trans hb9⟩
                        case measure => simp [intOf] <;> omega
                      · refine (off_at (r := false) hp7 rfl).mono ?_
                        rintro e w8 ⟨rfl, rfl⟩
                        go_wp2_with fail
                        refine (spend_at (r := true) (s' := liveS (k : Int) l (-1) 1) hz7 hp7 rfl).mono ?_
                        rintro e w8 ⟨rfl, hp8, hb8⟩
                        go_wp2_with fail
                        refine (start_at hp8 Hst.out (by show 0 ≤ (k : Int) + 1; omega) (by show (k : Int) + 1 ≤ _; omega)).mono ?_
                        rintro e w9 ⟨rfl, hp9, hb9⟩
                        go_wp2_with fail
                        go_roundw
                        case rel => exact ⟨2, _, rfl, by omega, rfl, hp9, (hb7.trans hb8).trans hb9⟩
                        case measure => simp [intOf] <;> omega
                · obtain rfl : m = 2 := by omega
                  go_wp2_with fail
                  refine (life_at (r := (k : Int) + 1) hp6 rfl).mono ?_
                  rintro e w8 ⟨rfl, rfl⟩
                  go_wp2_with fail
                  go_roundw
                  case rel => exact ⟨k + 1, l, (-1), _, rfl, by omega, by go_num, hp6, hb6⟩
                  case measure => simp [intOf] <;> omega
        · go_wp2
          go_ret
          exact ⟨rfl, hb3⟩
      · obtain rfl : k = ps.length := by omega
        go_wp2_with fail
        refine (wakes08_any _).mono ?_
        rintro e w6 ⟨rfl, hb6⟩
        go_wp2
        go_ret
        exact ⟨rfl, bthen hb3 hb6 (Nat.le_refl _)⟩
  · rcases (show 20 < ps.length ∨ (ps.length ≤ 20 ∧ 100 < zs.length) by omega) with h | ⟨h, h'⟩
    all_goals
      clear h50
      go_enter Try.func4, Try.ntmps4
      go_wp2
      go_ret
      exact ⟨rfl, Below.refl _ _⟩
end Go.Proofs.Ythhgngknmjocpaa
