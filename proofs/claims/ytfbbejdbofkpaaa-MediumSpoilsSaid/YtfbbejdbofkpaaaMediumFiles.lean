/- The walk of MediumFiles. -/
import Derived.Test.YtfbbejdbofkpaaaMedLaw
import Derived.Test.YtfbbejdbofkpaaaMedWakes
import Derived.Test.YtfbbejdbofkpaaaMedPos
namespace Go.Proofs.Ytfbbejdbofkpaaa
open Go.RowKit

/-- In block g stands a tape. -/
abbrev BoxM (w : World) (g : Nat) (cap : Int) (a : Option Addr) (n c : Nat) : Prop := w.heap[g]? = some (.cells #[.int .i64 cap, .slice a n c] 60 (0, 0))
theorem BoxM.ext {w w' : World} {g : Nat} {cap : Int} {a : Option Addr} {n c : Nat} (h : BoxM w g cap a n c) (hb : Below w.heap.size w w') : BoxM w' g cap a n c := (hb.block g (heap_lt h)).trans h
theorem BoxM.cells {w : World} {g : Nat} {cap : Int} {a : Option Addr} {n c : Nat} (h : BoxM w g cap a n c) : w.cell? ⟨g, 0, none⟩ = some (.int .i64 cap) ∧ w.cell? ⟨g, 1, none⟩ = some (.slice a n c) := ⟨cell_of_row w g 0 _ _ _ h, cell_of_row w g 1 _ _ _ h⟩

set_option maxRecDepth 100000 in
set_option maxHeartbeats 8000000 in
theorem mediumFiles_walk (w : World) (cap : Int) (a : Option Addr) (c : Nat) (cs : List CellV) (hs : CMat w a cs) (hl : cs.length ≤ 9223372036854775807) (hlc : cs.length ≤ c) :
    Calls Try.prog 7 #[.agg #[.int .i64 cap, .slice a cs.length c]] w fun e w' => e = .returned (.bool true) ∧ Below w.heap.size w w' := by
  have Hs := Lib.hid hs
  obtain ⟨n, hn⟩ : ∃ n, n = cs.length := ⟨_, rfl⟩
  rw [← hn]
  have Hn := Lib.hid hn
  have hn2 : n ≤ 9223372036854775807 := by omega
  have hbx : BoxM (w.alloc (.cells #[.int .i64 cap, .slice a n c] 60)) w.heap.size cap a n c := heap_alloc_new w _
  have hb1 := ext_alloc w (.cells #[.int .i64 cap, .slice a n c] 60)
  clear hs hl hn hlc
  go_enter Try.func7, Try.ntmps7
  go_wp2_with fail
  refine (heavy07 cap a c n cs _ (Hs.out.ext hb1) Hn.out hn2).mono ?_
  rintro e w2 (⟨rfl, hb2⟩ | ⟨rfl, hb2, hlight⟩)
  · go_wp2
    go_ret
    exact ⟨rfl, bthen hb1 hb2 (Nat.le_refl _)⟩
  · have hb02 := bthen hb1 hb2 (Nat.le_refl _)
    have B2 := Lib.hid (hbx.ext hb2)
    have Hli := Lib.hid hlight
    clear hbx hb1 hb2 hlight
    obtain ⟨d0, d1⟩ := B2.out.cells
    go_wp2_with fail
    refine (refmed_any cap a c n cs (medOf cap cs).ok w2 (Hs.out.ext hb02) Hn.out hn2 rfl).mono ?_
    rintro e w3 ⟨rfl, hb3⟩
    have hb03 := bthen hb02 hb3 (Nat.le_refl _)
    have B3 := Lib.hid (B2.out.ext hb3)
    clear hb3 hb02 d0 d1
    cases hok : (medOf cap cs).ok with
    | false =>
      go_wp2
      go_ret
      exact ⟨rfl, hb03⟩
    | true =>
      obtain ⟨P, hP⟩ := places (medOf cap cs) hok
      have HP := Lib.hid hP
      obtain ⟨F, hF⟩ : ∃ F, F = marks (medOf cap cs).cells := ⟨_, rfl⟩
      have HF := Lib.hid hF
      have hFn : F ≤ 80 := by rw [hF]; exact Nat.le_trans (marks_le _) (by rw [show (medOf cap cs).cells.length = cs.length from pls_length cs]; exact Hli.out.1)
      have hnn : n ≤ 80 := by rw [Hn.out]; exact Hli.out.1
      have Hx : Hid (∀ x ∈ cs, x.d.l.length ≤ 140737488355328) := Lib.hid fun x hx => by have := Hli.out.2 x hx; omega
      have Hfiles := Lib.hid (show (medOf cap cs).files = (F : Int) by unfold Med.files; rw [if_neg (by rw [hok]; decide), hF])
      have Hml : Hid ((medOf cap cs).cells.length = n) := Lib.hid (by rw [Hn.out]; exact pls_length cs)
      clear hP hF hok
      obtain ⟨d0, d1⟩ := B3.out.cells
      go_wp2_with fail
      refine (files_any cap a c n cs F w3 (Hs.out.ext hb03) Hn.out hn2 Hfiles.out).mono ?_
      rintro e w4 ⟨rfl, hb4⟩
      have hb04 := bthen hb03 hb4 (Nat.le_refl _)
      have B4 := Lib.hid (B3.out.ext hb4)
      clear hb4 hb03 d0 d1
      go_wp2_with fail
      go_loopw [4, 5] (fun la i wx => ∃ (k : Nat) (wr : World), wr = wx ∧ k ≤ F + 1 ∧ i = .int .i64 (k : Int) ∧ la = .int .i64 (if k = 0 then -1 else (P (k - 1) : Int)) ∧ BoxM wr w.heap.size cap a n c ∧ Below w.heap.size w wr) (fun _ i _ => F + 1 - (intOf i).toNat)
      case atStart => exact ⟨0, _, rfl, by omega, rfl, rfl, B4.out, hb04⟩
      case round =>
        obtain ⟨k, wr, hwr, hk, rfl, rfl, hB, hbr⟩ := hrel
        subst hwr
        have HB := Lib.hid hB
        clear hB hb04
        obtain ⟨d0, d1⟩ := HB.out.cells
        by_cases hkF : k ≤ F
        · have b1 : decide ((k : Int) ≤ (F : Int)) = true := by simp; omega
          have hPk := Lib.hid (HP.out.file k (by rw [← HF.out]; exact hkF))
          have hPl : P k ≤ n := by rw [← Hml.out]; exact HP.out.le k (by rw [← HF.out]; exact hkF)
          cases k with
          | zero =>
            have hp0 := HP.out.zero
            have hPk0 := hPk.out
            rw [hp0] at hPk0
            have hPk1 := Lib.hid hPk0
            rw [if_pos rfl]
            clear hPk hPk0 hPl hkF hp0
            go_wp2_with fail
            refine (file_any cap a c n cs 0 _ _ wr (Hs.out.ext hbr) Hn.out (by omega) (by decide) (by decide) hPk1.out).mono ?_
            rintro e w5 ⟨rfl, hb5⟩
            have hb05 := bthen hbr hb5 (Nat.le_refl _)
            have HB5 := Lib.hid (HB.out.ext hb5)
            clear hb5 d0 d1
            obtain ⟨d0, d1⟩ := HB5.out.cells
            go_wp2_with fail
            go_roundw
            case rel => exact ⟨1, _, rfl, by omega, rfl, by rw [if_neg (by decide), HP.out.zero]; rfl, HB5.out, hb05⟩
            case measure => simp [intOf]
          | succ k' =>
            have hlt := HP.out.lt k' (by rw [← HF.out]; exact hkF)
            have Hmark := Lib.hid (HP.out.mark k' (by rw [← HF.out]; exact hkF))
            have Hnone := Lib.hid (fun t => HP.out.none k' t (by rw [← HF.out]; exact hkF))
            have b2 : decide ((0 : Int) < ((k' + 1 : Nat) : Int)) = true := by rw [decide_eq_true_eq]; omega
            have hK0 : 0 < k' + 1 := by omega
            have hK00 : decide (0 < k' + 1) = true := by rw [decide_eq_true_eq]; omega
            have b3 : (((k' + 1 : Nat) : Int) == 0) = false := by simp; omega
            rw [if_neg (by omega), Nat.add_sub_cancel]
            have b4 : decide ((P (k' + 1) : Int) ≤ (P k' : Int)) = false := by simp; omega
            have b5 : decide ((n : Int) < (P (k' + 1) : Int)) = false := by simp; omega
            have HK0 : Hid (P ((k' + 1) + 1 - 1) = P (k' + 1)) := Lib.hid rfl
            generalize hp1 : P (k' + 1) = p1 at *
            generalize P k' = l0 at *
            have Hp1 := Lib.hid hp1
            generalize k' + 1 = K at *
            clear hp1
            go_wp2_with fail
            refine (file_any cap a c n cs K _ _ wr (Hs.out.ext hbr) Hn.out (by omega) (by omega) (by omega) hPk.out).mono ?_
            rintro e w5 ⟨rfl, hb5⟩
            have hb05 := bthen hbr hb5 (Nat.le_refl _)
            have HB5 := Lib.hid (HB.out.ext hb5)
            clear hb5 d0 d1
            obtain ⟨d0, d1⟩ := HB5.out.cells
            go_wp2_with fail
            have hp1n : (p1 : Int) - 1 ≤ 9223372036854775807 := by omega
            refine (read_any cap a c n cs ((p1 : Int) - 1) ((medOf cap cs).read ((p1 : Int) - 1)).1 15 w5 (Hs.out.ext hb05) Hn.out hn2 Hx.out (by rw [← Hmark.out])).mono ?_
            rintro e w6 ⟨a6, c6, k6, rfl, _, _, hb6⟩
            have hb06 := bthen hb05 hb6 (Nat.le_refl _)
            have HB6 := Lib.hid (HB5.out.ext hb6)
            clear hb6 d0 d1
            obtain ⟨d0, d1⟩ := HB6.out.cells
            go_wp2_with fail
            go_loopw [10] (fun i wx => ∃ (t : Nat) (wq : World), wq = wx ∧ l0 ≤ t ∧ t + 1 ≤ p1 ∧ i = .int .i64 (t : Int) ∧ BoxM wq w.heap.size cap a n c ∧ Below w.heap.size w wq) (fun i _ => p1 - (intOf i).toNat)
            case atStart => exact ⟨l0, _, rfl, by omega, by omega, by first | rfl | go_num, HB6.out, hb06⟩
            case round =>
              obtain ⟨t, wq, hwq, ht0, ht1, rfl, hBq, hbq⟩ := hrel
              subst hwq
              have HBq := Lib.hid hBq
              clear hBq hb06 d0 d1
              obtain ⟨d0, d1⟩ := HBq.out.cells
              by_cases htp : t + 1 < p1
              · have hne : ((((medOf cap cs).read (t : Int)).2 : Int) == 15) = false := by simpa using Hnone.out t ht0 htp
                have Hne := Lib.hid hne
                clear hne
                go_wp2_with fail
                refine (read_any cap a c n cs (t : Int) ((medOf cap cs).read (t : Int)).1 ((medOf cap cs).read (t : Int)).2 wq (Hs.out.ext hbq) Hn.out hn2 Hx.out rfl).mono ?_
                rintro e w7 ⟨a7, c7, k7, rfl, _, _, hb7⟩
                have hb07 := bthen hbq hb7 (Nat.le_refl _)
                have HB7 := Lib.hid (HBq.out.ext hb7)
                have hne := Hne.out
                generalize ((medOf cap cs).read (t : Int)).2 = EE at *
                clear hb7 d0 d1 Hne
                go_wp2_with fail
                go_roundw
                case rel => exact ⟨t + 1, _, rfl, by omega, by omega, by go_num, HB7.out, hb07⟩
                case measure => simp [intOf]; omega
              · have htp' : ¬ ((t : Int) < (p1 : Int) - 1) := by omega
                go_wp2_with fail
                go_roundw
                case rel => exact ⟨K + 1, _, rfl, by omega, by go_num, by rw [if_neg (by omega), Nat.add_sub_cancel, Hp1.out], HBq.out, hbq⟩
                case measure => simp [intOf]; omega
        · have hkF' : k = F + 1 := by omega
          have Hov := Lib.hid HP.out.over
          rw [← HF.out] at Hov
          clear hkF
          go_wp2_with fail
          refine (file_any cap a c n cs ((F : Int) + 1) _ _ wr (Hs.out.ext hbr) Hn.out (by omega) (by omega) (by omega) Hov.out).mono ?_
          rintro e w5 ⟨rfl, hb5⟩
          have hb05 := bthen hbr hb5 (Nat.le_refl _)
          go_wp2_with fail
          refine (wakes07_any w5).mono ?_
          rintro e w6 ⟨rfl, hb6⟩
          go_wp2
          go_ret
          exact ⟨rfl, bthen hb05 hb6 (Nat.le_refl _)⟩
end Go.Proofs.Ytfbbejdbofkpaaa
