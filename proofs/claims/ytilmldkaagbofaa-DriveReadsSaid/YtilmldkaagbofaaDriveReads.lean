/- The walk of DriveReads. -/
import Derived.Test.YtilmldkaagbofaaDriveOver
namespace Go.Proofs.Ytilmldkaagbofaa
open Go.RowKit

theorem look_eight {m : Med} {t : Nat} : (m.look (t : Int)).2 = 8 ↔ ¬ t < m.cells.length := by
  by_cases h : t < m.cells.length
  · have := look_in (List.getElem?_eq_getElem h)
    rw [this]
    simp only [h, not_true_eq_false, iff_false]
    split
    · exact (by decide : ¬ (15 : Int) = 8)
    split
    · exact (by decide : ¬ (6 : Int) = 8)
    · exact (by decide : ¬ (0 : Int) = 8)
  · simp only [h, not_false_eq_true, iff_true]
    unfold Med.look
    rw [if_pos (.inr (by omega))]
theorem read_look' {m : Med} (h : m.ok = true) (p : Int) : m.read p = m.look p := by unfold Med.read; rw [if_neg (by rw [h]; decide)]

set_option maxRecDepth 100000 in
set_option maxHeartbeats 16000000 in
theorem driveReads_walk (w : World) (cap : Int) (a : Option Addr) (c : Nat) (cs : List CellV) (hs : CMat w a cs) (hl : cs.length ≤ 9223372036854775807) (hlc : cs.length ≤ c) (pI : Int) (wp : (Lit.int .i64 pI).wf = true) (bI : Int) (wb : (Lit.int .i64 bI).wf = true) :
    Calls Try.prog 6 #[.agg #[.int .i64 cap, .slice a cs.length c], .int .i64 pI, .int .i64 bI] w fun e w' => e = .returned (.bool true) ∧ Below w.heap.size w w' := by
  have Hs := Lib.hid hs
  obtain ⟨n, hn⟩ : ∃ n, n = cs.length := ⟨_, rfl⟩
  rw [← hn]
  have Hn := Lib.hid hn
  have hn2 : n ≤ 9223372036854775807 := by omega
  have hb1 := ext_alloc w (.cells #[.int .i64 cap, .slice a n c] 32)
  have hT : TapeAt (w.alloc (.cells #[.int .i64 cap, .slice a n c] 32)) w.heap.size ⟨cap, pls cs⟩ a n c cs := ⟨heap_alloc_new w _, hs.ext hb1, hn, rfl, by omega⟩
  clear hs hl hn hlc wp wb
  go_enter Try.func6, Try.ntmps6
  go_wp2_with fail
  refine (heavy07 cap a c n cs _ hT.mat Hn.out hn2).mono ?_
  rintro e w2 (⟨rfl, hb2⟩ | ⟨rfl, hb2, hlight⟩)
  · go_wp2
    go_ret
    exact ⟨rfl, bthen hb1 hb2 (Nat.le_refl _)⟩
  have HB := Lib.hid (bthen hb1 hb2 (Nat.le_refl _))
  have T := Lib.hid (hT.ext hb2)
  have Hli := Lib.hid hlight
  clear hT hb1 hb2 hlight
  obtain ⟨d0, d1⟩ := T.out.box.cells
  dsimp only at d0 d1
  go_wp2_with fail
  clear d0 d1
  refine (refmed_any cap a c n cs (medOf cap cs).ok w2 T.out.mat Hn.out hn2 rfl).mono ?_
  rintro e w3 ⟨rfl, hb⟩
  have HB' := Lib.hid (bthen HB.out hb (Nat.le_refl _))
  have T' := Lib.hid (T.out.ext hb)
  clear hb HB T
  have HB := HB'
  have T := T'
  clear HB' T'
  cases hok : (medOf cap cs).ok with
  | false =>
    go_wp2
    go_ret
    exact ⟨rfl, HB.out⟩
  | true =>
  have hnn : n ≤ 80 := by rw [Hn.out]; exact Hli.out.1
  have Hx : Hid (∀ x ∈ cs, x.d.l.length ≤ 140737488355328) := Lib.hid fun x hx => by have := Hli.out.2 x hx; omega
  have Hml : Hid ((medOf cap cs).cells.length = n) := Lib.hid (by rw [Hn.out]; exact pls_length cs)
  have Hok := Lib.hid hok
  have hcp : (n : Int) ≤ cap ∧ cap ≤ 400 := by
    have := (Med.ok_iff.1 hok).1
    rw [Hml.out] at this
    exact ⟨this.2.2, this.2.1⟩
  have T0 := T
  clear hok
  go_wp2_with fail
  refine (power_new w3).mono ?_
  rintro e w5 ⟨g, rfl, hp5, hb5⟩
  have HP := Lib.hid hp5
  have HBv := Lib.hid hb5
  have T := Lib.hid (T0.out.ext hb5)
  clear hp5 hb5
  obtain ⟨d0, d1⟩ := T.out.box.cells
  dsimp only at d0 d1
  go_wp2_with fail
  clear d0 d1
  refine (drv_new (g := g) cap a c n cs w5 T.out.mat Hn.out (by omega) Hx.out Hok.out).mono ?_
  rintro e w6 ⟨d, a6, c6, cs6, rfl, h6, hb6⟩
  have HD : Hid (DrvP w3.heap.size w6 d g ⟨cap, pls cs⟩ 0 PS.new) := Lib.hid ⟨⟨_, _, _, _, h6.mono HBv.out.size⟩, HP.out.ext hb6⟩
  have HBv' := Lib.hid (bthen HBv.out hb6 (Nat.le_refl _))
  clear h6 hb6 HP HBv T
  have HQ : Hid (∀ t : Int, ((medOf cap cs).read t).1.length ≤ 140737488355328) := Lib.hid fun t => Med.read_short (fun c hc => by
    obtain ⟨y, hy, rfl⟩ := List.mem_map.1 hc
    exact Hx.out y hy) t
  go_wp2_with fail
  go_loopw [10] (fun i wx => ∃ (t : Nat) (wr : World), wr = wx ∧ t ≤ n + 1 ∧ i = .int .i64 (t : Int) ∧ DrvP w3.heap.size wr d g ⟨cap, pls cs⟩ ((min t n : Nat) : Int) PS.new ∧ Below w3.heap.size w3 wr) (fun i _ => n + 1 - (intOf i).toNat)
  case atStart => exact ⟨0, _, rfl, by omega, rfl, by rw [Nat.zero_min]; exact HD.out, HBv'.out⟩
  case round =>
    obtain ⟨t, wr, hwr, ht, rfl, hA, hbr⟩ := hrel
    subst hwr
    clear HD HBv'
    have HD := Lib.hid hA
    have HBv := Lib.hid hbr
    have T := Lib.hid (T0.out.ext hbr)
    clear hA hbr
    obtain ⟨d0, d1⟩ := T.out.box.cells
    dsimp only at d0 d1
    by_cases htn : t ≤ n
    · have hmin : min t n = t := by omega
      rw [hmin] at HD
      clear hmin
      obtain ⟨⟨R1, E1⟩, hRR⟩ : ∃ x, x = (medOf cap cs).look (t : Int) := ⟨_, rfl⟩
      have HRd : Hid ((medOf cap cs).read (t : Int) = (R1, E1)) := Lib.hid (by rw [read_look' Hok.out, ← hRR])
      have Hql : Hid (R1.length ≤ 140737488355328) := Lib.hid (by have := HQ.out (t : Int); rw [HRd.out] at this; exact this)
      obtain ⟨rn, hrn⟩ : ∃ n, n = R1.length := ⟨_, rfl⟩
      have Hrn := Lib.hid hrn
      have h8 := look_eight (m := medOf cap cs) (t := t)
      rw [← hRR, Hml.out] at h8
      have hat : (if E1 = 8 then ((t : Nat) : Int) else (t : Int) + 1) = ((min (t + 1) n : Nat) : Int) := by
        by_cases hE : E1 = 8
        · rw [if_pos hE]
          have := h8.1 hE
          omega
        · rw [if_neg hE]
          have : t < n := by
            by_cases h : t < n
            · exact h
            · exact absurd (h8.2 h) hE
          omega
      have Hat := Lib.hid hat
      have HRR := Lib.hid hRR
      clear h8 hat hrn hRR
      go_wp2_with fail
      clear d0 d1
      refine (drv_read rn R1 E1 ((min (t + 1) n : Nat) : Int) PS.new wr HD.out HBv.out.size (fun x hx => by obtain ⟨y, hy, rfl⟩ := List.mem_map.1 hx; exact Hx.out y hy) Hrn.out (by omega) (by omega) (by
        rw [if_neg (by decide), show (Med.mk cap (pls cs)).look (t : Int) = (R1, E1) from HRR.out.symm]
        dsimp only
        rw [Hat.out])).mono ?_
      rintro e w7 ⟨a7, c7, rfl, ho7, hd7, hm7⟩
      have HD7 := Lib.hid hd7
      have HBv7 := Lib.hid (HBv.out.trans (hm7.below (fun b T h => h.1) HBv.out.size))
      have HS7 := Lib.hid ho7.src
      have T7 := Lib.hid (T0.out.ext HBv7.out)
      clear ho7 hd7 hm7 HD HBv T Hat HRR
      obtain ⟨d0, d1⟩ := T7.out.box.cells
      dsimp only at d0 d1
      go_wp2_with fail
      clear d0 d1
      refine (read_any cap a c n cs (t : Int) R1 E1 w7 T7.out.mat Hn.out (by omega) Hx.out HRd.out).mono ?_
      rintro e w8 ⟨a8, c8, k8, rfl, hk8, ho8, hb⟩
      have HS8 := Lib.hid ho8.src
      have Hk8 := Lib.hid hk8
      clear ho8 hk8 T7
      have HD8 := Lib.hid (HD7.out.ext hb)
      have HBv8 := Lib.hid (bthen HBv7.out hb (Nat.le_refl _))
      have HS7' := Lib.hid (HS7.out.ext hb)
      clear hb HD7 HBv7 HS7
      go_wp2_with fail
      refine (bytes_at a7 c7 R1 a8 c8 R1 w8 rn k8 true HS7'.out HS8.out Hrn.out Hk8.out (by rw [Hrn.out]; have := Hql.out; omega) (by rw [Hk8.out]; have := Hql.out; omega) (by simp)).mono ?_
      rintro e w9 ⟨rfl, n9, rfl⟩
      have hb := ext_drewN w8 n9 w8.heap.size
      have HD9 := Lib.hid (HD8.out.ext hb)
      have HBv9 := Lib.hid (bthen HBv8.out hb (Nat.le_refl _))
      clear hb HD8 HBv8 HS7' HS8 Hk8 Hrn
      go_wp2_with fail
      go_roundw
      case rel => exact ⟨t + 1, _, rfl, by omega, by go_num, HD9.out, HBv9.out⟩
      case measure => simp [intOf]; omega
    · have hmin : min t n = n := by omega
      have htn' : ¬ (t : Int) ≤ (n : Int) := by omega
      rw [hmin] at HD
      clear hmin
      go_wp2_with fail
      clear d0 d1
      refine wp_region_sp (by kernel_rfl) [Sp.eq (.pointer (some ⟨d, 0, none⟩)), Sp.eq (.pointer (some ⟨d, 0, none⟩)), Sp.eq (.pointer (some ⟨d, 0, none⟩)), Sp.eq (.int .i64 (n : Int)), Sp.eq (.pointer (some ⟨w.heap.size, 1, none⟩)), Sp.eq (.slice a n c), Sp.eq (.int .i64 (n : Int)), Sp.eq (.bool false), Sp.eq (.bool false), Sp.eq (.pointer (some ⟨d, 0, none⟩)), Sp.eq (.pointer (some ⟨d, 0, none⟩)), Sp.eq (.pointer (some ⟨d, 0, none⟩)), Sp.eq (.int .i64 (cap - (n : Int))), Sp.eq (.pointer (some ⟨w.heap.size, 0, none⟩)), Sp.eq (.int .i64 cap), Sp.eq (.pointer (some ⟨w.heap.size, 1, none⟩)), Sp.eq (.slice a n c), Sp.eq (.int .i64 (n : Int)), Sp.eq (.int .i64 (cap - (n : Int))), Sp.eq (.bool false), Sp.eq (.bool false)] (by kernel_rfl) ?_ ?_
      · refine stepsOk_cons ?_ (stepsOk_cons ?_ (stepsOk_cons ?_ (stepsOk_cons ?_ (stepsOk_cons ?_ (stepsOk_cons ?_ (stepsOk_cons ?_ (stepsOk_cons ?_ (stepsOk_cons ?_ (stepsOk_cons ?_ (stepsOk_cons ?_ (stepsOk_cons ?_ (stepsOk_cons ?_ (stepsOk_cons ?_ (stepsOk_cons ?_ (stepsOk_cons ?_ (stepsOk_cons ?_ (stepsOk_cons ?_ (stepsOk_cons ?_ (stepsOk_cons ?_ (stepsOk_cons ?_ (stepsOk_nil)))))))))))))))))))))
        · intro ρ w' E
          have e8 : ρ (.tmp 8) = .pointer (some ⟨d, 0, none⟩) := E.out 8 rfl
          refine step_plain rfl ?_
          exact op_move (.inl rfl) e8 ⟨Below.refl _ _, rfl⟩
        · intro ρ w' E
          have e71 : ρ (.tmp 71) = .pointer (some ⟨d, 0, none⟩) := E.pre 0 rfl
          refine step_plain rfl ?_
          refine op_val (v := .pointer (some ⟨d, 0, none⟩)) (w' := w') ?_ ⟨Below.refl _ _, rfl⟩
          have hcon := E.con
          clear E
          go_simp
        · intro ρ w' E
          have e72 : ρ (.tmp 72) = .pointer (some ⟨d, 0, none⟩) := E.pre 1 rfl
          refine step_plain rfl ?_
          refine op_val (v := .pointer (some ⟨d, 0, none⟩)) (w' := w') ?_ ⟨Below.refl _ _, rfl⟩
          have hcon := E.con
          clear E
          go_simp
        · intro ρ w' E
          have e73 : ρ (.tmp 73) = .pointer (some ⟨d, 0, none⟩) := E.pre 2 rfl
          refine step_plain rfl ?_
          refine op_call (f := 23) (args := #[.pointer (some ⟨d, 0, none⟩)]) (w' := w') (by have hcon := E.con; have hfn := E.fn; clear E; go_simp) ?_
          refine (drv_placeP w' (HD.out.ext E.below)).mono ?_
          rintro e wz ⟨rfl, rfl⟩
          exact ⟨_, rfl, Below.refl _ _, rfl⟩
        · intro ρ w' E
          have e3 : ρ (.tmp 3) = .pointer (some ⟨w.heap.size, 0, none⟩) := E.out 3 rfl
          refine step_plain rfl ?_
          refine op_val (v := .pointer (some ⟨w.heap.size, 1, none⟩)) (w' := w') ?_ ⟨Below.refl _ _, rfl⟩
          have hcon := E.con
          clear E
          go_simp
        · intro ρ w' E
          have e75 : ρ (.tmp 75) = .pointer (some ⟨w.heap.size, 1, none⟩) := E.pre 4 rfl
          refine step_plain rfl ?_
          refine op_val (v := .slice a n c) (w' := w') ?_ ⟨Below.refl _ _, rfl⟩
          obtain ⟨k0, k1⟩ := (T.out.ext E.below).box.cells
          have hcon := E.con
          clear E
          go_simp
        · intro ρ w' E
          have e76 : ρ (.tmp 76) = .slice a n c := E.pre 5 rfl
          refine step_plain rfl ?_
          refine op_val (v := .int .i64 (n : Int)) (w' := w') ?_ ⟨Below.refl _ _, rfl⟩
          have hcon := E.con
          clear E
          go_simp
        · intro ρ w' E
          have e74 : ρ (.tmp 74) = .int .i64 (n : Int) := E.pre 3 rfl
          have e77 : ρ (.tmp 77) = .int .i64 (n : Int) := E.pre 6 rfl
          refine step_plain rfl ?_
          refine op_val (v := .bool false) (w' := w') ?_ ⟨Below.refl _ _, rfl⟩
          have hcon := E.con
          clear E
          go_simp
        · intro ρ w' E
          have e78 : ρ (.tmp 78) = .bool false := E.pre 7 rfl
          refine step_plain rfl ?_
          exact op_move (.inl rfl) e78 ⟨Below.refl _ _, rfl⟩
        · intro ρ w' E
          have e8 : ρ (.tmp 8) = .pointer (some ⟨d, 0, none⟩) := E.out 8 rfl
          refine step_yes rfl (E.pre 8 rfl) ?_
          exact op_move (.inl rfl) e8 ⟨Below.refl _ _, rfl⟩
        · intro ρ w' E
          have e80 : ρ (.tmp 80) = .pointer (some ⟨d, 0, none⟩) := E.pre 9 rfl
          refine step_yes rfl (E.pre 8 rfl) ?_
          refine op_val (v := .pointer (some ⟨d, 0, none⟩)) (w' := w') ?_ ⟨Below.refl _ _, rfl⟩
          have hcon := E.con
          clear E
          go_simp
        · intro ρ w' E
          have e81 : ρ (.tmp 81) = .pointer (some ⟨d, 0, none⟩) := E.pre 10 rfl
          refine step_yes rfl (E.pre 8 rfl) ?_
          refine op_val (v := .pointer (some ⟨d, 0, none⟩)) (w' := w') ?_ ⟨Below.refl _ _, rfl⟩
          have hcon := E.con
          clear E
          go_simp
        · intro ρ w' E
          have e82 : ρ (.tmp 82) = .pointer (some ⟨d, 0, none⟩) := E.pre 11 rfl
          refine step_yes rfl (E.pre 8 rfl) ?_
          refine op_call (f := 33) (args := #[.pointer (some ⟨d, 0, none⟩)]) (w' := w') (by have hcon := E.con; have hfn := E.fn; clear E; go_simp) ?_
          refine (drv_leftP (cap - (n : Int)) w' (HD.out.ext E.below) rfl (by omega) (by omega)).mono ?_
          rintro e wz ⟨rfl, hbz⟩
          exact ⟨_, rfl, hbz, rfl⟩
        · intro ρ w' E
          have e3 : ρ (.tmp 3) = .pointer (some ⟨w.heap.size, 0, none⟩) := E.out 3 rfl
          refine step_yes rfl (E.pre 8 rfl) ?_
          refine op_val (v := .pointer (some ⟨w.heap.size, 0, none⟩)) (w' := w') ?_ ⟨Below.refl _ _, rfl⟩
          have hcon := E.con
          clear E
          go_simp
        · intro ρ w' E
          have e84 : ρ (.tmp 84) = .pointer (some ⟨w.heap.size, 0, none⟩) := E.pre 13 rfl
          refine step_yes rfl (E.pre 8 rfl) ?_
          refine op_val (v := .int .i64 cap) (w' := w') ?_ ⟨Below.refl _ _, rfl⟩
          obtain ⟨k0, k1⟩ := (T.out.ext E.below).box.cells
          have hcon := E.con
          clear E
          go_simp
        · intro ρ w' E
          have e3 : ρ (.tmp 3) = .pointer (some ⟨w.heap.size, 0, none⟩) := E.out 3 rfl
          refine step_yes rfl (E.pre 8 rfl) ?_
          refine op_val (v := .pointer (some ⟨w.heap.size, 1, none⟩)) (w' := w') ?_ ⟨Below.refl _ _, rfl⟩
          have hcon := E.con
          clear E
          go_simp
        · intro ρ w' E
          have e86 : ρ (.tmp 86) = .pointer (some ⟨w.heap.size, 1, none⟩) := E.pre 15 rfl
          refine step_yes rfl (E.pre 8 rfl) ?_
          refine op_val (v := .slice a n c) (w' := w') ?_ ⟨Below.refl _ _, rfl⟩
          obtain ⟨k0, k1⟩ := (T.out.ext E.below).box.cells
          have hcon := E.con
          clear E
          go_simp
        · intro ρ w' E
          have e87 : ρ (.tmp 87) = .slice a n c := E.pre 16 rfl
          refine step_yes rfl (E.pre 8 rfl) ?_
          refine op_val (v := .int .i64 (n : Int)) (w' := w') ?_ ⟨Below.refl _ _, rfl⟩
          have hcon := E.con
          clear E
          go_simp
        · intro ρ w' E
          have e85 : ρ (.tmp 85) = .int .i64 cap := E.pre 14 rfl
          have e88 : ρ (.tmp 88) = .int .i64 (n : Int) := E.pre 17 rfl
          refine step_yes rfl (E.pre 8 rfl) ?_
          refine op_val (v := .int .i64 (cap - (n : Int))) (w' := w') ?_ ⟨Below.refl _ _, rfl⟩
          have hcon := E.con
          clear E
          go_simp
          try (rw [IntKind.wrap_i64]; omega)
        · intro ρ w' E
          have e83 : ρ (.tmp 83) = .int .i64 (cap - (n : Int)) := E.pre 12 rfl
          have e89 : ρ (.tmp 89) = .int .i64 (cap - (n : Int)) := E.pre 18 rfl
          refine step_yes rfl (E.pre 8 rfl) ?_
          refine op_val (v := .bool false) (w' := w') ?_ ⟨Below.refl _ _, rfl⟩
          have hcon := E.con
          clear E
          go_simp
        · intro ρ w' E
          have e79 : ρ (.tmp 79) = .bool false := E.pre 8 rfl
          have e90 : ρ (.tmp 90) = .bool false := E.pre 19 rfl
          refine step_plain rfl ?_
          exact op_pick (b := false) rfl e79 rfl ⟨Below.refl _ _, e90⟩
      · intro σ w7 hb hall
        have h91 : σ 91 = .bool false := by obtain ⟨_, _, _, _, _, _, _, _, _, _, _, _, _, _, _, _, _, _, _, _, h, _⟩ := hall; exact h
        clear hall
        simp only [upd, updL, dstsOf', elemB, List.filterMap_cons, List.filterMap_nil, Nat.reduceAdd, Nat.reduceBEq, Bool.or_false, Bool.false_or, Bool.or_true, Bool.true_or, cond_true, cond_false, Nat.zero_add, h91]
        have HD7 := Lib.hid (HD.out.ext hb)
        have HBv7 := Lib.hid (bthen HBv.out hb (Nat.le_refl _))
        have T7 := Lib.hid (T.out.ext hb)
        clear hb h91 HD HBv T
        obtain ⟨F, hF⟩ : ∃ F, F = marks (pls cs) := ⟨_, rfl⟩
        have hFn : F ≤ n := by
          rw [hF, Hn.out, ← pls_length cs]
          exact marks_le _
        have HF := Lib.hid hF
        clear hF
        obtain ⟨nn, hnn2, ep1⟩ := umod pI ((F : Int) + 2) (by omega) (by omega)
        obtain ⟨bk, hbk, ep2⟩ := umod bI 20 (by decide) (by decide)
        obtain ⟨d0, d1⟩ := T7.out.box.cells
        dsimp only at d0 d1
        go_wp2_with fail
        clear d0 d1
        refine (files_any cap a c n cs (F : Int) w7 T7.out.mat Hn.out (by omega) (by rw [HF.out]; exact Med.files_ok Hok.out)).mono ?_
        rintro e w8 ⟨rfl, hb⟩
        have HD8 := Lib.hid (HD7.out.ext hb)
        have HBv8 := Lib.hid (bthen HBv7.out hb (Nat.le_refl _))
        have T8 := Lib.hid (T7.out.ext hb)
        clear hb HD7 HBv7 T7
        go_wp2_with fail
        try rw [ep1]
        try rw [ep2]
        clear ep1 ep2
        obtain ⟨⟨El, al⟩, hlo⟩ : ∃ x, x = (medOf cap cs).locate (nn : Int) (bk : Int) (n : Int) := ⟨_, rfl⟩
        have Hlo := Lib.hid hlo
        clear hlo
        refine (drv_locate (nn : Int) (bk : Int) El al PS.new w8 HD8.out (by show (medOf cap cs).cells.length ≤ _; rw [Hml.out]; omega) (by omega) (by omega) (by rw [if_neg (by decide)]; exact Hlo.out.symm)).mono ?_
        rintro e w9 ⟨rfl, hd9, hm9⟩
        have HD9 := Lib.hid hd9
        have HBv9 := Lib.hid (HBv8.out.trans (hm9.below (fun b T h => h.1) HBv8.out.size))
        have T9 := Lib.hid (T0.out.ext HBv9.out)
        clear hd9 hm9 HD8 HBv8 T8
        obtain ⟨⟨Rf, Ef⟩, hbh⟩ : ∃ x, x = (medOf cap cs).behind (nn : Int) := ⟨_, rfl⟩
        have hbd := (medOf cap cs).behind_bound (nn : Int)
        rw [← hbh, Hml.out] at hbd
        have hlo := Hlo.out
        unfold Med.locate at hlo
        rw [if_neg (by omega), ← hbh, Hml.out, Int.toNat_natCast] at hlo
        have HL := Lib.hid hlo
        have Hbh := Lib.hid hbh
        clear hlo hbh Hlo
        obtain ⟨d0, d1⟩ := T9.out.box.cells
        dsimp only at d0 d1
        go_wp2_with fail
        clear d0 d1
        refine (file_any cap a c n cs (nn : Int) Rf Ef w9 T9.out.mat Hn.out (by omega) (by omega) (by omega) (by unfold Med.file; rw [if_neg (by rw [Hok.out]; decide)]; exact Hbh.out.symm)).mono ?_
        rintro e wA ⟨rfl, hb⟩
        have HDA := Lib.hid (HD9.out.ext hb)
        have HBvA := Lib.hid (bthen HBv9.out hb (Nat.le_refl _))
        have TA := Lib.hid (T9.out.ext hb)
        clear hb HD9 HBv9 T9
        obtain ⟨d0, d1⟩ := TA.out.box.cells
        dsimp only at d0 d1
        rcases hbd with ⟨hE, hR0, hRk⟩ | ⟨hE, hR⟩
        · have hE : Ef = 0 := hE
          have hR0 : 0 ≤ Rf := hR0
          have hRk : Rf ≤ (n : Int) := hRk
          subst hE
          obtain ⟨R, rfl⟩ := Int.eq_ofNat_of_zero_le hR0
          by_cases hlen : (n : Int) - (R : Int) < (bk : Int)
          · have hlo := HL.out
            rw [if_pos (.inr hlen)] at hlo
            simp only [Prod.mk.injEq] at hlo
            obtain ⟨rfl, rfl⟩ := hlo
            have hgt : (n : Int) < (R : Int) + (bk : Int) := by omega
            clear HL hR0
            have T := TA
            have HD := HDA
            clear TA HDA
            go_wp2_with fail
            clear d0 d1
            refine wp_region_sp (by kernel_rfl) [Sp.eq (.int .i64 8), Sp.eq (.bool true), Sp.eq (.bool true), Sp.eq (.pointer (some ⟨d, 0, none⟩)), Sp.eq (.pointer (some ⟨d, 0, none⟩)), Sp.eq (.pointer (some ⟨d, 0, none⟩)), Sp.eq (.int .i64 (n : Int)), Sp.eq (.pointer (some ⟨w.heap.size, 1, none⟩)), Sp.eq (.slice a n c), Sp.eq (.int .i64 (n : Int)), Sp.eq (.bool true), Sp.eq (.bool true), Sp.eq (.bool true), Sp.eq (.bool true), Sp.eq (.bool true), Sp.eq (.bool true)] (by kernel_rfl) ?_ ?_
            · refine stepsOk_cons ?_ (stepsOk_cons ?_ (stepsOk_cons ?_ (stepsOk_cons ?_ (stepsOk_cons ?_ (stepsOk_cons ?_ (stepsOk_cons ?_ (stepsOk_cons ?_ (stepsOk_cons ?_ (stepsOk_cons ?_ (stepsOk_cons ?_ (stepsOk_cons ?_ (stepsOk_cons ?_ (stepsOk_cons ?_ (stepsOk_cons ?_ (stepsOk_cons ?_ (stepsOk_nil))))))))))))))))
              · intro ρ w' E
                have e9 : ρ (.tmp 9) = .int .i64 8 := E.out 9 rfl
                refine step_plain rfl ?_
                exact op_move (.inl rfl) e9 ⟨Below.refl _ _, rfl⟩
              · intro ρ w' E
                have e125 : ρ (.tmp 125) = .int .i64 8 := E.pre 0 rfl
                refine step_plain rfl ?_
                refine op_val (v := .bool true) (w' := w') ?_ ⟨Below.refl _ _, rfl⟩
                have hcon := E.con
                clear E
                go_simp
              · intro ρ w' E
                have e126 : ρ (.tmp 126) = .bool true := E.pre 1 rfl
                refine step_plain rfl ?_
                exact op_move (.inl rfl) e126 ⟨Below.refl _ _, rfl⟩
              · intro ρ w' E
                have e8 : ρ (.tmp 8) = .pointer (some ⟨d, 0, none⟩) := E.out 8 rfl
                refine step_yes rfl (E.pre 2 rfl) ?_
                exact op_move (.inl rfl) e8 ⟨Below.refl _ _, rfl⟩
              · intro ρ w' E
                have e128 : ρ (.tmp 128) = .pointer (some ⟨d, 0, none⟩) := E.pre 3 rfl
                refine step_yes rfl (E.pre 2 rfl) ?_
                refine op_val (v := .pointer (some ⟨d, 0, none⟩)) (w' := w') ?_ ⟨Below.refl _ _, rfl⟩
                have hcon := E.con
                clear E
                go_simp
              · intro ρ w' E
                have e129 : ρ (.tmp 129) = .pointer (some ⟨d, 0, none⟩) := E.pre 4 rfl
                refine step_yes rfl (E.pre 2 rfl) ?_
                refine op_val (v := .pointer (some ⟨d, 0, none⟩)) (w' := w') ?_ ⟨Below.refl _ _, rfl⟩
                have hcon := E.con
                clear E
                go_simp
              · intro ρ w' E
                have e130 : ρ (.tmp 130) = .pointer (some ⟨d, 0, none⟩) := E.pre 5 rfl
                refine step_yes rfl (E.pre 2 rfl) ?_
                refine op_call (f := 23) (args := #[.pointer (some ⟨d, 0, none⟩)]) (w' := w') (by have hcon := E.con; have hfn := E.fn; clear E; go_simp) ?_
                refine (drv_placeP w' (HD.out.ext E.below)).mono ?_
                rintro e wz ⟨rfl, rfl⟩
                exact ⟨_, rfl, Below.refl _ _, rfl⟩
              · intro ρ w' E
                have e3 : ρ (.tmp 3) = .pointer (some ⟨w.heap.size, 0, none⟩) := E.out 3 rfl
                refine step_yes rfl (E.pre 2 rfl) ?_
                refine op_val (v := .pointer (some ⟨w.heap.size, 1, none⟩)) (w' := w') ?_ ⟨Below.refl _ _, rfl⟩
                have hcon := E.con
                clear E
                go_simp
              · intro ρ w' E
                have e132 : ρ (.tmp 132) = .pointer (some ⟨w.heap.size, 1, none⟩) := E.pre 7 rfl
                refine step_yes rfl (E.pre 2 rfl) ?_
                refine op_val (v := .slice a n c) (w' := w') ?_ ⟨Below.refl _ _, rfl⟩
                obtain ⟨k0, k1⟩ := (T.out.ext E.below).box.cells
                have hcon := E.con
                clear E
                go_simp
              · intro ρ w' E
                have e133 : ρ (.tmp 133) = .slice a n c := E.pre 8 rfl
                refine step_yes rfl (E.pre 2 rfl) ?_
                refine op_val (v := .int .i64 (n : Int)) (w' := w') ?_ ⟨Below.refl _ _, rfl⟩
                have hcon := E.con
                clear E
                go_simp
              · intro ρ w' E
                have e131 : ρ (.tmp 131) = .int .i64 (n : Int) := E.pre 6 rfl
                have e134 : ρ (.tmp 134) = .int .i64 (n : Int) := E.pre 9 rfl
                refine step_yes rfl (E.pre 2 rfl) ?_
                refine op_val (v := .bool true) (w' := w') ?_ ⟨Below.refl _ _, rfl⟩
                have hcon := E.con
                clear E
                go_simp
              · intro ρ w' E
                have e127 : ρ (.tmp 127) = .bool true := E.pre 2 rfl
                have e135 : ρ (.tmp 135) = .bool true := E.pre 10 rfl
                refine step_plain rfl ?_
                exact op_pick (b := true) rfl e127 rfl ⟨Below.refl _ _, e135⟩
              · intro ρ w' E
                have e136 : ρ (.tmp 136) = .bool true := E.pre 11 rfl
                refine step_plain rfl ?_
                exact op_move (.inl rfl) e136 ⟨Below.refl _ _, rfl⟩
              · intro ρ w' E
                refine step_yes rfl (E.pre 12 rfl) ?_
                refine op_call (f := 26) (args := #[]) (w' := w') (by have hcon := E.con; have hfn := E.fn; clear E; go_simp) ?_
                refine (wakes12_any w').mono ?_
                rintro e wz ⟨rfl, hbz⟩
                exact ⟨_, rfl, hbz, rfl⟩
              · intro ρ w' E
                have e137 : ρ (.tmp 137) = .bool true := E.pre 12 rfl
                have e138 : ρ (.tmp 138) = .bool true := E.pre 13 rfl
                refine step_plain rfl ?_
                exact op_pick (b := true) rfl e137 rfl ⟨Below.refl _ _, e138⟩
              · intro ρ w' E
                have e139 : ρ (.tmp 139) = .bool true := E.pre 14 rfl
                refine step_plain rfl ?_
                exact op_move (.inr rfl) e139 ⟨Below.refl _ _, rfl⟩
            · intro σ wZ hb hall
              have h6 : σ 6 = .bool true := by obtain ⟨_, _, _, _, _, _, _, _, _, _, _, _, _, _, _, h, _⟩ := hall; exact h
              clear hall
              simp only [upd, updL, dstsOf', elemB, List.filterMap_cons, List.filterMap_nil, Nat.reduceAdd, Nat.reduceBEq, Bool.or_false, Bool.false_or, Bool.or_true, Bool.true_or, cond_true, cond_false, Nat.zero_add, h6]
              have HBb := Lib.hid (bthen HB.out (bthen HBvA.out hb (Nat.le_refl _)) (Nat.le_refl _))
              clear hb h6
              go_wp2
              go_ret
              exact ⟨rfl, HBb.out⟩
          · have hlo := HL.out
            rw [if_neg (by simp; omega), Int.toNat_natCast] at hlo
            have HL2 := Lib.hid hlo
            have hgt : ¬ (n : Int) < (R : Int) + (bk : Int) := by omega
            have hRbk : R + bk ≤ n := by omega
            clear hlo HL hR0
            go_wp2_with fail
            clear d0 d1
            go_loopw [17] (fun i wx => ∃ (j : Nat) (wr : World), wr = wx ∧ j ≤ bk ∧ i = .int .i64 ((R : Int) + (j : Int)) ∧ (((medOf cap cs).cells.drop R).take j).any isMark = false ∧ DrvP w3.heap.size wr d g ⟨cap, pls cs⟩ al PS.new ∧ Below w3.heap.size w3 wr) (fun i _ => R + bk - (intOf i).toNat)
            case atStart => exact ⟨0, _, rfl, by omega, by simp, rfl, HDA.out, HBvA.out⟩
            case round =>
              obtain ⟨j, wr, hwr, hj, rfl, han, hA, hbr⟩ := hrel
              subst hwr
              clear HDA HBvA TA
              have HD := Lib.hid hA
              have HBv := Lib.hid hbr
              have T := Lib.hid (T0.out.ext hbr)
              have Han := Lib.hid han
              clear hA hbr han
              obtain ⟨d0, d1⟩ := T.out.box.cells
              dsimp only at d0 d1
              by_cases hjb : j < bk
              · have hjb' : (R : Int) + (j : Int) < (R : Int) + (bk : Int) := by omega
                have hjl : R + j < (medOf cap cs).cells.length := by rw [Hml.out]; omega
                have hrm := read_mark Hok.out hjl
                have hjm : j < ((medOf cap cs).cells.drop R).length := by rw [List.length_drop]; omega
                have htk : (((medOf cap cs).cells.drop R).take (j + 1)).any isMark = isMark (medOf cap cs).cells[R + j] := by
                  rw [take_succ_list _ j hjm, List.any_append, Han.out, Bool.false_or, List.getElem_drop]
                  simp
                obtain ⟨⟨L1, E1⟩, hRR⟩ : ∃ x, x = (medOf cap cs).read ((R + j : Nat) : Int) := ⟨_, rfl⟩
                rw [← hRR] at hrm
                have HRR := Lib.hid hRR.symm
                have Htk := Lib.hid htk
                have Hrm := Lib.hid hrm
                have Hjm := Lib.hid hjm
                clear hRR htk hrm hjm
                go_wp2_with fail
                clear d0 d1
                refine (read_any cap a c n cs ((R : Int) + (j : Int)) L1 E1 wr T.out.mat Hn.out (by omega) Hx.out (by rw [show (R : Int) + (j : Int) = ((R + j : Nat) : Int) by omega]; exact HRR.out)).mono ?_
                rintro e wB ⟨aB, cB, kB, rfl, _, _, hb⟩
                have HDB := Lib.hid (HD.out.ext hb)
                have HBvB := Lib.hid (bthen HBv.out hb (Nat.le_refl _))
                clear hb HD HBv T
                by_cases h15 : E1 = 15
                · subst h15
                  have hall : (((medOf cap cs).cells.drop R).take bk).any isMark = true := by
                    have h1 : (((medOf cap cs).cells.drop R).take (j + 1)).any isMark = true := by
                      rw [Htk.out]
                      unfold isMark
                      rw [decide_eq_true_eq]
                      exact Hrm.out.1 rfl
                    rw [List.any_eq_true] at h1 ⊢
                    obtain ⟨y, hy, hm⟩ := h1
                    refine ⟨y, ?_, hm⟩
                    rw [show ((medOf cap cs).cells.drop R).take (j + 1) = (((medOf cap cs).cells.drop R).take bk).take (j + 1) by rw [List.take_take, Nat.min_eq_left (by omega)]] at hy
                    exact List.mem_of_mem_take hy
                  have hlo := HL2.out
                  rw [if_pos hall] at hlo
                  simp only [Prod.mk.injEq] at hlo
                  obtain ⟨rfl, rfl⟩ := hlo
                  clear hall
                  go_wp2_with fail
                  refine (wakes12_any wB).mono ?_
                  rintro e wC ⟨rfl, hb⟩
                  have HBb := Lib.hid (bthen HB.out (bthen HBvB.out hb (Nat.le_refl _)) (Nat.le_refl _))
                  clear hb
                  go_wp2
                  go_ret
                  exact ⟨rfl, HBb.out⟩
                · have e15 : (E1 == 15) = false := by simpa using h15
                  have Hn15 : Hid ((((medOf cap cs).cells.drop R).take (j + 1)).any isMark = false) := Lib.hid (by
                    rw [Htk.out]
                    unfold isMark
                    rw [decide_eq_false_iff_not]
                    exact fun h => h15 (Hrm.out.2 h))
                  clear h15
                  go_wp2_with fail
                  go_roundw
                  case rel => exact ⟨j + 1, _, rfl, by omega, by go_num, Hn15.out, HDB.out, HBvB.out⟩
                  case measure => simp [intOf]; omega
              · obtain rfl : j = bk := by omega
                have hlo := HL2.out
                rw [if_neg (by rw [Han.out]; decide)] at hlo
                simp only [Prod.mk.injEq] at hlo
                obtain ⟨rfl, rfl⟩ := hlo
                clear d0 d1
                go_wp2_with fail
                refine (drv_placeP wr HD.out).mono ?_
                rintro e wB ⟨rfl, rfl⟩
                go_wp2_with fail
                refine (wakes12_any wr).mono ?_
                rintro e wC ⟨rfl, hb⟩
                have HBb := Lib.hid (bthen HB.out (bthen HBv.out hb (Nat.le_refl _)) (Nat.le_refl _))
                clear hb
                go_wp2
                go_ret
                exact ⟨rfl, HBb.out⟩
        · have hE : Ef = 8 := hE
          have hR : Rf = 0 := hR
          subst hE hR
          have hlo := HL.out
          rw [if_pos (.inl (by decide))] at hlo
          simp only [Prod.mk.injEq] at hlo
          obtain ⟨rfl, rfl⟩ := hlo
          clear HL
          have T := TA
          have HD := HDA
          clear TA HDA
          go_wp2_with fail
          clear d0 d1
          refine wp_region_sp (by kernel_rfl) [Sp.eq (.int .i64 8), Sp.eq (.bool true), Sp.eq (.bool true), Sp.eq (.pointer (some ⟨d, 0, none⟩)), Sp.eq (.pointer (some ⟨d, 0, none⟩)), Sp.eq (.pointer (some ⟨d, 0, none⟩)), Sp.eq (.int .i64 (n : Int)), Sp.eq (.pointer (some ⟨w.heap.size, 1, none⟩)), Sp.eq (.slice a n c), Sp.eq (.int .i64 (n : Int)), Sp.eq (.bool true), Sp.eq (.bool true), Sp.eq (.bool true), Sp.eq (.bool true), Sp.eq (.bool true), Sp.eq (.bool true)] (by kernel_rfl) ?_ ?_
          · refine stepsOk_cons ?_ (stepsOk_cons ?_ (stepsOk_cons ?_ (stepsOk_cons ?_ (stepsOk_cons ?_ (stepsOk_cons ?_ (stepsOk_cons ?_ (stepsOk_cons ?_ (stepsOk_cons ?_ (stepsOk_cons ?_ (stepsOk_cons ?_ (stepsOk_cons ?_ (stepsOk_cons ?_ (stepsOk_cons ?_ (stepsOk_cons ?_ (stepsOk_cons ?_ (stepsOk_nil))))))))))))))))
            · intro ρ w' E
              have e9 : ρ (.tmp 9) = .int .i64 8 := E.out 9 rfl
              refine step_plain rfl ?_
              exact op_move (.inl rfl) e9 ⟨Below.refl _ _, rfl⟩
            · intro ρ w' E
              have e125 : ρ (.tmp 125) = .int .i64 8 := E.pre 0 rfl
              refine step_plain rfl ?_
              refine op_val (v := .bool true) (w' := w') ?_ ⟨Below.refl _ _, rfl⟩
              have hcon := E.con
              clear E
              go_simp
            · intro ρ w' E
              have e126 : ρ (.tmp 126) = .bool true := E.pre 1 rfl
              refine step_plain rfl ?_
              exact op_move (.inl rfl) e126 ⟨Below.refl _ _, rfl⟩
            · intro ρ w' E
              have e8 : ρ (.tmp 8) = .pointer (some ⟨d, 0, none⟩) := E.out 8 rfl
              refine step_yes rfl (E.pre 2 rfl) ?_
              exact op_move (.inl rfl) e8 ⟨Below.refl _ _, rfl⟩
            · intro ρ w' E
              have e128 : ρ (.tmp 128) = .pointer (some ⟨d, 0, none⟩) := E.pre 3 rfl
              refine step_yes rfl (E.pre 2 rfl) ?_
              refine op_val (v := .pointer (some ⟨d, 0, none⟩)) (w' := w') ?_ ⟨Below.refl _ _, rfl⟩
              have hcon := E.con
              clear E
              go_simp
            · intro ρ w' E
              have e129 : ρ (.tmp 129) = .pointer (some ⟨d, 0, none⟩) := E.pre 4 rfl
              refine step_yes rfl (E.pre 2 rfl) ?_
              refine op_val (v := .pointer (some ⟨d, 0, none⟩)) (w' := w') ?_ ⟨Below.refl _ _, rfl⟩
              have hcon := E.con
              clear E
              go_simp
            · intro ρ w' E
              have e130 : ρ (.tmp 130) = .pointer (some ⟨d, 0, none⟩) := E.pre 5 rfl
              refine step_yes rfl (E.pre 2 rfl) ?_
              refine op_call (f := 23) (args := #[.pointer (some ⟨d, 0, none⟩)]) (w' := w') (by have hcon := E.con; have hfn := E.fn; clear E; go_simp) ?_
              refine (drv_placeP w' (HD.out.ext E.below)).mono ?_
              rintro e wz ⟨rfl, rfl⟩
              exact ⟨_, rfl, Below.refl _ _, rfl⟩
            · intro ρ w' E
              have e3 : ρ (.tmp 3) = .pointer (some ⟨w.heap.size, 0, none⟩) := E.out 3 rfl
              refine step_yes rfl (E.pre 2 rfl) ?_
              refine op_val (v := .pointer (some ⟨w.heap.size, 1, none⟩)) (w' := w') ?_ ⟨Below.refl _ _, rfl⟩
              have hcon := E.con
              clear E
              go_simp
            · intro ρ w' E
              have e132 : ρ (.tmp 132) = .pointer (some ⟨w.heap.size, 1, none⟩) := E.pre 7 rfl
              refine step_yes rfl (E.pre 2 rfl) ?_
              refine op_val (v := .slice a n c) (w' := w') ?_ ⟨Below.refl _ _, rfl⟩
              obtain ⟨k0, k1⟩ := (T.out.ext E.below).box.cells
              have hcon := E.con
              clear E
              go_simp
            · intro ρ w' E
              have e133 : ρ (.tmp 133) = .slice a n c := E.pre 8 rfl
              refine step_yes rfl (E.pre 2 rfl) ?_
              refine op_val (v := .int .i64 (n : Int)) (w' := w') ?_ ⟨Below.refl _ _, rfl⟩
              have hcon := E.con
              clear E
              go_simp
            · intro ρ w' E
              have e131 : ρ (.tmp 131) = .int .i64 (n : Int) := E.pre 6 rfl
              have e134 : ρ (.tmp 134) = .int .i64 (n : Int) := E.pre 9 rfl
              refine step_yes rfl (E.pre 2 rfl) ?_
              refine op_val (v := .bool true) (w' := w') ?_ ⟨Below.refl _ _, rfl⟩
              have hcon := E.con
              clear E
              go_simp
            · intro ρ w' E
              have e127 : ρ (.tmp 127) = .bool true := E.pre 2 rfl
              have e135 : ρ (.tmp 135) = .bool true := E.pre 10 rfl
              refine step_plain rfl ?_
              exact op_pick (b := true) rfl e127 rfl ⟨Below.refl _ _, e135⟩
            · intro ρ w' E
              have e136 : ρ (.tmp 136) = .bool true := E.pre 11 rfl
              refine step_plain rfl ?_
              exact op_move (.inl rfl) e136 ⟨Below.refl _ _, rfl⟩
            · intro ρ w' E
              refine step_yes rfl (E.pre 12 rfl) ?_
              refine op_call (f := 26) (args := #[]) (w' := w') (by have hcon := E.con; have hfn := E.fn; clear E; go_simp) ?_
              refine (wakes12_any w').mono ?_
              rintro e wz ⟨rfl, hbz⟩
              exact ⟨_, rfl, hbz, rfl⟩
            · intro ρ w' E
              have e137 : ρ (.tmp 137) = .bool true := E.pre 12 rfl
              have e138 : ρ (.tmp 138) = .bool true := E.pre 13 rfl
              refine step_plain rfl ?_
              exact op_pick (b := true) rfl e137 rfl ⟨Below.refl _ _, e138⟩
            · intro ρ w' E
              have e139 : ρ (.tmp 139) = .bool true := E.pre 14 rfl
              refine step_plain rfl ?_
              exact op_move (.inr rfl) e139 ⟨Below.refl _ _, rfl⟩
          · intro σ wZ hb hall
            have h6 : σ 6 = .bool true := by obtain ⟨_, _, _, _, _, _, _, _, _, _, _, _, _, _, _, h, _⟩ := hall; exact h
            clear hall
            simp only [upd, updL, dstsOf', elemB, List.filterMap_cons, List.filterMap_nil, Nat.reduceAdd, Nat.reduceBEq, Bool.or_false, Bool.false_or, Bool.or_true, Bool.true_or, cond_true, cond_false, Nat.zero_add, h6]
            have HBb := Lib.hid (bthen HB.out (bthen HBvA.out hb (Nat.le_refl _)) (Nat.le_refl _))
            clear hb h6
            go_wp2
            go_ret
            exact ⟨rfl, HBb.out⟩
end Go.Proofs.Ytilmldkaagbofaa
