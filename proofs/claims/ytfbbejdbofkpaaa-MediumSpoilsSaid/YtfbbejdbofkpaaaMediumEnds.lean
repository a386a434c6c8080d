/- The walk of MediumEnds. -/
import Derived.Test.YtfbbejdbofkpaaaMediumFiles
import Derived.Test.YtfbbejdbofkpaaaMedEnd
namespace Go.Proofs.Ytfbbejdbofkpaaa
open Go.RowKit

theorem Med.ok_take {m : Med} (h : m.ok = true) (p : Nat) : (Med.mk m.cap (m.cells.take p)).ok = true := by
  rw [Med.ok_iff] at h ⊢
  obtain ⟨⟨h1, h2, h3⟩, h4⟩ := h
  refine ⟨⟨h1, h2, ?_⟩, fun c hc => h4 c (List.mem_of_mem_take hc)⟩
  have : (m.cells.take p).length ≤ m.cells.length := by rw [List.length_take]; omega
  show ((m.cells.take p).length : Int) ≤ m.cap
  omega
theorem Med.end_ok {m : Med} (h : m.ok = true) {p : Nat} (hp : p ≤ m.cells.length) : m.end_ (p : Int) = (⟨m.cap, m.cells.take p⟩, 0) := by
  unfold Med.end_
  rw [if_neg (by rw [h]; simp; omega), Int.toNat_natCast]
theorem Med.read_past {m : Med} (h : m.ok = true) : m.read (m.cells.length : Int) = ([], 8) := by
  unfold Med.read Med.look
  rw [if_neg (by rw [h]; decide), if_pos (.inr (Int.le_refl _))]
theorem Med.files_ok {m : Med} (h : m.ok = true) : m.files = (marks m.cells : Int) := by
  unfold Med.files
  rw [if_neg (by rw [h]; decide)]
/-- What the law says of the cut tapes. -/
structure EndsP (m : Med) (p q : Nat) : Prop where
  e1 : m.end_ (p : Int) = (⟨m.cap, m.cells.take p⟩, 0)
  e2 : (Med.mk m.cap (m.cells.take p)).end_ (q : Int) = (⟨m.cap, m.cells.take q⟩, 0)
  e3 : m.end_ (q : Int) = (⟨m.cap, m.cells.take q⟩, 0)
  rd : (Med.mk m.cap (m.cells.take p)).read (p : Int) = ([], 8)
  fa : (Med.mk m.cap (m.cells.take p)).files = (marks (m.cells.take p) : Int)
  fm : m.files = (marks m.cells : Int)
  le : marks (m.cells.take p) ≤ marks m.cells
theorem endsP {m : Med} (h : m.ok = true) {p q : Nat} (hp : p ≤ m.cells.length) (hq : q ≤ p) : EndsP m p q := by
  have hk := Med.ok_take h p
  have hl : (m.cells.take p).length = p := by rw [List.length_take]; omega
  refine ⟨Med.end_ok h hp, ?_, Med.end_ok h (by omega), ?_, Med.files_ok hk, Med.files_ok h, ?_⟩
  · rw [Med.end_ok hk (by show q ≤ (m.cells.take p).length; omega)]
    show (Med.mk m.cap ((m.cells.take p).take q), (0 : Int)) = _
    rw [List.take_take, Nat.min_eq_left hq]
  · have := Med.read_past hk
    rwa [show (Med.mk m.cap (m.cells.take p)).cells.length = p from hl] at this
  · have := marks_mono m.cells hp
    rwa [List.take_length] at this

set_option maxRecDepth 100000 in
set_option maxHeartbeats 8000000 in
theorem mediumEnds_walk (w : World) (cap : Int) (a : Option Addr) (c : Nat) (cs : List CellV) (hs : CMat w a cs) (hl : cs.length ≤ 9223372036854775807) (hlc : cs.length ≤ c) (pI : Int) (wp : (Lit.int .i64 pI).wf = true) (qI : Int) (wq : (Lit.int .i64 qI).wf = true) :
    Calls Try.prog 8 #[.agg #[.int .i64 cap, .slice a cs.length c], .int .i64 pI, .int .i64 qI] w fun e w' => e = .returned (.bool true) ∧ Below w.heap.size w w' := by
  have Hs := Lib.hid hs
  obtain ⟨n, hn⟩ : ∃ n, n = cs.length := ⟨_, rfl⟩
  rw [← hn]
  have Hn := Lib.hid hn
  have hn2 : n ≤ 9223372036854775807 := by omega
  have Hnc : Hid (n ≤ c) := Lib.hid (by omega)
  have hbx : BoxM (w.alloc (.cells #[.int .i64 cap, .slice a n c] 60)) w.heap.size cap a n c := heap_alloc_new w _
  have hb1 := ext_alloc w (.cells #[.int .i64 cap, .slice a n c] 60)
  clear hs hl hn hlc wp wq
  go_enter Try.func8, Try.ntmps8
  go_wp2_with fail
  refine (heavy07 cap a c n cs _ (Hs.out.ext hb1) Hn.out hn2).mono ?_
  rintro e w2 (⟨rfl, hb2⟩ | ⟨rfl, hb2, hlight⟩)
  · go_wp2
    go_ret
    exact ⟨rfl, bthen hb1 hb2 (Nat.le_refl _)⟩
  · have hb02 := bthen hb1 hb2 (Nat.le_refl _)
    have B2 := Lib.hid (hbx.ext hb2)
    have Hli := Lib.hid hlight
    clear hbx hb1 hb2 hlight
    obtain ⟨d0, d1⟩ := B2.out.cells
    go_wp2_with fail
    refine (refmed_any cap a c n cs (medOf cap cs).ok w2 (Hs.out.ext hb02) Hn.out hn2 rfl).mono ?_
    rintro e w3 ⟨rfl, hb3⟩
    have hb03 := bthen hb02 hb3 (Nat.le_refl _)
    have B3 := Lib.hid (B2.out.ext hb3)
    clear hb3 hb02 d0 d1
    cases hok : (medOf cap cs).ok with
    | false =>
      go_wp2
      go_ret
      exact ⟨rfl, hb03⟩
    | true =>
      have hnn : n ≤ 80 := by rw [Hn.out]; exact Hli.out.1
      have Hx : Hid (∀ x ∈ cs, x.d.l.length ≤ 140737488355328) := Lib.hid fun x hx => by have := Hli.out.2 x hx; omega
      have Hml : Hid ((medOf cap cs).cells.length = n) := Lib.hid (by rw [Hn.out]; exact pls_length cs)
      obtain ⟨p, hp, ep⟩ := umod pI ((n : Int) + 1) (by omega) (by omega)
      obtain ⟨q, hq, eq⟩ := umod qI ((p : Int) + 1) (by omega) (by omega)
      have HP := Lib.hid (endsP hok (p := p) (q := q) (by rw [Hml.out]; omega) (by omega))
      have Hq := Lib.hid eq
      have hqp : q ≤ p := by omega
      have hpn : p ≤ n := by omega
      obtain ⟨d0, d1⟩ := B3.out.cells
      clear hok eq hq hp
      go_wp2_with fail
      rw [ep]
      clear ep d0 d1
      refine (end_any cap a c n cs (p : Int) ⟨cap, (pls cs).take p⟩ 0 w3 (Hs.out.ext hb03) Hn.out (by omega) Hx.out Hnc.out HP.out.e1).mono ?_
      rintro e w4 ⟨a4, c4, k4, cs4, rfl, hM4, hc4, hb4⟩
      have hk4 : p = k4 := by rw [← hM4.len, ← pls_length, hM4.pls, List.length_take, pls_length, ← Hn.out]; omega
      subst hk4
      obtain ⟨G, hG⟩ : ∃ G, G = w4.heap.size := ⟨_, rfl⟩
      have hb04 := bthen hb03 hb4 (Nat.le_refl _)
      have hGw : w.heap.size ≤ G := by rw [hG]; exact hb04.size
      have hg4 := heap_alloc_new w4 (.cells #[.int .i64 0, .slice none 0 0] 60)
      have hS4 := bsetRow (ext_alloc w4 (.cells #[.int .i64 0, .slice none 0 0] 60)) (Nat.le_refl _) #[.int .i64 cap, .slice a4 p c4]
      have BG5 : Hid (BoxM _ G cap a4 p c4) := Lib.hid (by rw [hG]; exact setRow_heap (w4.alloc (.cells #[.int .i64 0, .slice none 0 0] 60)) w4.heap.size _ #[.int .i64 cap, .slice a4 p c4] _ _ hg4)
      have B5 := Lib.hid ((B3.out.ext hb4).ext hS4)
      have HM5 := Lib.hid ((hM4.ext hS4).mono hb03.size)
      have Hs5 := Lib.hid ((Hs.out.ext hb04).ext hS4)
      have hb05 := bthen hb04 hS4 (Nat.le_refl _)
      obtain ⟨FA, hFA⟩ : ∃ F, F = marks ((medOf cap cs).cells.take p) := ⟨_, rfl⟩
      obtain ⟨FM, hFM⟩ : ∃ F, F = marks (medOf cap cs).cells := ⟨_, rfl⟩
      have HFM : Hid ((medOf cap cs).files = (FM : Int)) := Lib.hid (by rw [HP.out.fm, hFM])
      have HFA : Hid ((medOf cap cs4).files = (FA : Int)) := Lib.hid (by rw [show medOf cap cs4 = _ from hM4.of]; exact HP.out.fa.trans (by rw [hFA]))
      have hle : FA ≤ FM := by rw [hFA, hFM]; exact HP.out.le
      clear hFA hFM hM4 hb4 hb03 hb04 hS4
      subst hG
      go_wp2_with (refine wpList_store_row rfl rfl 60 (.tmp 7) (.tmp 34) rfl w4.heap.size rfl 60 #[.int .i64 0, .slice none 0 0] #[.int .i64 cap, .slice a4 p c4] rfl hg4 rfl (by kernel_rfl) (by simp [Value.oneCell']) ?_)
      generalize hw5 : World.setRow _ _ _ = w5 at *
      generalize w4.heap.size = G at *
      clear hw5 hg4
      obtain ⟨d0, d1⟩ := B5.out.cells
      obtain ⟨g0, g1⟩ := BG5.out.cells
      refine wp_region_sp (by kernel_rfl) [Sp.eq (.int .i64 0), Sp.eq (.bool false), Sp.eq (.bool false), Sp.eq (.pointer (some ⟨G, 1, none⟩)), Sp.eq (.slice a4 p c4), Sp.eq (.int .i64 (p : Int)), Sp.eq (.int .i64 (p : Int)), Sp.eq (.bool false), Sp.eq (.bool false), Sp.eq (.bool false), Sp.eq (.agg #[.int .i64 cap, .slice a4 p c4]), Sp.eq (.int .i64 (FA : Int)), Sp.eq (.agg #[.int .i64 cap, .slice a n c]), Sp.eq (.int .i64 (FM : Int)), Sp.eq (.bool false), Sp.eq (.bool false)] (by kernel_rfl) ?_ ?_
      · refine stepsOk_cons ?_ (stepsOk_cons ?_ (stepsOk_cons ?_ (stepsOk_cons ?_ (stepsOk_cons ?_ (stepsOk_cons ?_ (stepsOk_cons ?_ (stepsOk_cons ?_ (stepsOk_cons ?_ (stepsOk_cons ?_ (stepsOk_cons ?_ (stepsOk_cons ?_ (stepsOk_cons ?_ (stepsOk_cons ?_ (stepsOk_cons ?_ (stepsOk_cons ?_ (stepsOk_nil))))))))))))))))
        · intro ρ w' E
          have e8 : ρ (.tmp 8) = .int .i64 0 := E.out 8 rfl
          refine step_plain rfl ?_
          exact op_move (.inl rfl) e8 ⟨Below.refl _ _, rfl⟩
        · intro ρ w' E
          have e36 : ρ (.tmp 36) = .int .i64 0 := E.pre 0 rfl
          refine step_plain rfl ?_
          refine op_val (v := .bool false) (w' := w') ?_ ⟨Below.refl _ _, rfl⟩
          have hcon := E.con
          clear E
          go_simp
        · intro ρ w' E
          have e37 : ρ (.tmp 37) = .bool false := E.pre 1 rfl
          refine step_plain rfl ?_
          exact op_move (.inl rfl) e37 ⟨Below.refl _ _, rfl⟩
        · intro ρ w' E
          have e7 : ρ (.tmp 7) = .pointer (some ⟨G, 0, none⟩) := E.out 7 rfl
          refine step_yes rfl (E.pre 2 rfl) ?_
          refine op_val (v := .pointer (some ⟨G, 1, none⟩)) (w' := w') ?_ ⟨Below.refl _ _, rfl⟩
          have hcon := E.con
          clear E
          go_simp
        · intro ρ w' E
          have e39 : ρ (.tmp 39) = .pointer (some ⟨G, 1, none⟩) := E.pre 3 rfl
          refine step_yes rfl (E.pre 2 rfl) ?_
          refine op_val (v := .slice a4 p c4) (w' := w') ?_ ⟨Below.refl _ _, rfl⟩
          obtain ⟨k0, k1⟩ := (BG5.out.ext E.below).cells
          have hcon := E.con
          clear E d0 d1 g0 g1
          go_simp
        · intro ρ w' E
          have e40 : ρ (.tmp 40) = .slice a4 p c4 := E.pre 4 rfl
          refine step_yes rfl (E.pre 2 rfl) ?_
          refine op_val (v := .int .i64 (p : Int)) (w' := w') ?_ ⟨Below.refl _ _, rfl⟩
          have hcon := E.con
          clear E
          go_simp
        · intro ρ w' E
          have e1 : ρ (.tmp 1) = .int .i64 (p : Int) := E.out 1 rfl
          refine step_yes rfl (E.pre 2 rfl) ?_
          exact op_move (.inl rfl) e1 ⟨Below.refl _ _, rfl⟩
        · intro ρ w' E
          have e41 : ρ (.tmp 41) = .int .i64 (p : Int) := E.pre 5 rfl
          have e42 : ρ (.tmp 42) = .int .i64 (p : Int) := E.pre 6 rfl
          refine step_yes rfl (E.pre 2 rfl) ?_
          refine op_val (v := .bool false) (w' := w') ?_ ⟨Below.refl _ _, rfl⟩
          have hcon := E.con
          clear E
          go_simp
        · intro ρ w' E
          have e38 : ρ (.tmp 38) = .bool false := E.pre 2 rfl
          have e43 : ρ (.tmp 43) = .bool false := E.pre 7 rfl
          refine step_plain rfl ?_
          exact op_pick (b := false) rfl e38 rfl ⟨Below.refl _ _, e43⟩
        · intro ρ w' E
          have e44 : ρ (.tmp 44) = .bool false := E.pre 8 rfl
          refine step_plain rfl ?_
          exact op_move (.inl rfl) e44 ⟨Below.refl _ _, rfl⟩
        · intro ρ w' E
          have e7 : ρ (.tmp 7) = .pointer (some ⟨G, 0, none⟩) := E.out 7 rfl
          refine step_yes rfl (E.pre 9 rfl) ?_
          refine op_val (v := .agg #[.int .i64 cap, .slice a4 p c4]) (w' := w') ?_ ⟨Below.refl _ _, rfl⟩
          obtain ⟨k0, k1⟩ := (BG5.out.ext E.below).cells
          have hcon := E.con
          clear E d0 d1 g0 g1
          go_simp
        · intro ρ w' E
          have e46 : ρ (.tmp 46) = .agg #[.int .i64 cap, .slice a4 p c4] := E.pre 10 rfl
          refine step_yes rfl (E.pre 9 rfl) ?_
          refine op_call (f := 41) (args := #[.agg #[.int .i64 cap, .slice a4 p c4]]) (w' := w') (by have hcon := E.con; have hfn := E.fn; clear E; go_simp) ?_
          refine (files_any cap a4 c4 p cs4 (FA : Int) w' (HM5.out.mat.ext E.below) HM5.out.len.symm (by omega) HFA.out).mono ?_
          rintro e wz ⟨rfl, hbz⟩
          exact ⟨_, rfl, hbz, rfl⟩
        · intro ρ w' E
          have e3 : ρ (.tmp 3) = .pointer (some ⟨w.heap.size, 0, none⟩) := E.out 3 rfl
          refine step_yes rfl (E.pre 9 rfl) ?_
          refine op_val (v := .agg #[.int .i64 cap, .slice a n c]) (w' := w') ?_ ⟨Below.refl _ _, rfl⟩
          obtain ⟨k0, k1⟩ := (B5.out.ext E.below).cells
          have hcon := E.con
          clear E d0 d1 g0 g1
          go_simp
        · intro ρ w' E
          have e48 : ρ (.tmp 48) = .agg #[.int .i64 cap, .slice a n c] := E.pre 12 rfl
          refine step_yes rfl (E.pre 9 rfl) ?_
          refine op_call (f := 41) (args := #[.agg #[.int .i64 cap, .slice a n c]]) (w' := w') (by have hcon := E.con; have hfn := E.fn; clear E; go_simp) ?_
          refine (files_any cap a c n cs (FM : Int) w' (Hs5.out.ext E.below) Hn.out hn2 HFM.out).mono ?_
          rintro e wz ⟨rfl, hbz⟩
          exact ⟨_, rfl, hbz, rfl⟩
        · intro ρ w' E
          have e47 : ρ (.tmp 47) = .int .i64 (FA : Int) := E.pre 11 rfl
          have e49 : ρ (.tmp 49) = .int .i64 (FM : Int) := E.pre 13 rfl
          refine step_yes rfl (E.pre 9 rfl) ?_
          refine op_val (v := .bool false) (w' := w') ?_ ⟨Below.refl _ _, rfl⟩
          have hcon := E.con
          clear E
          go_simp
        · intro ρ w' E
          have e45 : ρ (.tmp 45) = .bool false := E.pre 9 rfl
          have e50 : ρ (.tmp 50) = .bool false := E.pre 14 rfl
          refine step_plain rfl ?_
          exact op_pick (b := false) rfl e45 rfl ⟨Below.refl _ _, e50⟩
      · intro σ w6 hb56 hall
        have h51 : σ 51 = .bool false := by obtain ⟨_, _, _, _, _, _, _, _, _, _, _, _, _, _, _, h, _⟩ := hall; exact h
        clear hall
        simp only [upd, updL, dstsOf', elemB, List.filterMap_cons, List.filterMap_nil, Nat.reduceAdd, Nat.reduceBEq, Bool.or_false, Bool.false_or, Bool.or_true, Bool.true_or, cond_true, cond_false, Nat.zero_add, h51]
        have hb06 := bthen hb05 hb56 (Nat.le_refl _)
        have HM6 := Lib.hid (HM5.out.ext hb56)
        have Hs6 := Lib.hid (Hs5.out.ext hb56)
        have B6 := Lib.hid (B5.out.ext hb56)
        have BG6 := Lib.hid (BG5.out.ext hb56)
        clear hb56 hb05 d0 d1 g0 g1 B5 BG5 HM5 Hs5 h51
        obtain ⟨g0, g1⟩ := BG6.out.cells
        go_wp2_with fail
        rw [Hq.out]
        clear Hq g0 g1
        have hx4 := Lib.hid (HM6.out.short (K := 140737488355328) (fun x hx => by
          have h1 : x ∈ pls cs := List.mem_of_mem_take hx
          obtain ⟨y, hy, rfl⟩ := List.mem_map.1 h1
          exact Hx.out y hy))
        refine (end_any cap a4 c4 p cs4 (q : Int) ⟨cap, (pls cs).take q⟩ 0 w6 HM6.out.mat HM6.out.len.symm (by omega) hx4.out hc4 (by rw [show medOf cap cs4 = _ from HM6.out.of]; exact HP.out.e2)).mono ?_
        rintro e w7 ⟨a7, c7, k7, cs7, rfl, hM7, hc7, hb7⟩
        have hk7 : q = k7 := by rw [← hM7.len, ← pls_length, hM7.pls, List.length_take, pls_length, ← Hn.out]; omega
        subst hk7
        have hb07 := bthen hb06 hb7 (Nat.le_refl _)
        have hg7 := heap_alloc_new w7 (.cells #[.int .i64 0, .slice none 0 0] 60)
        have hS7 := bsetRow (ext_alloc w7 (.cells #[.int .i64 0, .slice none 0 0] 60)) (Nat.le_refl _) #[.int .i64 cap, .slice a7 q c7]
        have BH8 := Lib.hid (setRow_heap (w7.alloc (.cells #[.int .i64 0, .slice none 0 0] 60)) w7.heap.size _ #[.int .i64 cap, .slice a7 q c7] _ _ hg7)
        have B8 := Lib.hid ((B6.out.ext hb7).ext hS7)
        have BG8 := Lib.hid ((BG6.out.ext hb7).ext hS7)
        have HM8 := Lib.hid ((HM6.out.ext hb7).ext hS7)
        have HN8 := Lib.hid ((hM7.ext hS7).mono hb06.size)
        have Hs8 := Lib.hid ((Hs6.out.ext hb7).ext hS7)
        have hb08 := bthen hb07 hS7 (Nat.le_refl _)
        clear hM7 hb7 hb06 hb07 hS7 B6 BG6 HM6 Hs6
        obtain ⟨d0, d1⟩ := B8.out.cells
        go_wp2_with (refine wpList_store_row rfl rfl 60 (.tmp 9) (.tmp 63) rfl w7.heap.size rfl 60 #[.int .i64 0, .slice none 0 0] #[.int .i64 cap, .slice a7 q c7] rfl hg7 rfl (by kernel_rfl) (by simp [Value.oneCell']) ?_)
        generalize hw8 : World.setRow _ _ _ = w8 at *
        generalize w7.heap.size = H at *
        have BH8 : Hid (BoxM w8 H cap a7 q c7) := BH8
        clear hw8 hg7 d0 d1
        refine (end_any cap a c n cs (q : Int) ⟨cap, (pls cs).take q⟩ 0 w8 Hs8.out Hn.out (by omega) Hx.out Hnc.out HP.out.e3).mono ?_
        rintro e w9 ⟨a9, c9, k9, cs9, rfl, hM9, hc9, hb9⟩
        have hk9 : q = k9 := by rw [← hM9.len, ← pls_length, hM9.pls, List.length_take, pls_length, ← Hn.out]; omega
        subst hk9
        have hb09 := bthen hb08 hb9 (Nat.le_refl _)
        have hg9 := heap_alloc_new w9 (.cells #[.int .i64 0, .slice none 0 0] 60)
        have hS9 := bsetRow (ext_alloc w9 (.cells #[.int .i64 0, .slice none 0 0] 60)) (Nat.le_refl _) #[.int .i64 cap, .slice a9 q c9]
        have BI10 := Lib.hid (setRow_heap (w9.alloc (.cells #[.int .i64 0, .slice none 0 0] 60)) w9.heap.size _ #[.int .i64 cap, .slice a9 q c9] _ _ hg9)
        have BG10 := Lib.hid ((BG8.out.ext hb9).ext hS9)
        have BH10 := Lib.hid ((BH8.out.ext hb9).ext hS9)
        have HM10 := Lib.hid ((HM8.out.ext hb9).ext hS9)
        have HN10 := Lib.hid ((HN8.out.ext hb9).ext hS9)
        have HO10 := Lib.hid (hM9.ext hS9)
        have hb10 := bthen hb09 hS9 (Nat.le_refl _)
        clear hM9 hb9 hb08 hb09 hS9 B8 BG8 HM8 Hs8 BH8 HN8
        obtain ⟨g0, g1⟩ := BG10.out.cells
        go_wp2_with (refine wpList_store_row rfl rfl 60 (.tmp 10) (.tmp 69) rfl w9.heap.size rfl 60 #[.int .i64 0, .slice none 0 0] #[.int .i64 cap, .slice a9 q c9] rfl hg9 rfl (by kernel_rfl) (by simp [Value.oneCell']) ?_)
        generalize hw10 : World.setRow _ _ _ = w10 at *
        generalize w9.heap.size = I at *
        have BI10 : Hid (BoxM w10 I cap a9 q c9) := BI10
        clear hw10 hg9 g0 g1
        refine (read_any cap a4 c4 p cs4 (p : Int) [] 8 w10 HM10.out.mat HM10.out.len.symm (by omega) hx4.out (by rw [show medOf cap cs4 = _ from HM10.out.of]; exact HP.out.rd)).mono ?_
        rintro e w11 ⟨a11, c11, k11, rfl, _, _, hb11⟩
        have HN11 := Lib.hid (HN10.out.ext hb11)
        have HO11 := Lib.hid (HO10.out.ext hb11)
        have BH11 := Lib.hid (BH10.out.ext hb11)
        have BI11 := Lib.hid (BI10.out.ext hb11)
        have hb011 := bthen hb10 hb11 (Nat.le_refl _)
        clear hb11 hb10 HN10 HO10 BH10 BI10 BG10 HM10
        obtain ⟨h0, h1⟩ := BH11.out.cells
        obtain ⟨i0, i1⟩ := BI11.out.cells
        go_wp2_with fail
        refine (keepmed_any cap cap a7 a9 c7 q c9 q cs7 cs9 true w11 HN11.out.mat HO11.out.mat HN11.out.len.symm HO11.out.len.symm (by omega) (by omega) (by rw [HN11.out.pls, HO11.out.pls]; simp)).mono ?_
        rintro e w12 ⟨rfl, hb12⟩
        have hb012 := bthen hb011 hb12 (Nat.le_refl _)
        clear hb12 hb011 h0 h1 i0 i1
        go_wp2_with fail
        refine (wakes07_any w12).mono ?_
        rintro e w13 ⟨rfl, hb13⟩
        go_wp2
        go_ret
        exact ⟨rfl, bthen hb012 hb13 (Nat.le_refl _)⟩
end Go.Proofs.Ytfbbejdbofkpaaa
