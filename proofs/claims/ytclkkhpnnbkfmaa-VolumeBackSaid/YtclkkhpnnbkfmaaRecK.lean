/- Records: frame.Check, the page's Record, cellarerkeep's functions on records. -/
import Derived.Test.YtclkkhpnnbkfmaaVolumeBackPartP
import Derived.Test.YtclkkhpnnbkfmaaVolumeBackPartB
import Derived.Test.YtclkkhpnnbkfmaaRegion
namespace Go.Proofs.Ytclkkhpnnbkfmaa
open Go.RowKit

set_option maxRecDepth 100000

instance : DecidableEq Rec := fun a b => decidable_of_iff (a.kind = b.kind ∧ a.seq = b.seq ∧ a.d = b.d)
  ⟨fun ⟨h1, h2, h3⟩ => by cases a; cases b; simp_all, fun h => by subst h; exact ⟨rfl, rfl, rfl⟩⟩

theorem recE_cases (k s : Int) (n : Nat) : (recE k s n = 1 ∧ (k < 1 ∨ (1 ≤ k ∧ 5 < k) ∨ (1 ≤ k ∧ k ≤ 5 ∧ s < 0) ∨ (1 ≤ k ∧ k ≤ 5 ∧ 0 ≤ s ∧ 1073741824 ≤ s))) ∨
    (1 ≤ k ∧ k ≤ 5 ∧ 0 ≤ s ∧ s < 1073741824 ∧ ((recE k s n = 2 ∧ 8000 < n) ∨ (recE k s n = 0 ∧ n ≤ 8000))) := by
  unfold recE
  split
  · left; exact ⟨rfl, by omega⟩
  · right
    split
    · exact ⟨by omega, by omega, by omega, by omega, .inl ⟨rfl, by assumption⟩⟩
    · exact ⟨by omega, by omega, by omega, by omega, .inr ⟨rfl, by omega⟩⟩

theorem check06_at (r : RecV) (E : Int) (w : World) (h : r.pl.e = E) :
    Calls Try.prog 138 #[r.val] w fun e w' => e = .returned (.int .i64 E) ∧ Below w.heap.size w w' := by
  obtain ⟨k, s, d⟩ := r
  have h : recE k s d.l.length = E := h
  have hc := recE_cases k s d.l.length
  rw [h] at hc
  unfold RecV.val
  simp only
  generalize d.l.length = n at *
  clear h
  rcases hc with ⟨rfl, h1 | ⟨h1, h2⟩ | ⟨h1, h2, h3⟩ | ⟨h1, h2, h3, h4⟩⟩ | ⟨h1, h2, h3, h4, ⟨rfl, h5⟩ | ⟨rfl, h5⟩⟩
  all_goals
    go_enter Try.func138, Try.ntmps138
    go_wp2
    go_ret
    exact ⟨rfl, ext_alloc _ _⟩

theorem record_at (r s : RecV) (b : Bool) (w : World) (hr : r.d.ok w) (hs : s.d.ok w) (hb : decide (r.pl = s.pl) = b) :
    Calls Try.prog 79 #[r.val, s.val] w fun e w' => e = .returned (.bool b) ∧ Below w.heap.size w w' := by
  obtain ⟨k1, s1, d1⟩ := r
  obtain ⟨k2, s2, d2⟩ := s
  have hb' : decide (k1 = k2 ∧ s1 = s2 ∧ d1.l = d2.l) = b := by
    rw [← hb]
    simp only [RecV.pl, Rec.mk.injEq]
  clear hb
  unfold RecV.val
  simp only at hr hs ⊢
  have hb0 := (ext_alloc w (.cells #[.int .i64 k1, .int .i64 s1, .slice d1.a d1.l.length d1.c] 54)).alloc (by simp) (.cells #[.int .i64 k2, .int .i64 s2, .slice d2.a d2.l.length d2.c] 54)
  by_cases h1 : k1 = k2
  · subst h1
    by_cases h2 : s1 = s2
    · subst h2
      have hd : decide (d1.l = d2.l) = b := by rw [← hb']; simp
      have Hd := Lib.hid hd
      clear hb' hd
      have e1 := hr.ext hb0
      have e2 := hs.ext hb0
      go_enter Try.func79, Try.ntmps79
      go_wp2_with fail
      refine (bytes_at d1.a d1.c d1.l d2.a d2.c d2.l _ _ _ b e1.1 e2.1 rfl rfl hr.2 hs.2 Hd.out).mono ?_
      rintro e w2 ⟨rfl, n, rfl⟩
      go_wp2
      go_ret
      exact ⟨rfl, below_drewN hb0 n⟩
    · have hd : b = false := by rw [← hb']; simp [h2]
      subst hd
      clear hb'
      go_enter Try.func79, Try.ntmps79
      go_wp2
      go_ret
      exact ⟨rfl, hb0⟩
  · have hd : b = false := by rw [← hb']; simp [h1]
    subst hd
    clear hb'
    go_enter Try.func79, Try.ntmps79
    go_wp2
    go_ret
    exact ⟨rfl, hb0⟩

theorem recs_take_succ (rs : List RecV) (k : Nat) (h : k < rs.length) : (recs rs).take (k + 1) = (recs rs).take k ++ [rs[k].pl] := by
  rw [take_succ_list _ k (by simpa using h)]; simp [recs]

set_option maxHeartbeats 1000000 in
theorem records_at (a : Option Addr) (ca : Nat) (rs : List RecV) (b : Option Addr) (cb : Nat) (ss : List RecV) (w : World) (n m : Nat) (R : Bool) (ha : RMat w a rs) (hb : RMat w b ss)
    (hn : n = rs.length) (hm : m = ss.length) (hla : n ≤ 9223372036854775807) (hlb : m ≤ 9223372036854775807) (hR : decide (recs rs = recs ss) = R) :
    Calls Try.prog 14 #[.slice a n ca, .slice b m cb] w fun e w' => e = .returned (.bool R) ∧ Below w.heap.size w w' := by
  by_cases hlen : n = m
  · subst hlen
    have h1 : (((n : Nat) : Int) != ((n : Nat) : Int)) = false := by simp
    have HR := Lib.hid hR
    have HN := Lib.hid hn
    have HM := Lib.hid hm
    clear hR hn hm
    generalize hL : n = L at *
    clear hL
    go_enter Try.func14, Try.ntmps14
    go_wp2_with fail
    go_loopw [5] (fun i wr => ∃ k : Nat, k ≤ L ∧ i = .int .i64 k ∧ Below w.heap.size w wr ∧ (recs rs).take k = (recs ss).take k) (fun i _ => L - (intOf i).toNat)
    case atStart => exact ⟨0, by omega, rfl, Below.refl _ _, by simp⟩
    case round =>
      rename_i wr
      obtain ⟨k, hk, rfl, hbr, heq⟩ := hrel
      have Heq := Lib.hid heq
      clear heq
      by_cases hlt : k < L
      · have har := ha.ext hbr
        have hbr2 := hb.ext hbr
        have hkr : k < rs.length := by have := HN.out; omega
        have hks : k < ss.length := by have := HM.out; omega
        obtain ⟨b1, o1, rfl, hltb1, hat1⟩ := har.at (i := k) hkr
        obtain ⟨b2, o2, rfl, hltb2, hat2⟩ := hbr2.at (i := k) hks
        obtain ⟨c0, c1, c2⟩ := hat1 k hkr
        obtain ⟨d0, d1, d2⟩ := hat2 k hks
        have hr := har.row rs[k] (List.getElem_mem hkr)
        have hs := hbr2.row ss[k] (List.getElem_mem hks)
        have Hr := Lib.hid (recs_take_succ rs k hkr)
        have Hs := Lib.hid (recs_take_succ ss k hks)
        generalize hrr : rs[k] = r at *
        generalize hss : ss[k] = s at *
        clear hat1 hat2
        have Hrr := Lib.hid hrr
        have Hss := Lib.hid hss
        clear hrr hss
        by_cases hne : r.pl = s.pl
        · have Hb : Hid (decide (r.pl = s.pl) = true) := Lib.hid (by simp [hne])
          have Hne := Lib.hid hne
          clear hne
          go_wp2_with fail
          refine wp_region_sp (by kernel_rfl) [Sp.eq (.slice (some ⟨b1, o1, none⟩) L ca), Sp.eq (.int .i64 (k : Int)), Sp.eq (.pointer (some ⟨b1, o1 + k * 3, none⟩)), Sp.eq (r.val), Sp.eq (.slice (some ⟨b2, o2, none⟩) L cb), Sp.eq (.int .i64 (k : Int)), Sp.eq (.pointer (some ⟨b2, o2 + k * 3, none⟩)), Sp.eq (s.val), Sp.eq (.bool true), Sp.eq (.bool false)] (by kernel_rfl) ?_ ?_
          · refine stepsOk_cons ?_ (stepsOk_cons ?_ (stepsOk_cons ?_ (stepsOk_cons ?_ (stepsOk_cons ?_ (stepsOk_cons ?_ (stepsOk_cons ?_ (stepsOk_cons ?_ (stepsOk_cons ?_ (stepsOk_cons ?_ (stepsOk_nil))))))))))
            · intro ρ w' E
              have e0 : ρ (.tmp 0) = .slice (some ⟨b1, o1, none⟩) L ca := E.out 0 rfl
              refine step_plain rfl ?_
              exact op_move (.inl rfl) e0 ⟨Below.refl _ _, rfl⟩
            · intro ρ w' E
              have e5 : ρ (.tmp 5) = .int .i64 (k : Int) := E.out 5 rfl
              refine step_plain rfl ?_
              exact op_move (.inl rfl) e5 ⟨Below.refl _ _, rfl⟩
            · intro ρ w' E
              have e17 : ρ (.tmp 17) = .slice (some ⟨b1, o1, none⟩) L ca := E.pre 0 rfl
              have e18 : ρ (.tmp 18) = .int .i64 (k : Int) := E.pre 1 rfl
              refine step_plain rfl ?_
              refine op_val (v := .pointer (some ⟨b1, o1 + k * 3, none⟩)) (w' := w') ?_ ⟨Below.refl _ _, rfl⟩
              have hcon := E.con
              clear E
              go_simp
            · intro ρ w' E
              have e19 : ρ (.tmp 19) = .pointer (some ⟨b1, o1 + k * 3, none⟩) := E.pre 2 rfl
              refine step_plain rfl ?_
              refine op_val (v := r.val) (w' := w') ?_ ⟨Below.refl _ _, rfl⟩
              unfold RecV.val
              have hk0 := (World.cell?_of_block (w := wr) (E.below.block b1 hltb1)).trans c0
              have hk1 := (World.cell?_of_block (w := wr) (E.below.block b1 hltb1)).trans c1
              have hk2 := (World.cell?_of_block (w := wr) (E.below.block b1 hltb1)).trans c2
              have hcon := E.con
              clear E c0 c1 c2 d0 d1 d2
              go_simp
            · intro ρ w' E
              have e1 : ρ (.tmp 1) = .slice (some ⟨b2, o2, none⟩) L cb := E.out 1 rfl
              refine step_plain rfl ?_
              exact op_move (.inl rfl) e1 ⟨Below.refl _ _, rfl⟩
            · intro ρ w' E
              have e5 : ρ (.tmp 5) = .int .i64 (k : Int) := E.out 5 rfl
              refine step_plain rfl ?_
              exact op_move (.inl rfl) e5 ⟨Below.refl _ _, rfl⟩
            · intro ρ w' E
              have e21 : ρ (.tmp 21) = .slice (some ⟨b2, o2, none⟩) L cb := E.pre 4 rfl
              have e22 : ρ (.tmp 22) = .int .i64 (k : Int) := E.pre 5 rfl
              refine step_plain rfl ?_
              refine op_val (v := .pointer (some ⟨b2, o2 + k * 3, none⟩)) (w' := w') ?_ ⟨Below.refl _ _, rfl⟩
              have hcon := E.con
              clear E
              go_simp
            · intro ρ w' E
              have e23 : ρ (.tmp 23) = .pointer (some ⟨b2, o2 + k * 3, none⟩) := E.pre 6 rfl
              refine step_plain rfl ?_
              refine op_val (v := s.val) (w' := w') ?_ ⟨Below.refl _ _, rfl⟩
              unfold RecV.val
              have hk0 := (World.cell?_of_block (w := wr) (E.below.block b2 hltb2)).trans d0
              have hk1 := (World.cell?_of_block (w := wr) (E.below.block b2 hltb2)).trans d1
              have hk2 := (World.cell?_of_block (w := wr) (E.below.block b2 hltb2)).trans d2
              have hcon := E.con
              clear E c0 c1 c2 d0 d1 d2
              go_simp
            · intro ρ w' E
              have e20 : ρ (.tmp 20) = r.val := E.pre 3 rfl
              have e24 : ρ (.tmp 24) = s.val := E.pre 7 rfl
              refine step_plain rfl ?_
              refine op_call (f := 79) (args := #[r.val, s.val]) (w' := w') (by have hcon := E.con; have hfn := E.fn; clear E; go_simp) ?_
              refine (record_at r s true w' (hr.ext E.below) (hs.ext E.below) Hb.out).mono ?_
              rintro e w2 ⟨rfl, hb2⟩
              exact ⟨_, rfl, hb2, rfl⟩
            · intro ρ w' E
              have e25 : ρ (.tmp 25) = .bool true := E.pre 8 rfl
              refine step_plain rfl ?_
              refine op_val (v := .bool false) (w' := w') ?_ ⟨Below.refl _ _, rfl⟩
              have hcon := E.con
              clear E
              go_simp
          · intro σ w2 hb2 hall
            have h26 : σ 26 = .bool false := by obtain ⟨_, _, _, _, _, _, _, _, _, h, _⟩ := hall; exact h
            clear hall c0 c1 c2 d0 d1 d2
            simp only [upd, updL, dstsOf', elemB, List.filterMap_cons, List.filterMap_nil, Nat.reduceAdd, Nat.reduceBEq, Bool.or_false, Bool.false_or, Bool.or_true, Bool.true_or, cond_true, cond_false, Nat.zero_add, h26]
            have hbr3 := bthen hbr hb2 (Nat.le_refl _)
            go_wp2
            go_roundw
            case rel => exact ⟨k + 1, by omega, by go_num, hbr3, by rw [Hr.out, Hs.out, Heq.out, Hne.out]⟩
            case measure => simp [intOf]; omega
        · have Hb : Hid (decide (r.pl = s.pl) = false) := Lib.hid (by simp [hne])
          have hfin : R = false := by
            rw [← HR.out, decide_eq_false_iff_not]
            intro h
            have h2 : (recs rs)[k]? = (recs ss)[k]? := by rw [h]
            simp only [recs, List.getElem?_map, List.getElem?_eq_getElem hkr, List.getElem?_eq_getElem hks, Option.map_some, Option.some.injEq, Hrr.out, Hss.out] at h2
            exact hne h2
          have Hfin := Lib.hid hfin
          clear hne hfin
          go_wp2_with fail
          refine wp_region_sp (by kernel_rfl) [Sp.eq (.slice (some ⟨b1, o1, none⟩) L ca), Sp.eq (.int .i64 (k : Int)), Sp.eq (.pointer (some ⟨b1, o1 + k * 3, none⟩)), Sp.eq (r.val), Sp.eq (.slice (some ⟨b2, o2, none⟩) L cb), Sp.eq (.int .i64 (k : Int)), Sp.eq (.pointer (some ⟨b2, o2 + k * 3, none⟩)), Sp.eq (s.val), Sp.eq (.bool false), Sp.eq (.bool true)] (by kernel_rfl) ?_ ?_
          · refine stepsOk_cons ?_ (stepsOk_cons ?_ (stepsOk_cons ?_ (stepsOk_cons ?_ (stepsOk_cons ?_ (stepsOk_cons ?_ (stepsOk_cons ?_ (stepsOk_cons ?_ (stepsOk_cons ?_ (stepsOk_cons ?_ (stepsOk_nil))))))))))
            · intro ρ w' E
              have e0 : ρ (.tmp 0) = .slice (some ⟨b1, o1, none⟩) L ca := E.out 0 rfl
              refine step_plain rfl ?_
              exact op_move (.inl rfl) e0 ⟨Below.refl _ _, rfl⟩
            · intro ρ w' E
              have e5 : ρ (.tmp 5) = .int .i64 (k : Int) := E.out 5 rfl
              refine step_plain rfl ?_
              exact op_move (.inl rfl) e5 ⟨Below.refl _ _, rfl⟩
            · intro ρ w' E
              have e17 : ρ (.tmp 17) = .slice (some ⟨b1, o1, none⟩) L ca := E.pre 0 rfl
              have e18 : ρ (.tmp 18) = .int .i64 (k : Int) := E.pre 1 rfl
              refine step_plain rfl ?_
              refine op_val (v := .pointer (some ⟨b1, o1 + k * 3, none⟩)) (w' := w') ?_ ⟨Below.refl _ _, rfl⟩
              have hcon := E.con
              clear E
              go_simp
            · intro ρ w' E
              have e19 : ρ (.tmp 19) = .pointer (some ⟨b1, o1 + k * 3, none⟩) := E.pre 2 rfl
              refine step_plain rfl ?_
              refine op_val (v := r.val) (w' := w') ?_ ⟨Below.refl _ _, rfl⟩
              unfold RecV.val
              have hk0 := (World.cell?_of_block (w := wr) (E.below.block b1 hltb1)).trans c0
              have hk1 := (World.cell?_of_block (w := wr) (E.below.block b1 hltb1)).trans c1
              have hk2 := (World.cell?_of_block (w := wr) (E.below.block b1 hltb1)).trans c2
              have hcon := E.con
              clear E c0 c1 c2 d0 d1 d2
              go_simp
            · intro ρ w' E
              have e1 : ρ (.tmp 1) = .slice (some ⟨b2, o2, none⟩) L cb := E.out 1 rfl
              refine step_plain rfl ?_
              exact op_move (.inl rfl) e1 ⟨Below.refl _ _, rfl⟩
            · intro ρ w' E
              have e5 : ρ (.tmp 5) = .int .i64 (k : Int) := E.out 5 rfl
              refine step_plain rfl ?_
              exact op_move (.inl rfl) e5 ⟨Below.refl _ _, rfl⟩
            · intro ρ w' E
              have e21 : ρ (.tmp 21) = .slice (some ⟨b2, o2, none⟩) L cb := E.pre 4 rfl
              have e22 : ρ (.tmp 22) = .int .i64 (k : Int) := E.pre 5 rfl
              refine step_plain rfl ?_
              refine op_val (v := .pointer (some ⟨b2, o2 + k * 3, none⟩)) (w' := w') ?_ ⟨Below.refl _ _, rfl⟩
              have hcon := E.con
              clear E
              go_simp
            · intro ρ w' E
              have e23 : ρ (.tmp 23) = .pointer (some ⟨b2, o2 + k * 3, none⟩) := E.pre 6 rfl
              refine step_plain rfl ?_
              refine op_val (v := s.val) (w' := w') ?_ ⟨Below.refl _ _, rfl⟩
              unfold RecV.val
              have hk0 := (World.cell?_of_block (w := wr) (E.below.block b2 hltb2)).trans d0
              have hk1 := (World.cell?_of_block (w := wr) (E.below.block b2 hltb2)).trans d1
              have hk2 := (World.cell?_of_block (w := wr) (E.below.block b2 hltb2)).trans d2
              have hcon := E.con
              clear E c0 c1 c2 d0 d1 d2
              go_simp
            · intro ρ w' E
              have e20 : ρ (.tmp 20) = r.val := E.pre 3 rfl
              have e24 : ρ (.tmp 24) = s.val := E.pre 7 rfl
              refine step_plain rfl ?_
              refine op_call (f := 79) (args := #[r.val, s.val]) (w' := w') (by have hcon := E.con; have hfn := E.fn; clear E; go_simp) ?_
              refine (record_at r s false w' (hr.ext E.below) (hs.ext E.below) Hb.out).mono ?_
              rintro e w2 ⟨rfl, hb2⟩
              exact ⟨_, rfl, hb2, rfl⟩
            · intro ρ w' E
              have e25 : ρ (.tmp 25) = .bool false := E.pre 8 rfl
              refine step_plain rfl ?_
              refine op_val (v := .bool true) (w' := w') ?_ ⟨Below.refl _ _, rfl⟩
              have hcon := E.con
              clear E
              go_simp
          · intro σ w2 hb2 hall
            have h26 : σ 26 = .bool true := by obtain ⟨_, _, _, _, _, _, _, _, _, h, _⟩ := hall; exact h
            clear hall c0 c1 c2 d0 d1 d2
            simp only [upd, updL, dstsOf', elemB, List.filterMap_cons, List.filterMap_nil, Nat.reduceAdd, Nat.reduceBEq, Bool.or_false, Bool.false_or, Bool.or_true, Bool.true_or, cond_true, cond_false, Nat.zero_add, h26]
            have hbr3 := bthen hbr hb2 (Nat.le_refl _)
            go_wp2
            go_ret
            exact ⟨by rw [Hfin.out]; rfl, hbr3⟩
      · have hfin : R = true := by
          have h1 := Heq.out
          have h2 := HN.out
          have h3 := HM.out
          rw [List.take_of_length_le (by simp; omega), List.take_of_length_le (by simp; omega)] at h1
          rw [← HR.out, decide_eq_true h1]
        subst hfin
        go_wp2
        go_ret
        exact ⟨rfl, hbr⟩
  · have hfin : R = false := by
      rw [← hR, decide_eq_false_iff_not]
      intro h
      have h2 := congrArg List.length h
      simp at h2
      omega
    subst hfin
    have h1 : (((n : Nat) : Int) != ((m : Nat) : Int)) = true := by simp; omega
    clear hR hn hm
    go_enter Try.func14, Try.ntmps14
    go_wp2
    go_ret
    exact ⟨rfl, Below.refl _ _⟩

/-- More than is played? -/
def heavy06 (rs : List RecV) : Bool := decide (80 < rs.length) || rs.any fun r => decide (400 < r.d.l.length)
theorem heavy06_no {rs : List RecV} (h : heavy06 rs = false) : rs.length ≤ 80 ∧ ∀ r ∈ rs, r.d.l.length ≤ 400 := by
  simp only [heavy06, Bool.or_eq_false_iff, decide_eq_false_iff_not, List.any_eq_false, decide_eq_true_eq] at h
  exact ⟨by omega, fun r hr => by have := h.2 r hr; omega⟩

set_option maxHeartbeats 1000000 in
theorem heavy06_at (a : Option Addr) (c n : Nat) (rs : List RecV) (R : Bool) (w : World) (ha : RMat w a rs) (hn : n = rs.length) (hl : n ≤ 9223372036854775807) (hR : heavy06 rs = R) :
    Calls Try.prog 10 #[.slice a n c] w fun e w' => e = .returned (.bool R) ∧ w = w' := by
  have HN := Lib.hid hn
  by_cases h80 : n ≤ 80
  · have HR := Lib.hid hR
    clear hR hn
    go_enter Try.func10, Try.ntmps10
    go_wp2_with fail
    go_loop [3] (fun i => ∃ k : Nat, k ≤ n ∧ i = .int .i64 k ∧ ∀ j (hj : j < rs.length), j < k → rs[j].d.l.length ≤ 400) (fun i => n - (intOf i).toNat)
    case atStart => exact ⟨0, by omega, rfl, fun j _ h => by omega⟩
    case round =>
      obtain ⟨k, hk, rfl, hall⟩ := hrel
      have Hall := Lib.hid hall
      clear hall
      by_cases hlt : k < n
      · have hkr : k < rs.length := by have := HN.out; omega
        obtain ⟨b1, o1, rfl, hltb1, hat1⟩ := ha.at (i := k) hkr
        obtain ⟨_, _, c2⟩ := hat1 k hkr
        obtain ⟨x, hx⟩ : ∃ x, rs[k].d.l.length = x := ⟨_, rfl⟩
        rw [hx] at c2
        have Hx := Lib.hid hx
        clear hat1 hx
        by_cases hb : x ≤ 400
        · go_wp2
          go_round
          case rel =>
            refine ⟨k + 1, by omega, by go_num, fun j hj hjk => ?_⟩
            by_cases hjk2 : j < k
            · exact Hall.out j hj hjk2
            · obtain rfl : j = k := by omega
              rw [Hx.out]; exact hb
          case measure => simp [intOf]; omega
        · have hfin : R = true := by
            rw [← HR.out, heavy06]
            simp only [Bool.or_eq_true, List.any_eq_true, decide_eq_true_eq]
            exact .inr ⟨rs[k], List.getElem_mem hkr, by rw [Hx.out]; omega⟩
          subst hfin
          go_wp2
          go_ret
          exact ⟨rfl, rfl⟩
      · have hfin : R = false := by
          have h2 := HN.out
          rw [← HR.out, heavy06]
          simp only [Bool.or_eq_false_iff, decide_eq_false_iff_not, List.any_eq_false, decide_eq_true_eq]
          refine ⟨by omega, fun r hr => ?_⟩
          obtain ⟨j, hj, rfl⟩ := List.mem_iff_getElem.1 hr
          have := Hall.out j hj (by omega)
          omega
        subst hfin
        go_wp2
        go_ret
        exact ⟨rfl, rfl⟩
  · have hfin : R = true := by
      rw [← hR, heavy06]
      simp only [Bool.or_eq_true, decide_eq_true_eq]
      exact .inl (by omega)
    subst hfin
    clear hR hn
    go_enter Try.func10, Try.ntmps10
    go_wp2
    go_ret
    exact ⟨rfl, rfl⟩
end Go.Proofs.Ytclkkhpnnbkfmaa
