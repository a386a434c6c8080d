/- aggr.right, Read. -/
import Derived.Test.YtclkkhpnnbkfmaaVolumeBackPartX
import Derived.Test.YtclkkhpnnbkfmaaOwnRecs
import Derived.Test.YtclkkhpnnbkfmaaVolumeBackPartE
import Derived.Test.YtclkkhpnnbkfmaaVolumeBackPartH
namespace Go.Proofs.Ytclkkhpnnbkfmaa
open Go.RowKit

theorem infoIntR : (Try.prog.info? 3).map (fun i => (i.zero, i.size, i.bytes)) = some (some (.int .i64 0), 1, 8) := by kernel_rfl
set_option maxRecDepth 100000 in
set_option maxHeartbeats 2000000 in
theorem right_any15 (k1 s1 : Int) (a1 : Option Addr) (n1 c1 : Nat) (k2 s2 : Int) (a2 : Option Addr) (n2 c2 : Nat) (aL : Option Addr) (n cL : Nat) (R : Bool) (w : World) (h1 : n1 ≤ 4611686018427387903) (h2 : n2 ≤ 4611686018427387903)
    (hR : decide (1 ≤ n ∧ n ≤ 64 ∧ s1 = n ∧ s2 = n ∧ n1 + n2 = 0) = R) :
    Calls Try.prog 118 #[.agg #[.int .i64 k1, .int .i64 s1, .slice a1 n1 c1], .agg #[.int .i64 k2, .int .i64 s2, .slice a2 n2 c2], .slice aL n cL] w fun e w' => e = .returned (.bool R) ∧ Below w.heap.size w w' := by
  have hb1 := ext_alloc w (.cells #[.int .i64 k1, .int .i64 s1, .slice a1 n1 c1] 54)
  have hb2 := ext_alloc (w.alloc (.cells #[.int .i64 k1, .int .i64 s1, .slice a1 n1 c1] 54)) (.cells #[.int .i64 k2, .int .i64 s2, .slice a2 n2 c2] 54)
  have g1 := (hb2.block _ (heap_lt (heap_alloc_new w (.cells #[.int .i64 k1, .int .i64 s1, .slice a1 n1 c1] 54)))).trans (heap_alloc_new w _)
  have g2 := heap_alloc_new (w.alloc (.cells #[.int .i64 k1, .int .i64 s1, .slice a1 n1 c1] 54)) (.cells #[.int .i64 k2, .int .i64 s2, .slice a2 n2 c2] 54)
  rw [World.size_alloc] at g2
  have hB := Lib.hid (bthen hb1 hb2 (Nat.le_refl _))
  have d1 := cell_of_row _ w.heap.size 1 _ _ _ g1
  have d2 := cell_of_row _ w.heap.size 2 _ _ _ g1
  have e1 := cell_of_row _ (w.heap.size + 1) 1 _ _ _ g2
  have e2 := cell_of_row _ (w.heap.size + 1) 2 _ _ _ g2
  have HR := Lib.hid hR
  clear hb1 hb2 g1 g2 hR
  go_enter Try.func118, Try.ntmps118
  by_cases c1 : 1 ≤ n
  · by_cases c2 : n ≤ 64
    · have c1' : (1 : Int) ≤ (n : Int) := by omega
      have c2' : (n : Int) ≤ 64 := by omega
      cases hs1 : (s1 == (n : Int)) with
      | true =>
        cases hs2 : (s2 == (n : Int)) with
        | true =>
          by_cases c3 : n1 + n2 = 0
          · have hR := HR.out
            rw [decide_eq_true ⟨c1, c2, by simpa using hs1, by simpa using hs2, c3⟩] at hR
            subst hR
            obtain rfl : n1 = 0 := by omega
            obtain rfl : n2 = 0 := by omega
            clear c3
            go_wp2
            go_ret
            exact ⟨rfl, hB.out⟩
          · have hR := HR.out
            rw [decide_eq_false (fun h => c3 h.2.2.2.2)] at hR
            subst hR
            have c3' : ((n1 : Int) + (n2 : Int) == 0) = false := by simp; omega
            have hwr : IntKind.i64.wrap ((n1 : Int) + (n2 : Int)) = (n1 : Int) + (n2 : Int) := by rw [IntKind.wrap_i64]; omega
            clear c3
            go_wp2
            go_ret
            exact ⟨rfl, hB.out⟩
        | false =>
          have hR := HR.out
          rw [decide_eq_false (fun h => by rw [h.2.2.2.1] at hs2; simp at hs2)] at hR
          subst hR
          go_wp2
          go_ret
          exact ⟨rfl, hB.out⟩
      | false =>
        have hR := HR.out
        rw [decide_eq_false (fun h => by rw [h.2.2.1] at hs1; simp at hs1)] at hR
        subst hR
        go_wp2
        go_ret
        exact ⟨rfl, hB.out⟩
    · have hR := HR.out
      rw [decide_eq_false (fun h => c2 h.2.1)] at hR
      subst hR
      have c1' : (1 : Int) ≤ (n : Int) := by omega
      have c2' : ¬ (n : Int) ≤ 64 := by omega
      go_wp2
      go_ret
      exact ⟨rfl, hB.out⟩
  · have hR := HR.out
    rw [decide_eq_false (fun h => c1 h.1)] at hR
    subst hR
    have c1' : ¬ (1 : Int) ≤ (n : Int) := by omega
    go_wp2
    go_ret
    exact ⟨rfl, hB.out⟩

theorem OwnRecs.keep {w w' : World} {B : Nat} {a : Option Addr} {c : Nat} {vs : List RecV} (h : OwnRecs w B a c vs) (hm : Mod (fun _ T => T = 3) w w') : OwnRecs w' B a c vs :=
  ⟨h.row.mod hm fun _ _ _ hf => absurd (show 54 = 3 from hf) (by decide), fun v hv => (h.dat v hv).mod hm fun _ _ _ hf => absurd (show 5 = 3 from hf) (by decide)⟩

set_option maxRecDepth 100000 in
set_option maxHeartbeats 8000000 in
theorem aread_at (a : Option Addr) (L c : Nat) (l : List Byte) (rl : List Rec) (ol : List Int) (R : Bool) (w : World) (hs : Src w a (bvs l)) (hL : L = l.length) (hc : L ≤ c) (hLm : L ≤ 4000000) (hR : readA l = (rl, ol, R)) :
    Calls Try.prog 78 #[.slice a L c] w fun e w' => ∃ aR n cR vs aO cO, e = .returned (.tuple #[.slice aR n cR, .slice aO n cO, .bool R]) ∧ n = vs.length ∧ n = ol.length ∧ OwnRecs w' w.heap.size aR cR vs ∧ recs vs = rl ∧ Own w' w.heap.size 3 1 aO n cO (ivs ol) ∧ Below w.heap.size w w' := by
  obtain ⟨i0, hi, hz0, hz1, hz2⟩ := info_parts infoRec
  obtain ⟨i1, hj, hy0, hy1, hy2⟩ := info_parts infoIntR
  have HL := Lib.hid hL
  have HR := Lib.hid hR
  have HS := Lib.hid hs
  obtain ⟨⟨hd, nx0, e0⟩, hrd0⟩ : ∃ x, x = readF l ((0 : Nat) : Int) := ⟨_, rfl⟩
  have HRd0 := Lib.hid (frread_at a L c l 0 hd nx0 e0 w hs hL hc (by omega) hrd0.symm)
  have Hrd0 := Lib.hid hrd0
  clear hL hR hrd0 hs
  go_enter Try.func78, Try.ntmps78
  go_wp2_with fail
  refine HRd0.out.mono ?_
  rintro e w1 ⟨ad, cd, rfl, hod, hb1⟩
  have hg1 := heap_alloc_new w1 (.cells #[.int .i64 0, .int .i64 0, .slice none 0 0] 54)
  have hg2 := setRow_heap _ w1.heap.size _ #[.int .i64 hd.kind, .int .i64 hd.seq, .slice ad hd.d.length cd] _ _ hg1
  have hbp := bsetRow (ext_alloc w1 (.cells #[.int .i64 0, .int .i64 0, .slice none 0 0] 54)) (Nat.le_refl _) #[.int .i64 hd.kind, .int .i64 hd.seq, .slice ad hd.d.length cd]
  have HB1 := Lib.hid (bthen hb1 hbp (Nat.le_refl _))
  have k0 := cell_of_row _ w1.heap.size 0 _ _ _ hg2
  clear hod hb1 hbp HRd0
  by_cases hbad : e0 ≠ 0 ∨ hd.kind ≠ 4
  · have hr0 : readF l 0 = (hd, nx0, e0) := Hrd0.out.symm
    have hR := HR.out
    unfold readA at hR
    rw [if_pos (by rw [hr0]; exact hbad)] at hR
    clear hr0
    simp only [Prod.mk.injEq] at hR
    obtain ⟨rfl, rfl, rfl⟩ := hR
    by_cases he : e0 = 0
    · subst he
      have hk : (hd.kind != 4) = true := by
        rcases hbad with h | h
        · exact absurd rfl h
        · simpa using h
      clear hbad
      go_wp2_with (refine wpList_store_row rfl rfl 54 (.tmp 5) (.tmp 14) rfl w1.heap.size rfl 54 #[.int .i64 0, .int .i64 0, .slice none 0 0] #[.int .i64 hd.kind, .int .i64 hd.seq, .slice ad hd.d.length cd] rfl hg1 rfl (by kernel_rfl) (by simp [Value.oneCell']) ?_)
      go_ret3
      exact ⟨none, 0, 0, [], none, 0, rfl, rfl, rfl, ⟨Own.nil _ _ _ _ _, by simp⟩, rfl, Own.nil _ _ _ _ _, HB1.out⟩
    · have he' : (e0 != 0) = true := by simpa using he
      clear hbad he
      go_wp2_with (refine wpList_store_row rfl rfl 54 (.tmp 5) (.tmp 14) rfl w1.heap.size rfl 54 #[.int .i64 0, .int .i64 0, .slice none 0 0] #[.int .i64 hd.kind, .int .i64 hd.seq, .slice ad hd.d.length cd] rfl hg1 rfl (by kernel_rfl) (by simp [Value.oneCell']) ?_)
      go_ret3
      exact ⟨none, 0, 0, [], none, 0, rfl, rfl, rfl, ⟨Own.nil _ _ _ _ _, by simp⟩, rfl, Own.nil _ _ _ _ _, HB1.out⟩
  · obtain rfl : e0 = 0 := by
      by_cases h : e0 = 0
      · exact h
      · exact absurd (.inl h) hbad
    have hk4 : hd.kind = 4 := by
      by_cases h : hd.kind = 4
      · exact h
      · exact absurd (.inr h) hbad
    obtain ⟨rfl, hnx, hn8⟩ := readF_ok Hrd0.out.symm
    have hR := HR.out
    unfold readA at hR
    have hr0 : readF l 0 = (hd, ((0 + 13 + hd.d.length : Nat) : Int), 0) := Hrd0.out.symm
    rw [if_neg (by rw [hr0]; exact hbad), hr0] at hR
    have hR : readGo l hd l.length (((0 + 13 + hd.d.length : Nat) : Int)).toNat [] [] = (rl, ol, R) := hR
    rw [Int.toNat_natCast] at hR
    obtain ⟨p0, hp0⟩ : ∃ p0, p0 = 0 + 13 + hd.d.length := ⟨_, rfl⟩
    obtain ⟨hk, hsq, hdd⟩ := hd
    dsimp only at hk4 hnx hn8 hR hp0 k0 hg2
    subst hk4
    rw [← hp0] at hR hnx ⊢
    rw [← HL.out] at hR hnx
    have HR2 := Lib.hid hR
    obtain ⟨hn, hhn⟩ : ∃ n, n = hdd.length := ⟨_, rfl⟩
    rw [← hhn] at hg2 hn8 k0
    have Hhn := Lib.hid hhn
    have hp1 : 13 ≤ p0 := by omega
    have HB1' : Hid (Below w.heap.size w ((w1.alloc (.cells #[.int .i64 0, .int .i64 0, .slice none 0 0] 54)).setRow w1.heap.size #[.int .i64 4, .int .i64 hsq, .slice ad hn cd])) := Lib.hid (by have := HB1.out; rw [Hhn.out]; exact this)
    dsimp only
    rw [← hhn]
    have HG2 := Lib.hid hg2
    clear hR hr0 hp0 hbad hhn HB1 HR
    go_wp2_with (refine wpList_store_row rfl rfl 54 (.tmp 5) (.tmp 14) rfl w1.heap.size rfl 54 #[.int .i64 0, .int .i64 0, .slice none 0 0] #[.int .i64 4, .int .i64 hsq, .slice ad hn cd] rfl hg1 rfl (by kernel_rfl) (by simp [Value.oneCell']) ?_)
    generalize hwx : World.setRow _ _ _ = w2 at *
    have HG2 : Hid (w2.heap[w1.heap.size]? = some (.cells #[.int .i64 4, .int .i64 hsq, .slice ad hn cd] 54 (0, 0))) := HG2
    generalize w1.heap.size = gH at *
    clear hwx k0 hg1 hg2
    go_loopw [2, 3, 6] (fun lv ov pv wx => ∃ (p fuel n : Nat) (aR : Option Addr) (cR : Nat) (vs : List RecV) (aO : Option Addr) (cO : Nat) (os : List Int) (wr : World), wr = wx ∧ p ≤ L ∧ L ≤ p + fuel ∧ n ≤ p ∧ n = vs.length ∧ n = os.length ∧ lv = .slice aR n cR ∧ ov = .slice aO n cO ∧ pv = .int .i64 (p : Int) ∧ OwnRecs wr w2.heap.size aR cR vs ∧ Own wr w2.heap.size 3 1 aO n cO (ivs os) ∧ Below w2.heap.size w2 wr ∧ readGo l ⟨4, hsq, hdd⟩ fuel p (recs vs) os = (rl, ol, R)) (fun _ _ i _ => L - (intOf i).toNat)
    case atStart => exact ⟨p0, L, 0, none, 0, [], none, 0, [], _, rfl, by omega, by omega, by omega, rfl, rfl, rfl, rfl, rfl, ⟨Own.nil _ _ _ _ _, by simp⟩, Own.nil _ _ _ _ _, Below.refl _ _, HR2.out⟩
    case round =>
      obtain ⟨p, fuel, n, aR, cR, vs, aO, cO, os, wr, hwr, hp, hf, hnp, hnv, hno, rfl, rfl, rfl, hown, hint, hbr, hgo⟩ := hrel
      subst hwr
      have HOwn := Lib.hid hown
      have HInt := Lib.hid hint
      have HBr := Lib.hid hbr
      have Hnv := Lib.hid hnv
      have Hno := Lib.hid hno
      have Hgo := Lib.hid hgo
      clear hown hint hbr hnv hno hgo HR2
      by_cases hlt : p < L
      · obtain ⟨f', rfl⟩ : ∃ f', fuel = f' + 1 := ⟨fuel - 1, by omega⟩
        obtain ⟨⟨r, nx, e⟩, hrd⟩ : ∃ x, x = readF l (p : Int) := ⟨_, rfl⟩
        have HRd := Lib.hid (frread_at a L c l (p : Int) r nx e wr (HS.out.ext (bthen HB1'.out HBr.out (Nat.le_refl _))) HL.out hc (by omega) hrd.symm)
        have hgo := Hgo.out
        unfold readGo at hgo
        rw [if_pos (by rw [← HL.out]; exact hlt), ← hrd] at hgo
        dsimp only at hgo
        have Hgo1 := Lib.hid hgo
        have Hrd := Lib.hid hrd.symm
        clear hgo hrd Hgo
        go_wp2_with fail
        refine HRd.out.mono ?_
        rintro e' w3 ⟨ae, ce, rfl, hod, hb3⟩
        have hgR := HG2.out
        have hg1 := heap_alloc_new w3 (.cells #[.int .i64 0, .int .i64 0, .slice none 0 0] 54)
        obtain ⟨rk, rs, rd⟩ := r
        obtain ⟨dn, hdn⟩ : ∃ n, n = rd.length := ⟨_, rfl⟩
        dsimp only at hod ⊢
        rw [← hdn] at hod ⊢
        have hg2 := setRow_heap _ w3.heap.size _ #[.int .i64 rk, .int .i64 rs, .slice ae dn ce] _ _ hg1
        have hbp := bsetRow (ext_alloc w3 (.cells #[.int .i64 0, .int .i64 0, .slice none 0 0] 54)) (Nat.le_refl _) #[.int .i64 rk, .int .i64 rs, .slice ae dn ce]
        have hb4 := bthen HBr.out (bthen hb3 hbp (Nat.le_refl _)) (Nat.le_refl _)
        have hrow4 := HOwn.out.ext (bthen hb3 hbp (Nat.le_refl _))
        have hint4 := HInt.out.ext (bthen hb3 hbp (Nat.le_refl _))
        have hod4 := (hod.mono (base' := w2.heap.size) HBr.out.size).ext hbp
        have hH4 := (hb4.block gH (heap_lt hgR)).trans hgR
        have HB4 := Lib.hid hb4
        have HRow4 := Lib.hid hrow4
        have HInt4 := Lib.hid hint4
        have HOd4 := Lib.hid hod4
        have HG4 := Lib.hid hg2
        have HH4 := Lib.hid hH4
        have Hdn := Lib.hid hdn
        clear hb4 hrow4 hint4 hod4 hH4 hod hb3 hbp HRd HOwn HInt HBr hgR hdn
        have q0 := cell_of_row _ w3.heap.size 0 _ _ _ hg2
        have q1 := cell_of_row _ w3.heap.size 1 _ _ _ hg2
        have q2 := cell_of_row _ w3.heap.size 2 _ _ _ hg2
        have h0 := cell_of_row _ gH 0 _ _ _ HH4.out
        have h1 := cell_of_row _ gH 1 _ _ _ HH4.out
        have h2 := cell_of_row _ gH 2 _ _ _ HH4.out
        have HB4' := Lib.hid (bthen HB1'.out HB4.out (Nat.le_refl _))
        have HB0 := Lib.hid HB1'.out.size
        clear hg2
        by_cases hbad : e ≠ 0 ∨ rk = 4
        · have hgo := Hgo1.out
          rw [if_pos hbad] at hgo
          simp only [Prod.mk.injEq] at hgo
          obtain ⟨hrl, hol, rfl⟩ := hgo
          have Hrl := Lib.hid hrl
          have Hol := Lib.hid hol
          clear hrl hol q1 q2 h0 h1 h2
          by_cases he : e = 0
          · subst he
            obtain rfl : rk = 4 := by
              rcases hbad with h | h
              · exact absurd rfl h
              · exact h
            clear hbad
            go_wp2_with (refine wpList_store_row rfl rfl 54 (.tmp 8) (.tmp 32) rfl w3.heap.size rfl 54 #[.int .i64 0, .int .i64 0, .slice none 0 0] #[.int .i64 4, .int .i64 rs, .slice ae dn ce] rfl hg1 rfl (by kernel_rfl) (by simp [Value.oneCell']) ?_)
            go_ret3
            exact ⟨aR, n, cR, vs, aO, cO, rfl, Hnv.out, by rw [← Hol.out]; exact Hno.out, HRow4.out.mono HB0.out, Hrl.out, by rw [← Hol.out]; exact HInt4.out.mono HB0.out, HB4'.out⟩
          · have he' : (e != 0) = true := by simpa using he
            clear hbad he
            go_wp2_with (refine wpList_store_row rfl rfl 54 (.tmp 8) (.tmp 32) rfl w3.heap.size rfl 54 #[.int .i64 0, .int .i64 0, .slice none 0 0] #[.int .i64 rk, .int .i64 rs, .slice ae dn ce] rfl hg1 rfl (by kernel_rfl) (by simp [Value.oneCell']) ?_)
            go_ret3
            exact ⟨aR, n, cR, vs, aO, cO, rfl, Hnv.out, by rw [← Hol.out]; exact Hno.out, HRow4.out.mono HB0.out, Hrl.out, by rw [← Hol.out]; exact HInt4.out.mono HB0.out, HB4'.out⟩
        obtain rfl : e = 0 := by
          by_cases h : e = 0
          · exact h
          · exact absurd (.inl h) hbad
        have hr4 : rk ≠ 4 := fun h => hbad (.inr h)
        obtain ⟨rfl, hnx, hd8⟩ := readF_ok Hrd.out
        have hnx : p + 13 + rd.length ≤ l.length := hnx
        have hd8 : rd.length ≤ 8000 := hd8
        rw [← Hdn.out, ← HL.out] at hnx
        rw [← Hdn.out] at hd8
        have hgo := Hgo1.out
        rw [if_neg hbad] at hgo
        have hq : p + 13 + (⟨rk, rs, rd⟩ : Rec).d.length = p + 13 + dn := by rw [Hdn.out]
        rw [hq] at hgo ⊢
        clear hq hbad Hgo1
        by_cases hr5 : rk = 5
        · subst hr5
          have hgo : (recs vs, os, decide ((((p + 13 + dn : Nat) : Int)) = (l.length : Int)) && rightA ⟨4, hsq, hdd⟩ ⟨5, rs, rd⟩ (recs vs).length) = (rl, ol, R) := by rw [if_pos rfl] at hgo; exact hgo
          simp only [Prod.mk.injEq] at hgo
          obtain ⟨hrl, hol, hRR⟩ := hgo
          rw [← HL.out] at hRR
          have Hrl := Lib.hid hrl
          have Hol := Lib.hid hol
          clear hrl hol
          by_cases hend : p + 13 + dn = L
          · have hRR : decide (1 ≤ n ∧ n ≤ 64 ∧ hsq = n ∧ rs = n ∧ hn + dn = 0) = R := by
              rw [decide_eq_true (by omega), Bool.true_and] at hRR
              unfold rightA at hRR
              rw [recs_length, ← Hnv.out] at hRR
              dsimp only at hRR
              rw [← Hhn.out, ← Hdn.out] at hRR
              exact hRR
            have HRR := Lib.hid hRR
            clear hRR hr4
            go_wp2_with (refine wpList_store_row rfl rfl 54 (.tmp 8) (.tmp 32) rfl w3.heap.size rfl 54 #[.int .i64 0, .int .i64 0, .slice none 0 0] #[.int .i64 5, .int .i64 rs, .slice ae dn ce] rfl hg1 rfl (by kernel_rfl) (by simp [Value.oneCell']) ?_)
            refine (right_any15 4 hsq ad hn cd 5 rs ae dn ce aR n cR R _ (by omega) (by omega) HRR.out).mono ?_
            rintro e' w5 ⟨rfl, hb5⟩
            have HB5 := Lib.hid (bthen HB4'.out hb5 (Nat.le_refl _))
            have HRow5 := Lib.hid (HRow4.out.ext hb5)
            have HInt5 := Lib.hid (HInt4.out.ext hb5)
            clear hb5 q0 q1 q2 h0 h1 h2 hg1 hend
            go_wp2
            go_ret3
            exact ⟨aR, n, cR, vs, aO, cO, rfl, Hnv.out, by rw [← Hol.out]; exact Hno.out, HRow5.out.mono HB0.out, Hrl.out, by rw [← Hol.out]; exact HInt5.out.mono HB0.out, HB5.out⟩
          · have hRF : R = false := by rw [← hRR, decide_eq_false (by omega), Bool.false_and]
            subst hRF
            have hend' : ((p : Int) + 13 + (dn : Int) == (L : Int)) = false := by simp; omega
            have hend2 : (((p + 13 + dn : Nat) : Int) == (L : Int)) = false := by simp; omega
            clear hRR hr4 hend h0 h1 h2
            go_wp2_with (refine wpList_store_row rfl rfl 54 (.tmp 8) (.tmp 32) rfl w3.heap.size rfl 54 #[.int .i64 0, .int .i64 0, .slice none 0 0] #[.int .i64 5, .int .i64 rs, .slice ae dn ce] rfl hg1 rfl (by kernel_rfl) (by simp [Value.oneCell']) ?_)
            go_ret3
            exact ⟨aR, n, cR, vs, aO, cO, rfl, Hnv.out, by rw [← Hol.out]; exact Hno.out, HRow4.out.mono HB0.out, Hrl.out, by rw [← Hol.out]; exact HInt4.out.mono HB0.out, HB4'.out⟩
        · have hgo : readGo l ⟨4, hsq, hdd⟩ f' (p + 13 + dn) (recs vs ++ [⟨rk, rs, rd⟩]) (os ++ [(p : Int)]) = (rl, ol, R) := by
            rw [if_neg hr5] at hgo
            have hgo : readGo l ⟨4, hsq, hdd⟩ f' (((p + 13 + dn : Nat) : Int)).toNat (recs vs ++ [⟨rk, rs, rd⟩]) (os ++ [(p : Int)]) = (rl, ol, R) := hgo
            rwa [Int.toNat_natCast] at hgo
          have Hgo2 := Lib.hid hgo
          have e4 : (rk == 4) = false := by simpa using hr4
          have e5 : (rk == 5) = false := by simpa using hr5
          have hnn : n ≤ 4000000 := by omega
          have hbA := ext_alloc ((w3.alloc (.cells #[.int .i64 0, .int .i64 0, .slice none 0 0] 54)).setRow w3.heap.size #[.int .i64 rk, .int .i64 rs, .slice ae dn ce]) (.cells #[.int .i64 rk, .int .i64 rs, .slice ae dn ce] 54)
          have hnew : Src (((w3.alloc (.cells #[.int .i64 0, .int .i64 0, .slice none 0 0] 54)).setRow w3.heap.size #[.int .i64 rk, .int .i64 rs, .slice ae dn ce]).alloc (.cells #[.int .i64 rk, .int .i64 rs, .slice ae dn ce] 54)) (some ⟨w3.heap.size + 1, 0, none⟩) (rvs [⟨rk, rs, ⟨ae, ce, rd⟩⟩]) := by
            have hz : ((w3.alloc (.cells #[.int .i64 0, .int .i64 0, .slice none 0 0] 54)).setRow w3.heap.size #[.int .i64 rk, .int .i64 rs, .slice ae dn ce]).heap.size = w3.heap.size + 1 := by simp
            have := heap_alloc_new ((w3.alloc (.cells #[.int .i64 0, .int .i64 0, .slice none 0 0] 54)).setRow w3.heap.size #[.int .i64 rk, .int .i64 rs, .slice ae dn ce]) (.cells #[.int .i64 rk, .int .i64 rs, .slice ae dn ce] 54)
            rw [hz] at this
            exact Or.inr ⟨w3.heap.size + 1, 0, _, _, _, rfl, this, by rw [Hdn.out]; rfl⟩
          have hrw : Own (((w3.alloc (.cells #[.int .i64 0, .int .i64 0, .slice none 0 0] 54)).setRow w3.heap.size #[.int .i64 rk, .int .i64 rs, .slice ae dn ce]).alloc (.cells #[.int .i64 rk, .int .i64 rs, .slice ae dn ce] 54)) w2.heap.size 54 3 aR n cR (rvs vs) := by
            have := HRow4.out.row.ext hbA
            rwa [← Hnv.out] at this
          have hsz := Nat.le_trans HB4.out.size hbA.size
          have HbA := Lib.hid hbA
          have Hnew := Lib.hid hnew
          have HRw := Lib.hid hrw
          have Hsz := Lib.hid hsz
          clear hgo hr4 hr5 hbA hnew hrw hsz h0 h1 h2
          go_wp2_with first
            | (refine wpList_store_row rfl rfl 54 (.tmp 8) (.tmp 32) rfl w3.heap.size rfl 54 #[.int .i64 0, .int .i64 0, .slice none 0 0] #[.int .i64 rk, .int .i64 rs, .slice ae dn ce] rfl hg1 rfl (by kernel_rfl) (by simp [Value.oneCell']) ?_)
            | (refine wpList_appm rfl (.tmp 61) (.tmp 63) 39 rfl w2.heap.size 54 i0 (.agg #[.int .i64 0, .int .i64 0, .slice none 0 0]) 3 40 Try.underlying39 hi hz0 hz1 hz2 rfl (by decide) aR n cR (rvs vs) rfl HRw.out (some ⟨w3.heap.size + 1, 0, none⟩) 1 1 (rvs [⟨rk, rs, ⟨ae, ce, rd⟩⟩]) rfl rfl Hnew.out (rvs_one _) (by unfold maxLen; omega) (by omega) Hsz.out ?_; intro a5 c5 w5 hA5; have hI5 := (HInt4.out.ext HbA.out).mod (hA5.mod (fun _ T => T = 54) fun _ _ _ _ => rfl) fun _ _ _ hf => absurd (show 3 = 54 from hf) (by decide); have hbi := ext_alloc w5 (.cells #[.int .i64 (p : Int)] 3); have hsz5 := Nat.le_trans (Nat.le_trans Hsz.out hA5.below.size) hbi.size; have HI5 := Lib.hid (hI5.ext hbi); have HbI := Lib.hid hbi; have Hsz5 := Lib.hid hsz5; clear hI5 hbi hsz5)
            | (refine wpList_appm rfl (.tmp 65) (.tmp 67) 41 rfl w2.heap.size 3 i1 (.int .i64 0) 1 8 Try.underlying41 hj hy0 hy1 hy2 rfl (by decide) aO n cO (ivs os) rfl HI5.out (some ⟨w5.heap.size, 0, none⟩) 1 1 [.int .i64 (p : Int)] rfl rfl (src_new w5 _ _) (by simp [Value.oneCell']) (by unfold maxLen; omega) (by omega) Hsz5.out ?_; intro a6 c6 w6 hA6)
            | fail
          have hm5 : Mod (fun _ T => T = 54) _ w5 := hA5.mod _ fun _ _ _ _ => rfl
          have hm6 : Mod (fun _ T => T = 3) w5 w6 := (bmod HbI.out _).trans (hA6.mod _ fun _ _ _ _ => rfl)
          have hn8 : ¬ ((5 : TypeId) = 54) := by decide
          have hown6 : OwnRecs w6 w2.heap.size a5 c5 (vs ++ [⟨rk, rs, ⟨ae, ce, rd⟩⟩]) := by
            refine OwnRecs.keep ⟨?_, fun v hv => ?_⟩ hm6
            · rw [List.length_append, List.length_singleton, ← Hnv.out, rvs_append]
              exact hA5.own
            · rcases List.mem_append.1 hv with h | h
              · exact ((HRow4.out.dat v h).ext HbA.out).mod hm5 fun _ _ _ hf => absurd hf hn8
              · rw [List.mem_singleton.1 h]
                have := (HOd4.out.ext HbA.out).mod hm5 fun _ _ _ hf => absurd hf hn8
                dsimp only
                rw [← Hdn.out]
                exact this
          have hint6 : Own w6 w2.heap.size 3 1 a6 (n + 1) c6 (ivs (os ++ [(p : Int)])) := by
            have := hA6.own
            unfold ivs at this ⊢
            rw [List.map_append]
            exact this
          have hbF := ((HB4.out.trans (HbA.out.mono HB4.out.size)).trans hA5.below).trans ((HbI.out.mono (Nat.le_trans Hsz.out hA5.below.size)).trans hA6.below)
          have HOwn6 := Lib.hid hown6
          have HInt6 := Lib.hid hint6
          have HbF := Lib.hid hbF
          clear hm5 hm6 hn8 hown6 hint6 hbF hA5 hA6 q0 q1 q2 hg1
          go_roundw
          case rel => exact ⟨p + 13 + dn, f', n + 1, a5, c5, vs ++ [⟨rk, rs, ⟨ae, ce, rd⟩⟩], a6, c6, os ++ [(p : Int)], _, rfl, hnx, by omega, by omega, by rw [List.length_append, List.length_singleton, ← Hnv.out], by rw [List.length_append, List.length_singleton, ← Hno.out], rfl, rfl, by go_num, HOwn6.out, HInt6.out, HbF.out, by rw [show recs (vs ++ [⟨rk, rs, ⟨ae, ce, rd⟩⟩]) = recs vs ++ [⟨rk, rs, rd⟩] by simp [recs, RecV.pl]]; exact Hgo2.out⟩
          case measure => simp [intOf]; omega
      · have hgo := Hgo.out
        have hfin : (recs vs, os, false) = (rl, ol, R) := by
          rw [← hgo]
          cases fuel with
          | zero => rfl
          | succ f => rw [readGo, if_neg (by rw [← HL.out]; exact hlt)]
        simp only [Prod.mk.injEq] at hfin
        obtain ⟨hrl, hol, rfl⟩ := hfin
        have Hrl := Lib.hid hrl
        have Hol := Lib.hid hol
        have HBF := Lib.hid (bthen HB1'.out HBr.out (Nat.le_refl _))
        have HB0 := Lib.hid HB1'.out.size
        clear hgo Hgo hrl hol
        go_wp2
        go_ret3
        exact ⟨aR, n, cR, vs, aO, cO, rfl, Hnv.out, by rw [← Hol.out]; exact Hno.out, HOwn.out.mono HB0.out, Hrl.out, by rw [← Hol.out]; exact HInt.out.mono HB0.out, HBF.out⟩
end Go.Proofs.Ytclkkhpnnbkfmaa
