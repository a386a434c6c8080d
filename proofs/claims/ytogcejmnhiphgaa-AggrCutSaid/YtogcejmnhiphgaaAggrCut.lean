/- The walk of AggrCut. -/
import Derived.Test.YtogcejmnhiphgaaAggrSizes
import Derived.Test.YtogcejmnhiphgaaAggrReadQ
import Derived.Test.YtogcejmnhiphgaaAggrRead
namespace Go.Proofs.Ytogcejmnhiphgaa
open Go.RowKit

theorem rowC_len (l : List Byte) (n k : Nat) : (rowC l n k).length = min n (l.length - k * n) := by unfold rowC; rw [List.length_take, List.length_drop]
theorem rowsC_get {l : List Byte} {n i : Nat} (hn : 1 ≤ n) (hi : i < (rowsC l n).length) : 1 ≤ (rowsC l n)[i].length ∧ (rowsC l n)[i].length ≤ n ∧ (i + 1 < (rowsC l n).length → (rowsC l n)[i].length = n) := by
  have hg : (rowsC l n)[i] = rowC l n i := by simp [rowsC]
  rw [hg, rowC_len]
  rw [rowsC_len] at hi ⊢
  have key : ∀ j, j < (l.length + n - 1) / n → j * n < l.length := by
    intro j hj
    have h1 : j + 1 ≤ (l.length + n - 1) / n := hj
    rw [Nat.le_div_iff_mul_le (by omega), Nat.succ_mul] at h1
    omega
  have h1 := key i hi
  refine ⟨by omega, by omega, fun h => ?_⟩
  have h2 := key (i + 1) h
  rw [Nat.succ_mul] at h2
  omega
def cntC (l : List Rec) (k i : Nat) : Nat := (List.range i).countP fun j => decide (offP l (j + 1) ≤ k)
theorem cntC_le (l : List Rec) (k i : Nat) : cntC l k i ≤ i := by
  unfold cntC
  have := List.countP_le_length (p := fun j => decide (offP l (j + 1) ≤ k)) (l := List.range i)
  rwa [List.length_range] at this
theorem cntC_succ (l : List Rec) (k i : Nat) : cntC l k (i + 1) = cntC l k i + (if offP l (i + 1) ≤ k then 1 else 0) := by
  unfold cntC
  rw [List.range_succ, List.countP_append]
  congr 1
  by_cases h : offP l (i + 1) ≤ k <;> simp [h]
theorem cntC_iff (l : List Rec) (k : Nat) : ∀ i j, j < i → (offP l (j + 1) ≤ k ↔ j < cntC l k i) := by
  intro i
  induction i with
  | zero => intro j hj; omega
  | succ i ih =>
    intro j hj
    rw [cntC_succ]
    have hle := cntC_le l k i
    by_cases h : offP l (i + 1) ≤ k
    · rw [if_pos h]
      have hall : cntC l k i = i := by
        by_cases h0 : i = 0
        · subst h0; omega
        · have := (ih (i - 1) (by omega)).1 (Nat.le_trans (offP_mono l (by omega)) h)
          omega
      rw [hall]
      exact ⟨fun _ => by omega, fun _ => Nat.le_trans (offP_mono l (by omega)) h⟩
    · rw [if_neg h, Nat.add_zero]
      by_cases hji : j = i
      · subst hji
        exact ⟨fun h2 => absurd h2 h, fun h2 => by omega⟩
      · exact ih j (by omega)
theorem cntC_cut (l : List Rec) (k : Nat) : cntC l k l.length ≤ l.length ∧ (cntC l k l.length = 0 ∨ offP l (cntC l k l.length) ≤ k) ∧ ∀ j, j < l.length → offP l (j + 1) ≤ k → j < cntC l k l.length := by
  have hle := cntC_le l k l.length
  refine ⟨hle, ?_, fun j hj h => (cntC_iff l k l.length j hj).1 h⟩
  by_cases h0 : cntC l k l.length = 0
  · exact .inl h0
  · right
    have := (cntC_iff l k l.length (cntC l k l.length - 1) (by omega)).2 (by omega)
    rwa [show cntC l k l.length - 1 + 1 = cntC l k l.length by omega] at this

set_option maxRecDepth 100000 in
set_option maxHeartbeats 16000000 in
theorem aggrCut_walk (w : World) (size : Int) (ws : (Lit.int .i64 size).wf = true) (a : Option Addr) (c : Nat) (rs : List RecV) (ha : RMat w a rs) (hl : rs.length ≤ 9223372036854775807) (hlc : rs.length ≤ c) (cut : Int) (wc : (Lit.int .i64 cut).wf = true) :
    Calls Try.prog 6 #[.int .i64 size, .slice a rs.length c, .int .i64 cut] w fun e w' => e = .returned (.bool true) ∧ Below w.heap.size w w' := by
  have HA := Lib.hid ha
  obtain ⟨n, hn⟩ : ∃ n, n = rs.length := ⟨_, rfl⟩
  rw [← hn]
  have HN := Lib.hid hn
  have hn2 : n ≤ 9223372036854775807 := by omega
  have hnc : n ≤ c := by omega
  clear ws wc ha hl hlc hn
  go_enter Try.func6, Try.ntmps6
  go_wp2_with fail
  cases hh : heavy06 rs with
  | true =>
    refine (heavy06_at a c n rs true w HA.out HN.out hn2 hh).mono ?_
    rintro e w1 ⟨rfl, rfl⟩
    go_wp2
    go_ret
    exact ⟨rfl, Below.refl _ _⟩
  | false =>
  have hhv := heavy06_no hh
  refine (heavy06_at a c n rs false w HA.out HN.out hn2 hh).mono ?_
  rintro e w1 ⟨rfl, rfl⟩
  clear hh
  have hn80 : n ≤ 80 := by rw [HN.out]; exact hhv.1
  clear hhv
  obtain ⟨⟨r1, o1, E1⟩, hP1⟩ : ∃ x, x = packP size (recs rs) := ⟨_, rfl⟩
  have HP1 := Lib.hid hP1.symm
  have HQ1 := Lib.hid (packP_no hP1.symm)
  clear hP1
  go_wp2_with fail
  refine (pack_at size a c n rs r1 o1 E1 w HA.out HN.out hn2 HP1.out).mono ?_
  rintro e w3 ⟨aX, m1, cX, aO, no1, cO, bs1, rfl, hR1, hb3⟩
  have HR1 := Lib.hid hR1
  have HB3 := Lib.hid hb3
  clear hR1 hb3
  by_cases hE1 : E1 ≠ 0
  · have hE1' : (E1 == 0) = false := by simpa using hE1
    have hE1n : (E1 != 0) = true := by simpa using hE1
    obtain ⟨rfl, rfl⟩ := HQ1.out.2.1 hE1
    obtain ⟨hx1, hm1, hno1, hx2, hx3⟩ := HR1.out.len
    clear hx1 hx2 hx3
    obtain rfl : m1 = 0 := hm1
    obtain rfl : no1 = 0 := hno1
    clear hE1 HQ1 HR1
    go_wp2_with fail
    refine (wakes15_any w3).mono ?_
    rintro e wB ⟨rfl, hbB⟩
    have HBB := Lib.hid (bthen HB3.out hbB (Nat.le_refl _))
    clear hbB
    go_wp2
    go_ret
    exact ⟨rfl, HBB.out⟩
  · obtain rfl : E1 = 0 := by simpa using hE1
    have HE := Lib.hid HQ1.out.1.symm
    obtain ⟨hr1, ho1⟩ := HQ1.out.2.2 rfl
    subst hr1 ho1
    obtain ⟨hm1, hm1', hno1, hmc1, hnc1⟩ := HR1.out.len
    have hsz := (wholeP_ok HE.out).1
    obtain ⟨sz, rfl⟩ := Int.eq_ofNat_of_zero_le (show 0 ≤ size by omega)
    have Hsh1 := Lib.hid (rows_short HE.out HR1.out.rows)
    have HOk := Lib.hid (aggrOk_of HE.out)
    obtain ⟨all, hall⟩ : ∃ x, x = joinB (aggrL (recs rs)) := ⟨_, rfl⟩
    have Hall := Lib.hid hall
    have Hf1 : Hid (flat bs1 = all) := Lib.hid (by rw [HR1.out.flat, wholeP_flat HE.out, hall])
    have hlb : all.length ≤ 700000 := by
      have h3 := (wholeP_ok HE.out).2.2.1
      have := aggrL_len _ h3
      rw [recs_length, ← HN.out] at this
      rw [hall]
      omega
    have hrow : Hid (∀ i (hi : i < bs1.length), 1 ≤ bs1[i].l.length ∧ bs1[i].l.length ≤ sz ∧ (i + 1 < bs1.length → bs1[i].l.length = sz)) := Lib.hid (by
      intro i hi
      have hrw := HR1.out.rows
      rw [Int.toNat_natCast] at hrw
      have hi2 : i < (rowsC (wholeP (sz : Int) (recs rs)).1 sz).length := by rw [← hrw, List.length_map]; exact hi
      have h1 := rowsC_get (by omega) hi2
      have h2 : (rowsC (wholeP (sz : Int) (recs rs)).1 sz)[i] = bs1[i].l := by simp [← hrw]
      rw [h2, ← hrw, List.length_map] at h1
      exact h1)
    have hof : (offsP (recs rs)).length = n := by unfold offsP; rw [List.length_map, List.length_range, recs_length, HN.out]
    have hno : n = no1 := (hno1.trans hof).symm
    subst hno
    have Hof := Lib.hid hof
    have hge := offP_ge (recs rs) n (by rw [recs_length, HN.out]; exact Nat.le_refl _)
    have hal := aggr_len (recs rs)
    rw [recs_length, ← HN.out, ← hall] at hal
    have Hal := Lib.hid hal
    obtain ⟨La, hLa⟩ : ∃ n, n = all.length := ⟨_, rfl⟩
    rw [← hLa] at hlb hal
    have HLa := Lib.hid hLa
    have Hm1 := Lib.hid hm1
    have hLa13 : 13 ≤ La := by omega
    have hcO : n ≤ cO := hnc1
    have hm1s : m1 ≤ 1000000 := by rw [hm1]; exact Hsh1.out.1
    clear hm1 hm1' hno1 hmc1 hnc1 hall hof hal hge hLa hE1 HQ1
    go_wp2_with fail
    refine (flatg_at aX cX m1 bs1 w3 HR1.out.mat Hm1.out Hsh1.out.1 Hsh1.out.2 Hf1.out HLa.out).mono ?_
    rintro e w4 ⟨aF, cF, rfl, hoF, hb4⟩
    have HB4 := Lib.hid (bthen HB3.out hb4 (Nat.le_refl _))
    have HR1 := Lib.hid (HR1.out.ext hb4)
    have HF := Lib.hid hoF.src
    have hLc := hoF.len.1
    clear hb4 HB3 hoF
    have hLa0 : ((La : Int) == 0) = false := by simp; omega
    go_wp2_with fail
    go_loopw [11] (fun i wx => ∃ (j : Nat), w4 = wx ∧ j ≤ m1 ∧ i = .int .i64 (j : Int)) (fun i _ => m1 - (intOf i).toNat)
    case atStart => exact ⟨0, rfl, by omega, rfl⟩
    case round =>
      obtain ⟨j, rfl, hj, rfl⟩ := hrel
      by_cases hjm : j < m1
      · have hjb : j < bs1.length := by rw [← Hm1.out]; exact hjm
        obtain ⟨x, o, rfl, hlx, hat⟩ := HR1.out.mat.at hjb
        have r0 := hat j hjb
        obtain ⟨h1, h2, h3⟩ := hrow.out j hjb
        generalize bs1[j] = p at *
        obtain ⟨pa, pc, pl⟩ := p
        dsimp only at r0 h1 h2 h3
        rw [← Hm1.out] at h3
        generalize pl.length = y at *
        have h1' : ¬ (y : Int) < 1 := by omega
        have h2' : ¬ (sz : Int) < (y : Int) := by omega
        clear hat
        by_cases hlast : j + 1 < m1
        · obtain rfl : y = sz := h3 hlast
          have hl' : (j : Int) < (m1 : Int) - 1 := by omega
          clear h3 hlast
          go_wp2_with fail
          go_roundw
          case rel => exact ⟨j + 1, by first | trivial | rfl, by omega, by go_num⟩
          case measure => simp [intOf]; omega
        · have hl' : ¬ (j : Int) < (m1 : Int) - 1 := by omega
          clear h3 hlast
          go_wp2_with fail
          go_roundw
          case rel => exact ⟨j + 1, by first | trivial | rfl, by omega, by go_num⟩
          case measure => simp [intOf]; omega
      · obtain rfl : m1 = j := by omega
        clear hjm hj
        go_wp2_with fail
        have Hoff : Hid (∀ j, j < n → (ivs (offsP (recs rs)))[j]? = some (.int .i64 ((offP (recs rs) j : Nat) : Int))) := Lib.hid (by
          intro j hj
          unfold ivs offsP
          rw [List.getElem?_map, List.getElem?_map, List.getElem?_range (by rw [recs_length, ← HN.out]; exact hj)]
          rfl)
        have Hofl : Hid (∀ j, j < n → offP (recs rs) j + 13 + ((recs rs)[j]?.getD Rec.zero).d.length = offP (recs rs) (j + 1) ∧ offP (recs rs) (j + 1) + 13 ≤ La) := Lib.hid (by
          intro j hj
          have hjr : j < (recs rs).length := by rw [recs_length, ← HN.out]; exact hj
          refine ⟨?_, ?_⟩
          · rw [offP_succ hjr, List.getElem?_eq_getElem hjr]
            simp only [Option.getD_some]
            omega
          · have := offP_mono (recs rs) (show j + 1 ≤ n by omega)
            have h2 := Hal.out
            rw [← HLa.out] at h2
            omega)
        have Hrd : Hid (∀ j (hj : j < rs.length), readF all ((offP (recs rs) j : Nat) : Int) = (rs[j].pl, ((offP (recs rs) (j + 1) : Nat) : Int), 0)) := Lib.hid (by
          intro j hj
          have hjr : j < (recs rs).length := by rw [recs_length]; exact hj
          have := readF_rec HOk.out hjr []
          rw [List.append_nil, ← Hall.out] at this
          rw [this]
          simp [recs])
        go_loopw [12] (fun i wx => ∃ (j : Nat) (wr : World), wr = wx ∧ j ≤ n ∧ i = .int .i64 (j : Int) ∧ Below w4.heap.size w4 wr) (fun i _ => n - (intOf i).toNat)
        case atStart => exact ⟨0, _, rfl, by omega, rfl, Below.refl _ _⟩
        case round =>
          obtain ⟨j, wr, hwr, hj, rfl, hbr⟩ := hrel
          subst hwr
          have Hbr := Lib.hid hbr
          clear hbr
          by_cases hjn : j < n
          · have hjr : j < rs.length := by rw [← HN.out]; exact hjn
            obtain ⟨x, rfl, _, hlx, hxat, _⟩ := (HR1.out.offs.ext Hbr.out).at hjn
            obtain ⟨b, o, rfl, hlb0, hat⟩ := HA.out.at hjr
            obtain ⟨c0', c1', c2'⟩ := hat j hjr
            have hrd := Hrd.out j hjr
            have hofl := (Hofl.out j hjn).2
            have hsucc : offP (recs rs) (j + 1) = offP (recs rs) j + (13 + rs[j].d.l.length) := by
              rw [offP_succ (by rw [recs_length]; exact hjr)]
              simp [recs, RecV.pl]
            have hrowx := HA.out.row _ (List.getElem_mem hjr)
            have r0' : wr.cell? ⟨x, j, none⟩ = some (.int .i64 ((offP (recs rs) j : Nat) : Int)) := by
              have hl : j < (ivs (offsP (recs rs))).length := by rw [ivs_length, Hof.out]; exact hjn
              rw [hxat j hl]
              have := Hoff.out j hjn
              rw [List.getElem?_eq_getElem hl] at this
              exact this
            generalize rs[j] = v at *
            obtain ⟨xk, xs, xa, xc, dl⟩ := v
            obtain ⟨q, hq⟩ : ∃ q, q = offP (recs rs) j := ⟨_, rfl⟩
            obtain ⟨dn, hdn⟩ : ∃ n, n = dl.length := ⟨_, rfl⟩
            dsimp only at c0' c1' c2' hsucc hrowx
            rw [← hq] at hrd hsucc r0'
            rw [← hdn] at hsucc c2'
            rw [hsucc] at hrd hofl
            have HRdd := Lib.hid (frread_at aF La cF all (q : Int) ⟨xk, xs, dl⟩ ((q + (13 + dn) : Nat) : Int) 0 wr (HF.out.ext Hbr.out) HLa.out hLc (by omega) hrd)
            have Hdn := Lib.hid hdn
            have Hrow := Lib.hid hrowx.1
            have hB4r := bthen HB4.out Hbr.out (Nat.le_refl _)
            have HB4r := Lib.hid hB4r
            have Hc0 := Lib.hid c0'
            have Hc1 := Lib.hid c1'
            have Hc2 := Lib.hid c2'
            have Hr0 := Lib.hid r0'
            have Hlb0 := Lib.hid hlb0
            have Hlx := Lib.hid hlx
            clear hat hrd hsucc hrowx hq hdn hxat hB4r c0' c1' c2' hlb0 hlx
            have r0 := r0'
            clear r0'
            go_wp2_with fail
            refine HRdd.out.mono ?_
            rintro e w5 ⟨ad, cd, rfl, hod, hb5⟩
            dsimp only at hod ⊢
            rw [← Hdn.out] at hod ⊢
            clear r0
            have hg1 := heap_alloc_new w5 (.cells #[.int .i64 0, .int .i64 0, .slice none 0 0] 39)
            have hg2 := setRow_heap _ w5.heap.size _ #[.int .i64 xk, .int .i64 xs, .slice ad dn cd] _ _ hg1
            have hbp := bsetRow (ext_alloc w5 (.cells #[.int .i64 0, .int .i64 0, .slice none 0 0] 39)) (Nat.le_refl _) #[.int .i64 xk, .int .i64 xs, .slice ad dn cd]
            have hb6 := bthen hb5 hbp (Nat.le_refl _)
            have Hd1 : Hid (Src ((w5.alloc (.cells #[.int .i64 0, .int .i64 0, .slice none 0 0] 39)).setRow w5.heap.size #[.int .i64 xk, .int .i64 xs, .slice ad dn cd]) ad (bvs dl)) := Lib.hid (hod.src.ext hbp)
            have HG2 := Lib.hid hg2
            have Hb6 := Lib.hid hb6
            clear hg2 hbp hb6 hb5 hod HRdd
            go_wp2_with (refine wpList_store_row rfl rfl 39 (.tmp 13) (.tmp 106) rfl w5.heap.size rfl 39 #[.int .i64 0, .int .i64 0, .slice none 0 0] #[.int .i64 xk, .int .i64 xs, .slice ad dn cd] rfl hg1 rfl (by kernel_rfl) (by simp [Value.oneCell']) ?_)
            generalize hwx : World.setRow _ _ _ = w6 at *
            have HG2 : Hid (w6.heap[w5.heap.size]? = some (.cells #[.int .i64 xk, .int .i64 xs, .slice ad dn cd] 39 (0, 0))) := HG2
            generalize w5.heap.size = g13 at *
            clear hwx hg1
            have hl13 := heap_lt HG2.out
            have k0 := cell_of_row _ g13 0 _ _ _ HG2.out
            have k1 := cell_of_row _ g13 1 _ _ _ HG2.out
            have k2 := cell_of_row _ g13 2 _ _ _ HG2.out
            have hbw6 := bthen HB4r.out Hb6.out (Nat.le_refl _)
            have hlb2 := Nat.lt_of_lt_of_le Hlb0.out hbw6.size
            have hlx2 := Nat.lt_of_lt_of_le Hlx.out Hb6.out.size
            have c0 := (World.cell?_of_block (w := w) (a := ⟨b, o + j * 3, none⟩) (hbw6.block b Hlb0.out)).trans Hc0.out
            have c1 := (World.cell?_of_block (w := w) (a := ⟨b, o + j * 3 + 1, none⟩) (hbw6.block b Hlb0.out)).trans Hc1.out
            have c2 := (World.cell?_of_block (w := w) (a := ⟨b, o + j * 3 + 2, none⟩) (hbw6.block b Hlb0.out)).trans Hc2.out
            have r0 := (World.cell?_of_block (w := wr) (a := ⟨x, j, none⟩) (Hb6.out.block x Hlx.out)).trans Hr0.out
            have Hd2 : Hid (Src w6 xa (bvs dl)) := Lib.hid (Hrow.out.ext hbw6)
            have Hd1' : Hid ((⟨ad, cd, dl⟩ : Bsl).ok w6) := Lib.hid ⟨Hd1.out, by show dl.length ≤ _; rw [← Hdn.out]; omega⟩
            have Hd2' : Hid ((⟨xa, xc, dl⟩ : Bsl).ok w6) := Lib.hid ⟨Hd2.out, by show dl.length ≤ _; rw [← Hdn.out]; omega⟩
            have Hd1 := Hd1'
            have Hd2 := Hd2'
            have hq1M : q + 13 + dn ≤ 1000000 := by omega
            clear hbw6 Hd1' Hd2'
            go_wp2_with fail
            refine wp_region_sp (by kernel_rfl) [Sp.eq (.int .i64 0), Sp.eq (.bool false), Sp.eq (.bool false), Sp.eq (.agg #[.int .i64 xk, .int .i64 xs, .slice ad dn cd]), Sp.eq (.slice (some ⟨b, o, none⟩) n c), Sp.eq (.int .i64 (j : Int)), Sp.eq (.pointer (some ⟨b, o + j * 3, none⟩)), Sp.eq (.agg #[.int .i64 xk, .int .i64 xs, .slice xa dn xc]), Sp.eq (.bool true), Sp.eq (.bool false), Sp.eq (.bool false), Sp.eq (.bool false), Sp.eq (.int .i64 ((q : Int) + (13 + (dn : Int)))), Sp.eq (.slice (some ⟨x, 0, none⟩) n cO), Sp.eq (.int .i64 (j : Int)), Sp.eq (.pointer (some ⟨x, j, none⟩)), Sp.eq (.int .i64 ((q : Nat) : Int)), Sp.eq (.int .i64 (((q : Nat) : Int) + 13)), Sp.eq (.slice (some ⟨b, o, none⟩) n c), Sp.eq (.int .i64 (j : Int)), Sp.eq (.pointer (some ⟨b, o + j * 3, none⟩)), Sp.eq (.pointer (some ⟨b, o + j * 3 + 2, none⟩)), Sp.eq (.slice xa dn xc), Sp.eq (.int .i64 (dn : Int)), Sp.eq (.int .i64 ((q : Int) + (13 + (dn : Int)))), Sp.eq (.bool false), Sp.eq (.bool false)] (by kernel_rfl) ?_ ?_
            · refine stepsOk_cons ?_ (stepsOk_cons ?_ (stepsOk_cons ?_ (stepsOk_cons ?_ (stepsOk_cons ?_ (stepsOk_cons ?_ (stepsOk_cons ?_ (stepsOk_cons ?_ (stepsOk_cons ?_ (stepsOk_cons ?_ (stepsOk_cons ?_ (stepsOk_cons ?_ (stepsOk_cons ?_ (stepsOk_cons ?_ (stepsOk_cons ?_ (stepsOk_cons ?_ (stepsOk_cons ?_ (stepsOk_cons ?_ (stepsOk_cons ?_ (stepsOk_cons ?_ (stepsOk_cons ?_ (stepsOk_cons ?_ (stepsOk_cons ?_ (stepsOk_cons ?_ (stepsOk_cons ?_ (stepsOk_cons ?_ (stepsOk_cons ?_ (stepsOk_nil)))))))))))))))))))))))))))
              · intro ρ w' E
                have e15 : ρ (.tmp 15) = .int .i64 0 := E.out 15 rfl
                refine step_plain rfl ?_
                exact op_move (.inl rfl) e15 ⟨Below.refl _ _, rfl⟩
              · intro ρ w' E
                have e109 : ρ (.tmp 109) = .int .i64 0 := E.pre 0 rfl
                refine step_plain rfl ?_
                refine op_val (v := .bool false) (w' := w') ?_ ⟨Below.refl _ _, rfl⟩
                have hcon := E.con
                clear E k0 k1 k2 c0 c1 c2 r0
                go_simp
              · intro ρ w' E
                have e110 : ρ (.tmp 110) = .bool false := E.pre 1 rfl
                refine step_plain rfl ?_
                exact op_move (.inl rfl) e110 ⟨Below.refl _ _, rfl⟩
              · intro ρ w' E
                have e13 : ρ (.tmp 13) = .pointer (some ⟨g13, 0, none⟩) := E.out 13 rfl
                refine step_yes rfl (E.pre 2 rfl) ?_
                refine op_val (v := .agg #[.int .i64 xk, .int .i64 xs, .slice ad dn cd]) (w' := w') ?_ ⟨Below.refl _ _, rfl⟩
                have q0 := (World.cell?_of_block (w := w6) (E.below.block _ hl13)).trans k0
                have q1 := (World.cell?_of_block (w := w6) (E.below.block _ hl13)).trans k1
                have q2 := (World.cell?_of_block (w := w6) (E.below.block _ hl13)).trans k2
                have hcon := E.con
                clear E k0 k1 k2 c0 c1 c2 r0
                go_simp
              · intro ρ w' E
                have e1 : ρ (.tmp 1) = .slice (some ⟨b, o, none⟩) n c := E.out 1 rfl
                refine step_yes rfl (E.pre 2 rfl) ?_
                exact op_move (.inl rfl) e1 ⟨Below.refl _ _, rfl⟩
              · intro ρ w' E
                have e12 : ρ (.tmp 12) = .int .i64 (j : Int) := E.out 12 rfl
                refine step_yes rfl (E.pre 2 rfl) ?_
                exact op_move (.inl rfl) e12 ⟨Below.refl _ _, rfl⟩
              · intro ρ w' E
                have e113 : ρ (.tmp 113) = .slice (some ⟨b, o, none⟩) n c := E.pre 4 rfl
                have e114 : ρ (.tmp 114) = .int .i64 (j : Int) := E.pre 5 rfl
                refine step_yes rfl (E.pre 2 rfl) ?_
                refine op_val (v := .pointer (some ⟨b, o + j * 3, none⟩)) (w' := w') ?_ ⟨Below.refl _ _, rfl⟩
                have hcon := E.con
                clear E k0 k1 k2 c0 c1 c2 r0
                go_simp
              · intro ρ w' E
                have e115 : ρ (.tmp 115) = .pointer (some ⟨b, o + j * 3, none⟩) := E.pre 6 rfl
                refine step_yes rfl (E.pre 2 rfl) ?_
                refine op_val (v := .agg #[.int .i64 xk, .int .i64 xs, .slice xa dn xc]) (w' := w') ?_ ⟨Below.refl _ _, rfl⟩
                have q0 := (World.cell?_of_block (w := w6) (E.below.block _ hlb2)).trans c0
                have q1 := (World.cell?_of_block (w := w6) (E.below.block _ hlb2)).trans c1
                have q2 := (World.cell?_of_block (w := w6) (E.below.block _ hlb2)).trans c2
                have hcon := E.con
                clear E k0 k1 k2 c0 c1 c2 r0
                go_simp
              · intro ρ w' E
                have e112 : ρ (.tmp 112) = .agg #[.int .i64 xk, .int .i64 xs, .slice ad dn cd] := E.pre 3 rfl
                have e116 : ρ (.tmp 116) = .agg #[.int .i64 xk, .int .i64 xs, .slice xa dn xc] := E.pre 7 rfl
                refine step_yes rfl (E.pre 2 rfl) ?_
                refine op_call (f := 26) (args := #[.agg #[.int .i64 xk, .int .i64 xs, .slice ad dn cd], .agg #[.int .i64 xk, .int .i64 xs, .slice xa dn xc]]) (w' := w') (by have hcon := E.con; have hfn := E.fn; clear E; go_simp) ?_
                have hrr := record_at ⟨xk, xs, ⟨ad, cd, dl⟩⟩ ⟨xk, xs, ⟨xa, xc, dl⟩⟩ true w' (Hd1.out.ext E.below) (Hd2.out.ext E.below) (by simp [RecV.pl])
                unfold RecV.val at hrr
                dsimp only at hrr
                rw [← Hdn.out] at hrr
                refine hrr.mono ?_
                rintro e wz ⟨rfl, hbz⟩
                exact ⟨_, rfl, hbz, rfl⟩
              · intro ρ w' E
                have e117 : ρ (.tmp 117) = .bool true := E.pre 8 rfl
                refine step_yes rfl (E.pre 2 rfl) ?_
                refine op_val (v := .bool false) (w' := w') ?_ ⟨Below.refl _ _, rfl⟩
                have hcon := E.con
                clear E k0 k1 k2 c0 c1 c2 r0
                go_simp
              · intro ρ w' E
                have e111 : ρ (.tmp 111) = .bool false := E.pre 2 rfl
                have e118 : ρ (.tmp 118) = .bool false := E.pre 9 rfl
                refine step_plain rfl ?_
                exact op_pick (b := false) rfl e111 rfl ⟨Below.refl _ _, e118⟩
              · intro ρ w' E
                have e119 : ρ (.tmp 119) = .bool false := E.pre 10 rfl
                refine step_plain rfl ?_
                exact op_move (.inl rfl) e119 ⟨Below.refl _ _, rfl⟩
              · intro ρ w' E
                have e14 : ρ (.tmp 14) = .int .i64 ((q : Int) + (13 + (dn : Int))) := E.out 14 rfl
                refine step_yes rfl (E.pre 11 rfl) ?_
                exact op_move (.inl rfl) e14 ⟨Below.refl _ _, rfl⟩
              · intro ρ w' E
                have e8 : ρ (.tmp 8) = .slice (some ⟨x, 0, none⟩) n cO := E.out 8 rfl
                refine step_yes rfl (E.pre 11 rfl) ?_
                exact op_move (.inl rfl) e8 ⟨Below.refl _ _, rfl⟩
              · intro ρ w' E
                have e12 : ρ (.tmp 12) = .int .i64 (j : Int) := E.out 12 rfl
                refine step_yes rfl (E.pre 11 rfl) ?_
                exact op_move (.inl rfl) e12 ⟨Below.refl _ _, rfl⟩
              · intro ρ w' E
                have e122 : ρ (.tmp 122) = .slice (some ⟨x, 0, none⟩) n cO := E.pre 13 rfl
                have e123 : ρ (.tmp 123) = .int .i64 (j : Int) := E.pre 14 rfl
                refine step_yes rfl (E.pre 11 rfl) ?_
                refine op_val (v := .pointer (some ⟨x, j, none⟩)) (w' := w') ?_ ⟨Below.refl _ _, rfl⟩
                have hcon := E.con
                clear E k0 k1 k2 c0 c1 c2 r0
                go_simp
              · intro ρ w' E
                have e124 : ρ (.tmp 124) = .pointer (some ⟨x, j, none⟩) := E.pre 15 rfl
                refine step_yes rfl (E.pre 11 rfl) ?_
                refine op_val (v := .int .i64 ((q : Nat) : Int)) (w' := w') ?_ ⟨Below.refl _ _, rfl⟩
                have q0 := (World.cell?_of_block (w := w6) (E.below.block _ hlx2)).trans r0
                have hcon := E.con
                clear E k0 k1 k2 c0 c1 c2 r0
                go_simp
              · intro ρ w' E
                have e125 : ρ (.tmp 125) = .int .i64 ((q : Nat) : Int) := E.pre 16 rfl
                refine step_yes rfl (E.pre 11 rfl) ?_
                refine op_val (v := .int .i64 (((q : Nat) : Int) + 13)) (w' := w') ?_ ⟨Below.refl _ _, rfl⟩
                have hcon := E.con
                clear E k0 k1 k2 c0 c1 c2 r0
                go_simp
                rw [IntKind.wrap_i64]
                omega
              · intro ρ w' E
                have e1 : ρ (.tmp 1) = .slice (some ⟨b, o, none⟩) n c := E.out 1 rfl
                refine step_yes rfl (E.pre 11 rfl) ?_
                exact op_move (.inl rfl) e1 ⟨Below.refl _ _, rfl⟩
              · intro ρ w' E
                have e12 : ρ (.tmp 12) = .int .i64 (j : Int) := E.out 12 rfl
                refine step_yes rfl (E.pre 11 rfl) ?_
                exact op_move (.inl rfl) e12 ⟨Below.refl _ _, rfl⟩
              · intro ρ w' E
                have e127 : ρ (.tmp 127) = .slice (some ⟨b, o, none⟩) n c := E.pre 18 rfl
                have e128 : ρ (.tmp 128) = .int .i64 (j : Int) := E.pre 19 rfl
                refine step_yes rfl (E.pre 11 rfl) ?_
                refine op_val (v := .pointer (some ⟨b, o + j * 3, none⟩)) (w' := w') ?_ ⟨Below.refl _ _, rfl⟩
                have hcon := E.con
                clear E k0 k1 k2 c0 c1 c2 r0
                go_simp
              · intro ρ w' E
                have e129 : ρ (.tmp 129) = .pointer (some ⟨b, o + j * 3, none⟩) := E.pre 20 rfl
                refine step_yes rfl (E.pre 11 rfl) ?_
                refine op_val (v := .pointer (some ⟨b, o + j * 3 + 2, none⟩)) (w' := w') ?_ ⟨Below.refl _ _, rfl⟩
                have hcon := E.con
                clear E k0 k1 k2 c0 c1 c2 r0
                go_simp
              · intro ρ w' E
                have e130 : ρ (.tmp 130) = .pointer (some ⟨b, o + j * 3 + 2, none⟩) := E.pre 21 rfl
                refine step_yes rfl (E.pre 11 rfl) ?_
                refine op_val (v := .slice xa dn xc) (w' := w') ?_ ⟨Below.refl _ _, rfl⟩
                have q0 := (World.cell?_of_block (w := w6) (E.below.block _ hlb2)).trans c2
                have hcon := E.con
                clear E k0 k1 k2 c0 c1 c2 r0
                go_simp
              · intro ρ w' E
                have e131 : ρ (.tmp 131) = .slice xa dn xc := E.pre 22 rfl
                refine step_yes rfl (E.pre 11 rfl) ?_
                refine op_val (v := .int .i64 (dn : Int)) (w' := w') ?_ ⟨Below.refl _ _, rfl⟩
                have hcon := E.con
                clear E k0 k1 k2 c0 c1 c2 r0
                go_simp
              · intro ρ w' E
                have e126 : ρ (.tmp 126) = .int .i64 (((q : Nat) : Int) + 13) := E.pre 17 rfl
                have e132 : ρ (.tmp 132) = .int .i64 (dn : Int) := E.pre 23 rfl
                refine step_yes rfl (E.pre 11 rfl) ?_
                refine op_val (v := .int .i64 ((q : Int) + (13 + (dn : Int)))) (w' := w') ?_ ⟨Below.refl _ _, rfl⟩
                have hcon := E.con
                clear E k0 k1 k2 c0 c1 c2 r0
                go_simp
                rw [IntKind.wrap_i64]
                omega
              · intro ρ w' E
                have e121 : ρ (.tmp 121) = .int .i64 ((q : Int) + (13 + (dn : Int))) := E.pre 12 rfl
                have e133 : ρ (.tmp 133) = .int .i64 ((q : Int) + (13 + (dn : Int))) := E.pre 24 rfl
                refine step_yes rfl (E.pre 11 rfl) ?_
                refine op_val (v := .bool false) (w' := w') ?_ ⟨Below.refl _ _, rfl⟩
                have hcon := E.con
                clear E k0 k1 k2 c0 c1 c2 r0
                go_simp
              · intro ρ w' E
                have e120 : ρ (.tmp 120) = .bool false := E.pre 11 rfl
                have e134 : ρ (.tmp 134) = .bool false := E.pre 25 rfl
                refine step_plain rfl ?_
                exact op_pick (b := false) rfl e120 rfl ⟨Below.refl _ _, e134⟩
            · intro σ wF hb hall
              have h135 : σ 135 = .bool false := by obtain ⟨_, _, _, _, _, _, _, _, _, _, _, _, _, _, _, _, _, _, _, _, _, _, _, _, _, _, h, _⟩ := hall; exact h
              clear hall
              simp only [upd, updL, dstsOf', elemB, List.filterMap_cons, List.filterMap_nil, Nat.reduceAdd, Nat.reduceBEq, Bool.or_false, Bool.false_or, Bool.or_true, Bool.true_or, cond_true, cond_false, Nat.zero_add, h135]
              have HbF := Lib.hid (bthen (bthen Hbr.out Hb6.out (Nat.le_refl _)) hb (Nat.le_refl _))
              clear hb h135 c0 c1 c2 r0 k0 k1 k2
              go_wp2_with fail
              go_roundw
              case rel => exact ⟨j + 1, _, rfl, by omega, by go_num, HbF.out⟩
              case measure => simp [intOf]; omega
          · obtain rfl : n = j := by omega
            obtain ⟨k, hk, ep⟩ := umod cut (La : Int) (by omega) (by omega)
            have hkL : k < La := by omega
            obtain ⟨m, hm⟩ : ∃ m, m = cntC (recs rs) k n := ⟨_, rfl⟩
            have hcut := cntC_cut (recs rs) k
            rw [recs_length, ← HN.out, ← hm] at hcut
            have hmn : m ≤ n := hcut.1
            have hrA : readA (all.take k) = ((recs rs).take m, offsT (recs rs) m, false) := by
              rw [Hall.out]
              exact readA_cut HOk.out (by rw [← Hall.out, ← HLa.out]; exact hkL) (by rw [recs_length, ← HN.out]; exact hmn) hcut.2.1 (fun j hj h => hcut.2.2 j (by rw [HN.out, ← recs_length rs]; exact hj) h)
            have HrA := Lib.hid hrA
            have Hm := Lib.hid hm
            have hkc : k ≤ cF := by omega
            have HBr := Lib.hid (bthen HB4.out Hbr.out (Nat.le_refl _))
            have Hok5 := Lib.hid (HR1.out.offs.src.ext Hbr.out)
            have HFk : Hid (Src wr aF (bvs (all.take k))) := Lib.hid (by rw [bvs_take]; exact (HF.out.ext Hbr.out).take k)
            have Hkl : Hid (k = (all.take k).length) := Lib.hid (by rw [List.length_take, ← HLa.out]; omega)
            clear hcut hrA hm hk HF Hbr
            have hkcI : (k : Int) ≤ (cF : Int) := by omega
            go_wp2_with fail
            try rw [ep]
            clear ep hkcI
            have hnm1 : decide ((n : Int) < (m : Int)) = false := decide_eq_false (by omega)
            have hnm2 : decide (n < m) = false := decide_eq_false (by omega)
            refine (aread_at aF k cF (all.take k) ((recs rs).take m) (offsT (recs rs) m) false wr HFk.out Hkl.out hkc (by omega) HrA.out).mono ?_
            rintro e w7 ⟨aR, n8, cR, vs, aP, cP, rfl, hv1, hv2, hv3, hv4, hv5, hb8⟩
            have hn8 : m = n8 := by rw [hv2]; simp [offsT]
            subst hn8
            have Hv1 := Lib.hid hv1
            have Hv3 := Lib.hid hv3.mat
            have Hv4 := Lib.hid hv4
            have Hv5 := Lib.hid hv5.src
            have B8 := Lib.hid (bthen HBr.out hb8 (Nat.le_refl _))
            have Ho8 := Lib.hid (Hok5.out.ext hb8)
            have hmc : m ≤ c := by omega
            have hmcO : m ≤ cO := by omega
            clear hv1 hv2 hv3 hv4 hv5 hb8 HBr Hok5 HFk
            go_wp2_with fail
            have hmr : m = (rs.take m).length := by rw [List.length_take, ← HN.out]; omega
            have hmo : m = (offsT (recs rs) m).length := by simp [offsT]
            have hmo2 : m = ((offsP (recs rs)).take m).length := by rw [List.length_take, Hof.out]; omega
            have hoT : offsT (recs rs) m = (offsP (recs rs)).take m := by
              unfold offsT offsP
              rw [← List.map_take, List.take_range, recs_length, ← HN.out, Nat.min_eq_left hmn]
            have Hmr := Lib.hid hmr
            have Hmo := Lib.hid hmo
            have Hmo2 := Lib.hid hmo2
            have HoT := Lib.hid hoT
            clear hmr hmo hmo2 hoT
            refine (records_at aR cR vs a c (rs.take m) w7 m m true Hv3.out ((HA.out.ext B8.out).take m) Hv1.out Hmr.out (by omega) (by omega) (by rw [Hv4.out]; simp [recs, List.map_take])).mono ?_
            rintro e w9 ⟨rfl, hb9⟩
            have B9 := Lib.hid (bthen B8.out hb9 (Nat.le_refl _))
            have Ho9 := Lib.hid (Ho8.out.ext hb9)
            have Hv5 := Lib.hid (Hv5.out.ext hb9)
            clear hb9 B8 Ho8 Hv3 Hv4 Hv1
            go_wp2_with fail
            refine (keepints_at aP cP (offsT (recs rs) m) aO cO ((offsP (recs rs)).take m) w9 m m true Hv5.out (by unfold ivs; rw [List.map_take]; exact Ho9.out.take m) Hmo.out Hmo2.out (by omega) (by omega) (by rw [HoT.out]; simp)).mono ?_
            rintro e wA ⟨rfl, hbA⟩
            have BA := Lib.hid (bthen B9.out hbA (Nat.le_refl _))
            have HoA := Lib.hid (Ho9.out.ext hbA)
            clear hbA B9 Ho9 Hv5
            go_wp2_with fail
            clear hnm1 hnm2
            go_loopw [20, 21] (fun cv i wx => ∃ (j nd : Nat), wx = wA.drewN nd ∧ j ≤ n ∧ cv = .int .i64 (cntC (recs rs) k j : Int) ∧ i = .int .i64 (j : Int)) (fun _ i _ => n - (intOf i).toNat)
            case atStart => exact ⟨0, 0, rfl, by omega, rfl, rfl⟩
            case round =>
              obtain ⟨j, nd, rfl, hj, rfl, rfl⟩ := hrel
              have hcl := cntC_le (recs rs) k j
              have hcs := cntC_succ (recs rs) k j
              obtain ⟨y, hy⟩ : ∃ y, y = cntC (recs rs) k j := ⟨_, rfl⟩
              rw [← hy] at hcl hcs ⊢
              have Hcs := Lib.hid hcs
              have Hy := Lib.hid hy
              clear hcs hy
              by_cases hjn : j < n
              · have hjr : j < rs.length := by rw [← HN.out]; exact hjn
                have hjl : j < (ivs (offsP (recs rs))).length := by rw [ivs_length, Hof.out]; exact hjn
                obtain ⟨x, ox, rfl, hlx, hxat⟩ := HoA.out.at hjl
                obtain ⟨b, o, rfl, hlb0, hat⟩ := HA.out.at hjr
                obtain ⟨_, _, c2'⟩ := hat j hjr
                have hofl := (Hofl.out j hjn).2
                have hsucc : offP (recs rs) (j + 1) = offP (recs rs) j + (13 + rs[j].d.l.length) := by
                  rw [offP_succ (by rw [recs_length]; exact hjr)]
                  simp [recs, RecV.pl]
                have r0 : wA.cell? ⟨x, ox + j, none⟩ = some (.int .i64 ((offP (recs rs) j : Nat) : Int)) := by
                  rw [hxat j hjl]
                  have := Hoff.out j hjn
                  rw [List.getElem?_eq_getElem hjl] at this
                  exact this
                have c2 := (World.cell?_of_block (w := w) (a := ⟨b, o + j * 3 + 2, none⟩) (BA.out.block b hlb0)).trans c2'
                generalize rs[j].d.l.length = dn at *
                generalize rs[j].d.a = xa at *
                generalize rs[j].d.c = xc at *
                obtain ⟨q, hq⟩ : ∃ q, q = offP (recs rs) j := ⟨_, rfl⟩
                rw [← hq] at hsucc r0
                rw [hsucc] at hofl
                have Hsu := Lib.hid hsucc
                clear hat c2' hxat hsucc hq hlb0 hlx
                by_cases hle : offP (recs rs) (j + 1) ≤ k
                · have hle' : (q : Int) + 13 + (dn : Int) ≤ (k : Int) := by rw [Hsu.out] at hle; omega
                  have hcz : cntC (recs rs) k (j + 1) = y + 1 := by rw [Hcs.out, if_pos hle]
                  have Hcz := Lib.hid hcz
                  clear hle hcz
                  go_wp2_with fail
                  go_quiet (fail)
                  go_wp2
                  go_roundw
                  case rel => exact ⟨j + 1, nd + nq, rfl, by omega, by rw [Hcz.out]; go_num, by go_num⟩
                  case measure => simp [intOf]; omega
                · have hle' : ¬ (q : Int) + 13 + (dn : Int) ≤ (k : Int) := by rw [Hsu.out] at hle; omega
                  have hcz : cntC (recs rs) k (j + 1) = y := by rw [Hcs.out, if_neg hle, Nat.add_zero]
                  have Hcz := Lib.hid hcz
                  clear hle hcz
                  go_wp2_with fail
                  go_quiet (fail)
                  go_wp2
                  go_roundw
                  case rel => exact ⟨j + 1, nd + nq, rfl, by omega, by rw [Hcz.out], by go_num⟩
                  case measure => simp [intOf]; omega
              · obtain rfl : n = j := by omega
                obtain rfl : y = m := by rw [Hy.out, Hm.out]
                go_wp2_with fail
                refine (wakes15_any _).mono ?_
                rintro e wB ⟨rfl, hbB⟩
                have HBB := Lib.hid (bthen BA.out (bthen (ext_drewN wA nd wA.heap.size) hbB (Nat.le_refl _)) (Nat.le_refl _))
                clear hbB
                go_wp2
                go_ret
                exact ⟨rfl, HBB.out⟩
end Go.Proofs.Ytogcejmnhiphgaa
