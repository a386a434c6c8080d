/- Several texts of this claim, one behind the other: Label, Equal. -/
import Derived.Test.YtclkkhpnnbkfmaaVolumeBackPartS
import Derived.Test.YtclkkhpnnbkfmaaVolumeBackPartQ
import Derived.Test.YtclkkhpnnbkfmaaVolumeBackPartD
import Derived.Lib.SlBytesConst
import Derived.Test.YtclkkhpnnbkfmaaVolumeBackPartB
/- Labels: what Check, Bytes and the page's functions return. -/
namespace Go.Proofs.Ytclkkhpnnbkfmaa
open Go.RowKit

set_option maxRecDepth 100000

def labV (v p e : Int) : Value := .agg #[.int .i64 v, .int .i64 p, .int .i64 e]

theorem labcheck_ok (v p e : Int) (w : World) (h0 : 0 ≤ v) (h1 : v < 8) (h2 : 0 ≤ p) (h3 : p ≤ 1) (h4 : 0 ≤ e) (h5 : e ≤ 1048576) :
    Calls Try.prog 112 #[labV v p e] w fun r w' => r = .returned (.int .i64 0) ∧ Below w.heap.size w w' := by
  unfold labV
  go_enter Try.func112, Try.ntmps112
  go_wp2
  go_ret
  exact ⟨rfl, ext_alloc _ _⟩

theorem labcheck_no (v p e : Int) (w : World) (h : ¬ (0 ≤ v ∧ v < 8 ∧ 0 ≤ p ∧ p ≤ 1 ∧ 0 ≤ e ∧ e ≤ 1048576)) :
    Calls Try.prog 112 #[labV v p e] w fun r w' => r = .returned (.int .i64 1) ∧ Below w.heap.size w w' := by
  unfold labV
  have hc : v < 0 ∨ (0 ≤ v ∧ 8 ≤ v) ∨ (0 ≤ v ∧ v < 8 ∧ p < 0) ∨ (0 ≤ v ∧ v < 8 ∧ 0 ≤ p ∧ 1 < p) ∨ (0 ≤ v ∧ v < 8 ∧ 0 ≤ p ∧ p ≤ 1 ∧ e < 0) ∨ (0 ≤ v ∧ v < 8 ∧ 0 ≤ p ∧ p ≤ 1 ∧ 0 ≤ e ∧ 1048576 < e) := by omega
  clear h
  rcases hc with h0 | ⟨h0, h1⟩ | ⟨h0, h1, h2⟩ | ⟨h0, h1, h2, h3⟩ | ⟨h0, h1, h2, h3, h4⟩ | ⟨h0, h1, h2, h3, h4, h5⟩
  all_goals
    go_enter Try.func112, Try.ntmps112
    go_wp2
    go_ret
    exact ⟨rfl, ext_alloc _ _⟩

theorem labcheck_any (v p e : Int) (w : World) :
    Calls Try.prog 112 #[labV v p e] w fun r w' => r = .returned (.int .i64 (labE v p e)) ∧ Below w.heap.size w w' := by
  cases h : okL v p e with
  | true =>
    rw [labE_ok h]
    rw [okL_iff] at h
    obtain ⟨h0, h1, h2, h3, h4, h5⟩ := h
    exact labcheck_ok v p e w h0 h1 h2 h3 h4 h5
  | false =>
    rw [labE_no h]
    exact labcheck_no v p e w (fun hh => by rw [okL_iff.2 hh] at h; cases h)
theorem labcheck_at (v p e : Int) (E : Int) (w : World) (h : labE v p e = E) :
    Calls Try.prog 112 #[labV v p e] w fun r w' => r = .returned (.int .i64 E) ∧ Below w.heap.size w w' := by subst h; exact labcheck_any v p e w

set_option maxHeartbeats 1000000 in
theorem labbytes_ok (v p e : Nat) (w : World) (h1 : v < 8) (h3 : p ≤ 1) (h5 : e ≤ 1048576) :
    Calls Try.prog 73 #[labV v p e] w fun r w' => ∃ a' c', r = .returned (.tuple #[.slice a' 14 c', .int .i64 0]) ∧ Own w' w.heap.size 5 1 a' 14 c' (bvs (lbytes v p e)) ∧ Below w.heap.size w w' := by
  obtain ⟨i0, hi, hz0, hz1, hz2⟩ := info_parts info8
  have HC : Hid (∀ w, Calls Try.prog 112 #[labV v p e] w fun r w' => r = .returned (.int .i64 0) ∧ Below w.heap.size w w') := Lib.hid fun w => labcheck_ok _ _ _ w (by omega) (by omega) (by omega) (by omega) (by omega) (by omega)
  unfold labV at *
  go_enter Try.func73, Try.ntmps73
  go_wp2_with fail
  refine (HC.out _).mono ?_
  rintro r w1 ⟨rfl, hb1⟩
  have hg := (hb1.block w.heap.size (by simp)).trans (heap_alloc_new w _)
  have hB1 := (ext_alloc w _).trans (hb1.mono (by simp))
  have k0 : w1.cell? ⟨w.heap.size, 0, none⟩ = some (.int .i64 (v : Int)) := cell_of_row w1 w.heap.size 0 _ _ _ hg
  have k1 : w1.cell? ⟨w.heap.size, 1, none⟩ = some (.int .i64 (p : Int)) := cell_of_row w1 w.heap.size 1 _ _ _ hg
  have k2 : w1.cell? ⟨w.heap.size, 2, none⟩ = some (.int .i64 (e : Int)) := cell_of_row w1 w.heap.size 2 _ _ _ hg
  have hlt := heap_lt hg
  have hsz := Below.size hb1
  rw [World.size_alloc] at hsz
  clear hg hb1
  have kc := fun (w : World) (C : Array Value) (n c : Nat) => Lib.run_convert_bytes_const (P := Try.prog) w 50 5 C n c Try.underlying50 Try.underlying5
  have s1 : Src ((w1.alloc (.cells #[.int .u8 67, .int .u8 69, .int .u8 76, .int .u8 76] 5 (4, 5))).alloc (.cells #[.int .u8 (v : Int), .int .u8 (p : Int)] 5)) (some ⟨w1.heap.size, 0, none⟩) (bvs [67#8, 69#8, 76#8, 76#8]) :=
    Src.ext (Or.inr ⟨_, 0, _, _, _, rfl, heap_alloc_new w1 _, rfl⟩) (ext_alloc _ _)
  have s2 := src_new (w1.alloc (.cells #[.int .u8 67, .int .u8 69, .int .u8 76, .int .u8 76] 5 (4, 5))) [.int .u8 (v : Int), .int .u8 (p : Int)] 5
  rw [World.size_alloc] at s2
  have e1 : bvs [67#8, 69#8, 76#8, 76#8] ++ [.int .u8 (v : Int), .int .u8 (p : Int)] = bvs [67#8, 69#8, 76#8, 76#8, BitVec.ofNat 8 v, BitVec.ofNat 8 p] := by
    simp [bvs, u8v]; omega
  have E1 := Lib.hid e1
  have hh : lhead v p e = [67#8, 69#8, 76#8, 76#8, BitVec.ofNat 8 v, BitVec.ofNat 8 p] ++ be e 4 := by simp [lhead]
  have HH := Lib.hid hh
  clear hh e1
  have hsz1 : ∀ A B, w1.heap.size ≤ ((w1.alloc A).alloc B).heap.size := fun A B => by simp; omega
  have hB12 : ∀ A B, Below w1.heap.size w1 ((w1.alloc A).alloc B) := fun A B => (ext_alloc w1 A).alloc (by simp) B
  have hB2 : ∀ A B, Below w.heap.size w ((w1.alloc A).alloc B) := fun A B => (hB1.alloc (by omega) A).alloc (by simp; omega) B
  go_wp2_with (refine wpList_app_arg rfl (.tmp 13) (.tmp 20) 50 rfl 5 i0 (.int .u8 0) 1 1 Try.underlying50 hi hz0 hz1 hz2 rfl (by decide) w1.heap.size 0 4 4 (bvs [67#8, 69#8, 76#8, 76#8]) rfl rfl s1 (w1.heap.size + 1) 0 2 2 [.int .u8 (v : Int), .int .u8 (p : Int)] rfl rfl s2 (by omega) (by unfold maxLen; omega) (by omega) ?_; rw [E1.out]; intro a2 c2 w2 hown2 hb2; have hb12 := bthen (hB12 _ _) hb2 (Nat.le_refl _); have hb02 := bthen hB1 hb12 (Nat.le_refl _); have k2' := (World.cell?_of_block (w := w1) (a := ⟨w.heap.size, 2, none⟩) (hb12.block w.heap.size hlt)).trans k2; have hs2 := hown2.src; clear hown2 s1 s2 hb2 hB2 hsz1 hB12 hb12 k0 k1)
  clear hB1 k2
  refine (put_ok a2 c2 6 _ e 4 _ _ w2 hs2 rfl rfl rfl (by omega) (by omega) (by omega) (by omega)).mono ?_
  rintro r w3 ⟨a3, c3, rfl, hown3, hb3⟩
  rw [← HH.out] at hown3
  have hs3 := hown3.src
  have hown3' := hown3.mono (base' := w.heap.size) hb02.size
  have hb03 := bthen hb02 hb3 (Nat.le_refl _)
  clear hb02 hb3 k2' hs2 hown3
  have hXl := lhead_length (v : Int) p e
  generalize hX : lhead (v : Int) p e = X at hs3 hown3' hXl
  generalize hz : crc X = z
  have Hz := Lib.hid hz
  have HX := Lib.hid hX
  have HXl := Lib.hid hXl
  clear hX hXl hz
  go_wp2_with fail
  refine (crcbytes_at _ _ [⟨a3, c3, X⟩] _ 1 z (mat_one (w := w3) rfl ⟨hs3, by show X.length ≤ _; rw [HXl.out]; omega⟩ rfl HXl.out.symm rfl) rfl (by omega) (by rw [← Hz.out]; simp [flat])).mono ?_
  rintro r w4 ⟨rfl, hb4⟩
  have hb34 := bthen (ext_alloc w3 _) hb4 (by simp)
  have hown4 := hown3'.ext hb34
  have hb04 := bthen hb03 hb34 (Nat.le_refl _)
  clear hown3' hb34 hb03 hs3 hb4
  have hb45 := bsetRow (ext_alloc w4 (.cells #[.int .u8 0, .int .u8 0, .int .u8 0, .int .u8 0] 177)) (Nat.le_refl _) (bvs (crcBytesOf z)).toArray
  have hrow := setRow_heap (w4.alloc (.cells #[.int .u8 0, .int .u8 0, .int .u8 0, .int .u8 0] 177)) w4.heap.size _ (bvs (crcBytesOf z)).toArray _ _ (heap_alloc_new w4 _)
  have hown5 := hown4.ext hb45
  have hb05 := bthen hb04 hb45 (Nat.le_refl _)
  have hs5 : Src _ (some ⟨w4.heap.size, 0, none⟩) (bvs (crcBytesOf z)) := Or.inr ⟨_, 0, _, _, _, rfl, hrow, by simp [bvs, crcBytesOf]⟩
  clear hb45 hrow hown4 hb04
  go_wp2_with (first
    | refine wpList_store_row rfl rfl 177 (.tmp 6) (.tmp 31) rfl w4.heap.size rfl 177 #[.int .u8 0, .int .u8 0, .int .u8 0, .int .u8 0] (bvs (crcBytesOf z)).toArray rfl (heap_alloc_new w4 _) rfl (by kernel_rfl) (by simpa using bvs_one (crcBytesOf z)) ?_
    | (refine wpList_app rfl (.tmp 32) (.tmp 33) 50 rfl w.heap.size 5 i0 (.int .u8 0) 1 1 Try.underlying50 hi hz0 hz1 hz2 rfl (by decide) a3 10 c3 (bvs X) rfl hown5 (some ⟨w4.heap.size, 0, none⟩) 4 4 (bvs (crcBytesOf z)) rfl rfl hs5 (bvs_one _) (by unfold maxLen; omega) (by omega) hb05.size ?_; intro a6 c6 w6 hown6 hb6))
  go_ret2
  refine ⟨a6, c6, rfl, ?_, hb05.trans hb6⟩
  rw [← bvs_append, ← Hz.out, ← HX.out] at hown6
  exact hown6

theorem labbytes_no (v p e : Int) (w : World) (h : okL v p e = false) :
    Calls Try.prog 73 #[labV v p e] w fun r w' => r = .returned (.tuple #[.slice none 0 0, .int .i64 1]) ∧ Below w.heap.size w w' := by
  have HC : Hid (∀ w, Calls Try.prog 112 #[labV v p e] w fun r w' => r = .returned (.int .i64 1) ∧ Below w.heap.size w w') := Lib.hid fun w => labcheck_at _ _ _ _ w (labE_no h)
  clear h
  unfold labV at *
  go_enter Try.func73, Try.ntmps73
  go_wp2_with fail
  refine (HC.out _).mono ?_
  rintro r w1 ⟨rfl, hb1⟩
  go_wp2
  go_ret2
  exact ⟨rfl, bthen (ext_alloc w _) hb1 (by simp)⟩

/-- label.Bytes, whatever the label. -/
theorem labbytes_at (v p e E : Int) (l : List Byte) (L : Nat) (w : World) (hl : labB v p e = l) (hL : l.length = L) (hE : labE v p e = E) :
    Calls Try.prog 73 #[labV v p e] w fun r w' => ∃ a' c', r = .returned (.tuple #[.slice a' L c', .int .i64 E]) ∧ Own w' w.heap.size 5 1 a' L c' (bvs l) ∧ Below w.heap.size w w' := by
  subst hL; subst hl; subst hE
  cases h : okL v p e with
  | true =>
    rw [labB_ok h, labE_ok h, lbytes_length]
    rw [okL_iff] at h
    obtain ⟨h0, h1, h2, h3, h4, h5⟩ := h
    obtain ⟨v, rfl⟩ := Int.eq_ofNat_of_zero_le h0
    obtain ⟨p, rfl⟩ := Int.eq_ofNat_of_zero_le h2
    obtain ⟨e, rfl⟩ := Int.eq_ofNat_of_zero_le h4
    exact labbytes_ok v p e w (by omega) (by omega) (by omega)
  | false =>
    rw [labB_no h, labE_no h]
    refine (labbytes_no v p e w h).mono ?_
    rintro r w1 ⟨rfl, hb⟩
    exact ⟨none, 0, rfl, Own.nil _ _ _ _ _, hb⟩
end Go.Proofs.Ytclkkhpnnbkfmaa

/- slices.Equal of bytes. -/
namespace Go.Proofs.Ytclkkhpnnbkfmaa
open Go.RowKit

set_option maxHeartbeats 400000 in
theorem equal_any (a : Option Addr) (ca : Nat) (la : List Byte) (b : Option Addr) (cb : Nat) (lb : List Byte) (w : World) (ha : Src w a (bvs la)) (hb : Src w b (bvs lb))
    (hla : la.length ≤ 9223372036854775807) (hlb : lb.length ≤ 9223372036854775807) :
    Calls Try.prog 122 #[.slice a la.length ca, .slice b lb.length cb] w fun e w' => e = .returned (.bool (decide (la = lb))) ∧ ∃ n, w' = w.drewN n := by
  by_cases hlen : la.length = lb.length
  · have h1 : (((la.length : Nat) : Int) != ((lb.length : Nat) : Int)) = false := by simp [hlen]
    have Hlen := Lib.hid hlen
    clear hlen
    go_enter Try.func122, Try.ntmps122
    go_wp2_with fail
    go_loopw [13] (fun i wr => ∃ k n : Nat, k ≤ la.length ∧ i = .int .i64 k ∧ wr = w.drewN n ∧ la.take k = lb.take k) (fun i _ => la.length - (intOf i).toNat)
    case atStart => exact ⟨0, 0, by omega, rfl, rfl, by simp⟩
    case round =>
      obtain ⟨k, n, hk, rfl, rfl, heq⟩ := hrel
      have Heq := Lib.hid heq
      clear heq
      by_cases hlt : k < la.length
      · have hlt2 : k < lb.length := by have := Hlen.out; omega
        obtain ⟨b1, o1, rfl, _, hat1⟩ := src_bytes_at ha hlt
        obtain ⟨b2, o2, rfl, _, hat2⟩ := src_bytes_at hb hlt2
        have hc1 := hat1 k hlt
        have hc2 := hat2 k hlt2
        have i1 : (k : Int) < (la.length : Int) := by omega
        have i2 : (k : Int) < (lb.length : Int) := by omega
        have Ha := Lib.hid (take_succ_list la k hlt)
        have Hb := Lib.hid (take_succ_list lb k hlt2)
        clear hat1 hat2
        generalize hx : la[k] = x at hc1 Ha
        generalize hy : lb[k] = y at hc2 Hb
        have Hx := Lib.hid hx
        have Hy := Lib.hid hy
        clear hx hy
        by_cases hxy : x = y
        · have e1 : ((x.toNat : Int) != (y.toNat : Int)) = false := by simp [hxy]
          have Hxy := Lib.hid hxy
          clear hxy
          go_wp2_with fail
          go_quiet (fail)
          go_wp2
          go_roundw
          case rel => exact ⟨k + 1, n + nq, by omega, by go_num, rfl, by rw [Ha.out, Hb.out, Heq.out, Hxy.out]⟩
          case measure => simp [intOf]; omega
        · have e1 : ((x.toNat : Int) != (y.toNat : Int)) = true := by
            have : x.toNat ≠ y.toNat := fun h => hxy (BitVec.eq_of_toNat_eq h)
            simp; omega
          go_wp2_with fail
          go_quiet (fail)
          go_wp2
          go_ret
          refine ⟨?_, n + nq, by simp⟩
          rw [decide_eq_false (fun h => hxy ?_)]
          · rfl
          · subst h
            exact Hx.out.symm.trans Hy.out
      · have hkl : k = la.length := by omega
        have hfin : la = lb := by
          have := Heq.out
          rw [hkl, List.take_length, Hlen.out, List.take_length] at this
          exact this
        have Hfin := Lib.hid hfin
        clear hfin hkl
        go_wp2
        go_ret
        exact ⟨by rw [decide_eq_true Hfin.out]; rfl, _, rfl⟩
  · have h1 : (((la.length : Nat) : Int) != ((lb.length : Nat) : Int)) = true := by simp; omega
    go_enter Try.func122, Try.ntmps122
    go_wp2
    go_ret
    exact ⟨by rw [decide_eq_false (fun h => hlen (by rw [h]))]; rfl, 0, rfl⟩
theorem equal_at (a : Option Addr) (ca : Nat) (la : List Byte) (b : Option Addr) (cb : Nat) (lb : List Byte) (w : World) (n m : Nat) (r : Bool) (ha : Src w a (bvs la)) (hb : Src w b (bvs lb))
    (hn : n = la.length) (hm : m = lb.length) (hla : n ≤ 9223372036854775807) (hlb : m ≤ 9223372036854775807) (hr : decide (la = lb) = r) :
    Calls Try.prog 122 #[.slice a n ca, .slice b m cb] w fun e w' => e = .returned (.bool r) ∧ ∃ n, w' = w.drewN n := by
  subst hn; subst hm; subst hr; exact equal_any a ca la b cb lb w ha hb hla hlb
end Go.Proofs.Ytclkkhpnnbkfmaa
