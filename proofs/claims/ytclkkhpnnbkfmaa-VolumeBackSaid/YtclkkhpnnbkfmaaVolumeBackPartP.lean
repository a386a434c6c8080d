/- Several texts of this claim, one behind the other: Recs, Concat, AggrBare. -/
import Derived.Test.YtclkkhpnnbkfmaaBase
import Derived.Test.YtclkkhpnnbkfmaaVolumeBackPartO
import Derived.Test.YtclkkhpnnbkfmaaProg
import Derived.Outline
import Derived.Lib.AppendZeros
/- Slices of records (three cells each) as they lie. -/
namespace Go.Proofs.Ytclkkhpnnbkfmaa
open Go.RowKit

/-- A record as it lies. -/
structure RecV where
  kind : Int
  seq : Int
  d : Bsl
def RecV.cells (r : RecV) : List Value := [.int .i64 r.kind, .int .i64 r.seq, .slice r.d.a r.d.l.length r.d.c]
def RecV.val (r : RecV) : Value := .agg #[.int .i64 r.kind, .int .i64 r.seq, .slice r.d.a r.d.l.length r.d.c]
def RecV.pl (r : RecV) : Rec := ⟨r.kind, r.seq, r.d.l⟩
def rvs (rs : List RecV) : List Value := (rs.map RecV.cells).flatten
def recs (rs : List RecV) : List Rec := rs.map RecV.pl
@[simp] theorem recs_length (rs : List RecV) : (recs rs).length = rs.length := by simp [recs]
theorem rvs_length (rs : List RecV) : (rvs rs).length = rs.length * 3 := by
  induction rs with
  | nil => rfl
  | cons r rs ih => simp only [rvs, List.map_cons, List.flatten_cons, List.length_append] at ih ⊢; rw [ih]; simp [RecV.cells]; omega
theorem rvs_append (l m : List RecV) : rvs (l ++ m) = rvs l ++ rvs m := by simp [rvs]
theorem rvs_cons (r : RecV) (m : List RecV) : rvs (r :: m) = r.cells ++ rvs m := by simp [rvs]
theorem rvs_one (rs : List RecV) : ∀ u ∈ rvs rs, u.oneCell' = true := by
  intro u hu
  simp only [rvs, List.mem_flatten, List.mem_map] at hu
  obtain ⟨_, ⟨r, _, rfl⟩, hu⟩ := hu
  simp only [RecV.cells, List.mem_cons, List.not_mem_nil, or_false] at hu
  rcases hu with rfl | rfl | rfl <;> rfl
theorem rvs_get : ∀ (rs : List RecV) (i : Nat) (hi : i < rs.length), (rvs rs)[i * 3]? = some (.int .i64 rs[i].kind) ∧ (rvs rs)[i * 3 + 1]? = some (.int .i64 rs[i].seq) ∧ (rvs rs)[i * 3 + 2]? = some (.slice rs[i].d.a rs[i].d.l.length rs[i].d.c)
  | r :: rs, 0, _ => by simp [rvs, RecV.cells]
  | r :: rs, i + 1, hi => by
    have h := rvs_get rs i (by simpa using hi)
    have hl : r.cells.length = 3 := rfl
    rw [rvs_cons]
    refine ⟨?_, ?_, ?_⟩
    · rw [List.getElem?_append_right (by omega), hl, show (i + 1) * 3 - 3 = i * 3 by omega]; exact h.1
    · rw [List.getElem?_append_right (by omega), hl, show (i + 1) * 3 + 1 - 3 = i * 3 + 1 by omega]; exact h.2.1
    · rw [List.getElem?_append_right (by omega), hl, show (i + 1) * 3 + 2 - 3 = i * 3 + 2 by omega]; exact h.2.2
theorem rvs_take (rs : List RecV) (n : Nat) : rvs (rs.take n) = (rvs rs).take (n * 3) := by
  by_cases hn : n ≤ rs.length
  · have h : rvs rs = rvs (rs.take n) ++ rvs (rs.drop n) := by rw [← rvs_append, List.take_append_drop]
    rw [h, List.take_left' (by rw [rvs_length]; simp; omega)]
  · rw [List.take_of_length_le (by omega), List.take_of_length_le (by rw [rvs_length]; omega)]

/-- A slice of records. -/
structure RMat (w : World) (a : Option Addr) (rs : List RecV) : Prop where
  src : Src w a (rvs rs)
  row : ∀ r ∈ rs, r.d.ok w
theorem RMat.ext {w w' : World} {a : Option Addr} {rs : List RecV} (h : RMat w a rs) (hb : Below w.heap.size w w') : RMat w' a rs :=
  ⟨h.src.ext hb, fun r hr => (h.row r hr).ext hb⟩
theorem RMat.nil (w : World) (a : Option Addr) : RMat w a [] := ⟨Src.nil _ _, by simp⟩
theorem RMat.take {w : World} {a : Option Addr} {rs : List RecV} (h : RMat w a rs) (n : Nat) : RMat w a (rs.take n) :=
  ⟨by rw [rvs_take]; exact h.src.take _, fun r hr => h.row r (List.mem_of_mem_take hr)⟩
theorem RMat.at {w : World} {a : Option Addr} {rs : List RecV} (h : RMat w a rs) {i : Nat} (hi : i < rs.length) :
    ∃ b o, a = some ⟨b, o, none⟩ ∧ b < w.heap.size ∧ ∀ j (hj : j < rs.length), w.cell? ⟨b, o + j * 3, none⟩ = some (.int .i64 rs[j].kind) ∧ w.cell? ⟨b, o + j * 3 + 1, none⟩ = some (.int .i64 rs[j].seq) ∧ w.cell? ⟨b, o + j * 3 + 2, none⟩ = some (.slice rs[j].d.a rs[j].d.l.length rs[j].d.c) := by
  have hl := rvs_length rs
  obtain ⟨b, o, ha, hb, hat⟩ := h.src.at (i := i * 3) (by rw [hl]; omega)
  refine ⟨b, o, ha, hb, fun j hj => ?_⟩
  obtain ⟨h0, h1, h2⟩ := rvs_get rs j hj
  have key : ∀ k v, (rvs rs)[k]? = some v → w.cell? ⟨b, o + k, none⟩ = some v := by
    intro k v hk
    have hkl := (List.getElem?_eq_some_iff.1 hk).1
    rw [hat k hkl, ← List.getElem?_eq_getElem hkl, hk]
  exact ⟨key _ _ h0, key _ _ h1, key _ _ h2⟩

/-- In block g stands a record. -/
def RecAt (w : World) (g : Nat) (r : RecV) : Prop := w.heap[g]? = some (.cells #[.int .i64 r.kind, .int .i64 r.seq, .slice r.d.a r.d.l.length r.d.c] 54)
theorem RecAt.new (w : World) (r : RecV) : RecAt (w.alloc (.cells #[.int .i64 r.kind, .int .i64 r.seq, .slice r.d.a r.d.l.length r.d.c] 54)) w.heap.size r := heap_alloc_new w _
theorem RecAt.cells {w : World} {g : Nat} {r : RecV} (h : RecAt w g r) : w.cell? ⟨g, 0, none⟩ = some (.int .i64 r.kind) ∧ w.cell? ⟨g, 1, none⟩ = some (.int .i64 r.seq) ∧ w.cell? ⟨g, 2, none⟩ = some (.slice r.d.a r.d.l.length r.d.c) :=
  ⟨cell_of_row w g 0 _ _ _ h, cell_of_row w g 1 _ _ _ h, cell_of_row w g 2 _ _ _ h⟩
theorem RecAt.ext {w w' : World} {g : Nat} {r : RecV} (h : RecAt w g r) (hb : Below w.heap.size w w') : RecAt w' g r := (hb.block g (heap_lt h)).trans h
theorem RecAt.drewN {w : World} {g : Nat} {r : RecV} (h : RecAt w g r) (n : Nat) : RecAt (w.drewN n) g r := h
theorem RecAt.put (w : World) (z : Array Value) (hz : z.size = 3) (r : RecV) : RecAt ((w.alloc (.cells z 54)).setRow w.heap.size #[.int .i64 r.kind, .int .i64 r.seq, .slice r.d.a r.d.l.length r.d.c]) w.heap.size r :=
  setRow_heap _ _ _ _ _ _ (heap_alloc_new w _)
theorem below_putr (w : World) (z : Array Value) (r : RecV) : Below w.heap.size w ((w.alloc (.cells z 54)).setRow w.heap.size #[.int .i64 r.kind, .int .i64 r.seq, .slice r.d.a r.d.l.length r.d.c]) :=
  bsetRow (ext_alloc w _) (Nat.le_refl _) _
end Go.Proofs.Ytclkkhpnnbkfmaa

/- slices.Grow of nil, slices.Concat, of records. -/
namespace Go.Proofs.Ytclkkhpnnbkfmaa
open Go.RowKit

theorem infoRecA : (Try.prog.info? 54).map (fun i => (i.zero, i.size, i.bytes)) = some (some (.agg #[.int .i64 0, .int .i64 0, .slice none 0 0]), 3, 40) := by kernel_rfl
set_option maxRecDepth 100000 in
set_option maxHeartbeats 1000000 in
theorem grow_recs (n : Nat) (w : World) (h0 : 0 < n) (hn : n ≤ 100000) :
    Calls Try.prog 140 #[.slice none 0 0, .int .i64 (n : Int)] w fun e w' => ∃ a' c', e = .returned (.slice a' 0 c') ∧ Own w' w.heap.size 54 3 a' 0 c' [] ∧ Below w.heap.size w w' := by
  obtain ⟨i0, hi, hz0, hz1, hz2⟩ := info_parts infoRecA
  have hn0 : ¬ (n : Int) < 0 := by omega
  have hn1 : (0 : Int) < (n : Int) := by omega
  have hge := grownCap_ge w n 0 54
  have hle := grownCap_le_maxLen w n 0 54 (by unfold maxLen; omega)
  have hr := Lib.run_append_nil_zeros (P := Try.prog) w 39 3 39 54 i0 (.agg #[.int .i64 0, .int .i64 0, .slice none 0 0]) .i64 .i64 Try.underlying39 Try.underlying3 hi hz0 n h0 (by rw [hz1]; decide) (by omega) (by rw [hz2]; omega)
  have hown : Own (w.drew.alloc (.cells (Builtin.zeroCells (Value.agg #[.int .i64 0, .int .i64 0, .slice none 0 0]).cells n ++ Builtin.zeroCells (Value.agg #[.int .i64 0, .int .i64 0, .slice none 0 0]).cells (grownCap w n 0 54 - n)) 54)) w.heap.size 54 3 (some ⟨w.heap.size, 0, none⟩) 0 (grownCap w n 0 54) [] := by
    refine ⟨rfl, .inr ⟨w.heap.size, _, rfl, Nat.le_refl _, heap_alloc_new w.drew _, Nat.zero_le _, hle, ?_, rfl⟩⟩
    rw [Array.size_append, size_zeroCells, size_zeroCells]
    show n * 3 + (grownCap w n 0 54 - n) * 3 = grownCap w n 0 54 * 3
    omega
  have hb : Below w.heap.size w (w.drew.alloc (.cells (Builtin.zeroCells (Value.agg #[.int .i64 0, .int .i64 0, .slice none 0 0]).cells n ++ Builtin.zeroCells (Value.agg #[.int .i64 0, .int .i64 0, .slice none 0 0]).cells (grownCap w n 0 54 - n)) 54)) :=
    (ext_drewN w 1 w.heap.size).trans (ext_alloc w.drew _)
  have HO := Lib.hid hown
  have HB := Lib.hid hb
  have HR := Lib.hid hr
  have hge' : ((0 : Nat) : Int) ≤ ((grownCap w n 0 54 : Nat) : Int) := by omega
  clear hown hb hr hle
  generalize grownCap w n 0 54 = G at *
  go_enter Try.func140, Try.ntmps140
  go_wp2_with (refine Lib.wpList_append_run _ rfl (.tmp 20) (.tmp 21) 39 3 rfl (.slice none 0 0) (.int .i64 (n : Int)) rfl rfl _ _ HR.out ?_)
  go_ret
  exact ⟨_, _, rfl, HO.out, HB.out⟩

/-- A slice of records as a value. -/
structure Rsl where
  a : Option Addr
  c : Nat
  rs : List RecV
def Rsl.val (p : Rsl) : Value := .slice p.a p.rs.length p.c
def allR (ps : List Rsl) : List RecV := (ps.map Rsl.rs).flatten
theorem allR_take {ps : List Rsl} {k : Nat} (h : k < ps.length) : allR (ps.take (k + 1)) = allR (ps.take k) ++ ps[k].rs := by
  unfold allR
  rw [take_succ_list ps k h, List.map_append, List.flatten_append]
  simp
theorem allR_le {ps : List Rsl} (k : Nat) : (allR (ps.take k)).length ≤ (allR ps).length := by
  conv => rhs; rw [← List.take_append_drop k ps]
  unfold allR
  rw [List.map_append, List.flatten_append, List.length_append]
  omega
set_option maxRecDepth 100000 in
set_option maxHeartbeats 2000000 in
theorem concat_recs (a : Option Addr) (c N : Nat) (ps : List Rsl) (L : Nat) (w : World) (hs : Src w a (ps.map Rsl.val)) (hN : N = ps.length) (hN2 : N ≤ 1000) (hr : ∀ p ∈ ps, RMat w p.a p.rs) (hL : (allR ps).length = L) (h0 : 0 < L) (hL2 : L ≤ 100000) :
    Calls Try.prog 132 #[.slice a N c] w fun e w' => ∃ a' c', e = .returned (.slice a' L c') ∧ Own w' w.heap.size 54 3 a' L c' (rvs (allR ps)) ∧ Below w.heap.size w w' := by
  obtain ⟨i0, hi, hz0, hz1, hz2⟩ := info_parts infoRecA
  have Hs := Lib.hid hs
  have HN := Lib.hid hN
  have Hr := Lib.hid hr
  have HL := Lib.hid hL
  clear hs hN hr hL
  go_enter Try.func132, Try.ntmps132
  go_wp2_with fail
  go_loopw [3, 11] (fun sv i wr => ∃ (k q : Nat), k ≤ N ∧ wr = w ∧ q = (allR (ps.take k)).length ∧ sv = .int .i64 (q : Int) ∧ i = .int .i64 (k : Int)) (fun _ i _ => N - (intOf i).toNat)
  case atStart => exact ⟨0, 0, by omega, rfl, rfl, rfl, rfl⟩
  case round =>
    obtain ⟨k, q, hk, rfl, hq, rfl, rfl⟩ := hrel
    have Hq := Lib.hid hq
    have hqL : q ≤ L := by rw [hq, ← HL.out]; exact allR_le k
    clear hq
    by_cases hkN : k < N
    · have hkl : k < ps.length := by rw [← HN.out]; exact hkN
      obtain ⟨b, o, rfl, hlb, hat⟩ := Hs.out.at (i := k) (by rw [List.length_map]; exact hkl)
      have r0 := hat k (by rw [List.length_map]; exact hkl)
      have htk := allR_take hkl
      rw [List.getElem_map] at r0
      have hlt := allR_le (ps := ps) (k + 1)
      rw [htk, List.length_append, ← Hq.out, HL.out] at hlt
      have Hq2 : Hid ((allR (ps.take (k + 1))).length = q + ps[k].rs.length) := Lib.hid (by rw [htk, List.length_append, ← Hq.out])
      generalize ps[k] = p at *
      obtain ⟨pa, pc, prs⟩ := p
      unfold Rsl.val at r0
      dsimp only at r0 hlt Hq2
      generalize prs.length = m at *
      clear hat htk
      have hnn : ¬ (q : Int) + (m : Int) < 0 := by omega
      go_wp2_with fail
      go_roundw
      case rel => exact ⟨k + 1, q + m, by omega, by first | trivial | rfl, Hq2.out.symm, by go_num, by go_num⟩
      case measure => simp [intOf]; omega
    · obtain rfl : N = k := by omega
      have hqe : q = L := by rw [Hq.out, HN.out, List.take_length]; exact HL.out
      subst hqe
      go_wp2_with fail
      refine (grow_recs q wr h0 hL2).mono ?_
      rintro e w1 ⟨a1, c1, rfl, ho1, hb1⟩
      have HO := Lib.hid ho1
      have HB := Lib.hid hb1
      clear ho1 hb1
      go_wp2_with fail
      go_loopw [6, 27] (fun sv i wx => ∃ (k q : Nat) (a' : Option Addr) (c' : Nat) (wz : World), wz = wx ∧ k ≤ N ∧ q = (allR (ps.take k)).length ∧ sv = .slice a' q c' ∧ i = .int .i64 (k : Int) ∧ Own wz wr.heap.size 54 3 a' q c' (rvs (allR (ps.take k))) ∧ Below wr.heap.size wr wz) (fun _ i _ => N - (intOf i).toNat)
      case atStart => exact ⟨0, 0, a1, c1, _, rfl, by omega, rfl, rfl, rfl, HO.out, HB.out⟩
      case round =>
        obtain ⟨k, q', a', c', wz, hwz, hk, hq, rfl, rfl, hown, hbz⟩ := hrel
        subst hwz
        clear HO HB Hq
        have Hq := Lib.hid hq
        have HO := Lib.hid hown
        have HB := Lib.hid hbz
        have hqL : q' ≤ q := by rw [hq, ← HL.out]; exact allR_le k
        clear hq hown hbz
        by_cases hkN : k < N
        · have hkl : k < ps.length := by rw [← HN.out]; exact hkN
          obtain ⟨b, o, rfl, hlb, hat⟩ := Hs.out.at (i := k) (by rw [List.length_map]; exact hkl)
          have r0' := hat k (by rw [List.length_map]; exact hkl)
          have htk := allR_take hkl
          have hrow := Hr.out _ (List.getElem_mem hkl)
          rw [List.getElem_map] at r0'
          have hlt := allR_le (ps := ps) (k + 1)
          rw [htk, List.length_append, ← Hq.out, HL.out] at hlt
          have Htk := Lib.hid htk
          have Hq2 : Hid ((allR (ps.take (k + 1))).length = q' + ps[k].rs.length) := Lib.hid (by rw [htk, List.length_append, ← Hq.out])
          generalize ps[k] = p at *
          obtain ⟨pa, pc, prs⟩ := p
          unfold Rsl.val at r0'
          dsimp only at r0' hlt Hq2 Htk hrow
          obtain ⟨m, hm⟩ : ∃ m, m = prs.length := ⟨_, rfl⟩
          rw [← hm] at r0' hlt Hq2
          have Hm := Lib.hid hm
          have HS := Lib.hid (hrow.src.ext HB.out)
          have r0 := (World.cell?_of_block (w := wr) (a := ⟨b, o + k, none⟩) (HB.out.block b hlb)).trans r0'
          have hBs := HB.out.size
          clear hat htk hm hrow r0'
          go_wp2_with (refine wpList_app rfl (.tmp 31) (.tmp 32) 39 rfl wr.heap.size 54 i0 (.agg #[.int .i64 0, .int .i64 0, .slice none 0 0]) 3 40 Try.underlying39 hi hz0 hz1 hz2 rfl (by decide) a' q' c' (rvs (allR (ps.take k))) rfl HO.out pa m pc (rvs prs) rfl (by rw [rvs_length, Hm.out]) HS.out (rvs_one prs) (by unfold maxLen; omega) (by omega) hBs ?_; intro a4 c4 w4 ho4 hb4)
          have HO4 : Hid (Own w4 wr.heap.size 54 3 a4 (q' + m) c4 (rvs (allR (ps.take (k + 1))))) := Lib.hid (by rw [Htk.out, rvs_append]; exact ho4)
          have HB4 := Lib.hid (HB.out.trans hb4)
          clear ho4 hb4 HO HB r0 hBs
          go_roundw
          case rel => exact ⟨k + 1, q' + m, a4, c4, _, rfl, by omega, Hq2.out.symm, rfl, by go_num, HO4.out, HB4.out⟩
          case measure => simp [intOf]; omega
        · obtain rfl : N = k := by omega
          have hta : allR (ps.take N) = allR ps := by rw [HN.out, List.take_length]
          have hqe : q' = q := by rw [Hq.out, hta]; exact HL.out
          subst hqe
          have HOF := HO.out
          rw [hta] at HOF
          have HOF := Lib.hid HOF
          clear HO hta
          go_wp2_with fail
          go_ret
          exact ⟨a', c', rfl, HOF.out, HB.out⟩
end Go.Proofs.Ytclkkhpnnbkfmaa

/- aggr.end, bare; slices.ContainsFunc of records. -/
namespace Go.Proofs.Ytclkkhpnnbkfmaa
open Go.RowKit

def bareK (k : Int) : Bool := decide (k = 4 ∨ k = 5)
def bareR (rs : List RecV) : Bool := rs.any fun r => bareK r.kind
theorem bareR_take (rs : List RecV) (k : Nat) (h : k < rs.length) : bareR (rs.take (k + 1)) = (bareR (rs.take k) || bareK rs[k].kind) := by
  rw [take_succ_list rs k h]; unfold bareR; rw [List.any_append]; simp only [List.any_cons, List.any_nil, Bool.or_false]

set_option maxHeartbeats 1000000 in
theorem bare_any (k s : Int) (a : Option Addr) (n c : Nat) (r : Bool) (w : World) (hr : bareK k = r) :
    Calls Try.prog 136 #[.agg #[.int .i64 k, .int .i64 s, .slice a n c]] w fun e w' => e = .returned (.bool r) ∧ Below w.heap.size w w' := by
  have hb := ext_alloc w (.cells #[.int .i64 k, .int .i64 s, .slice a n c] 54)
  have HR := Lib.hid hr
  clear hr
  go_enter Try.func136, Try.ntmps136
  by_cases h4 : k = 4
  · subst h4
    have hr := HR.out
    simp [bareK] at hr
    subst hr
    go_wp2
    go_ret
    exact ⟨rfl, hb⟩
  · have e4 : (k == 4) = false := by simpa using h4
    by_cases h5 : k = 5
    · subst h5
      have hr := HR.out
      simp [bareK] at hr
      subst hr
      clear h4
      go_wp2
      go_ret
      exact ⟨rfl, hb⟩
    · have e5 : (k == 5) = false := by simpa using h5
      have hr := HR.out
      simp [bareK, h4, h5] at hr
      subst hr
      clear h4 h5 HR
      go_wp2
      go_ret
      exact ⟨rfl, hb⟩

set_option maxRecDepth 100000 in
set_option maxHeartbeats 1000000 in
theorem index_recs (a : Option Addr) (c n : Nat) (rs : List RecV) (w : World) (hs : RMat w a rs) (hn : n = rs.length) (hn2 : n ≤ 9223372036854775807) :
    Calls Try.prog 141 #[.slice a n c, .func (.func 136) #[] #[]] w fun e w' => ∃ r : Int, e = .returned (.int .i64 r) ∧ Below w.heap.size w w' ∧ decide (0 ≤ r) = bareR rs := by
  have Hs := Lib.hid hs
  have Hn := Lib.hid hn
  clear hs hn
  go_enter Try.func141, Try.ntmps141
  go_wp2_with fail
  go_loopw [8] (fun i wr => ∃ (k : Nat), k ≤ n ∧ i = .int .i64 (k : Int) ∧ Below w.heap.size w wr ∧ bareR (rs.take k) = false) (fun i _ => n - (intOf i).toNat)
  case atStart => exact ⟨0, by omega, rfl, Below.refl _ _, rfl⟩
  case round =>
    rename_i wr
    obtain ⟨k, hk, rfl, hbr, hbad⟩ := hrel
    have Hbad := Lib.hid hbad
    clear hbad
    by_cases hlt : k < n
    · have hkl : k < rs.length := by have := Hn.out; omega
      obtain ⟨b, o, rfl, hlb, hat⟩ := Hs.out.at hkl
      obtain ⟨q0, q1, q2⟩ := hat k hkl
      have Htk := Lib.hid (bareR_take rs k hkl)
      have hmem := List.getElem_mem hkl
      generalize rs[k] = x at *
      have c0 := (World.cell?_of_block (w := w) (a := ⟨b, o + k * 3, none⟩) (hbr.block b hlb)).trans q0
      have c1 := (World.cell?_of_block (w := w) (a := ⟨b, o + k * 3 + 1, none⟩) (hbr.block b hlb)).trans q1
      have c2 := (World.cell?_of_block (w := w) (a := ⟨b, o + k * 3 + 2, none⟩) (hbr.block b hlb)).trans q2
      have Hmem := Lib.hid hmem
      clear hat q0 q1 q2 hmem
      go_wp2_with fail
      cases hr : bareK x.kind with
      | false =>
        have Htk2 := Lib.hid (show bareR (rs.take (k + 1)) = false by rw [Htk.out, Hbad.out, hr]; rfl)
        refine (bare_any x.kind x.seq x.d.a x.d.l.length x.d.c false wr hr).mono ?_
        rintro e w1 ⟨rfl, hb1⟩
        clear c0 c1 c2 hr
        go_wp2_with fail
        go_roundw
        case rel => exact ⟨k + 1, by omega, by go_num, bthen hbr hb1 (Nat.le_refl _), Htk2.out⟩
        case measure => simp [intOf]; omega
      | true =>
        have hbc : bareR rs = true := by
          rw [bareR, List.any_eq_true]
          exact ⟨x, Hmem.out, hr⟩
        have Hbc := Lib.hid hbc
        clear hbc
        refine (bare_any x.kind x.seq x.d.a x.d.l.length x.d.c true wr hr).mono ?_
        rintro e w1 ⟨rfl, hb1⟩
        clear c0 c1 c2 hr
        go_wp2
        go_ret
        exact ⟨(k : Int), rfl, bthen hbr hb1 (Nat.le_refl _), by rw [Hbc.out]; simp⟩
    · have hbc : bareR rs = false := by
        have h1 := Hbad.out
        rw [List.take_of_length_le (by have := Hn.out; omega)] at h1
        exact h1
      have Hbc := Lib.hid hbc
      clear hbc
      go_wp2
      go_ret
      exact ⟨-1, rfl, hbr, by rw [Hbc.out]; rfl⟩
theorem contains_recs (a : Option Addr) (c n : Nat) (rs : List RecV) (r : Bool) (w : World) (hs : RMat w a rs) (hn : n = rs.length) (hn2 : n ≤ 9223372036854775807) (hr : bareR rs = r) :
    Calls Try.prog 135 #[.slice a n c, .func (.func 136) #[] #[]] w fun e w' => e = .returned (.bool r) ∧ Below w.heap.size w w' := by
  have HC := Lib.hid (index_recs a c n rs w hs hn hn2)
  have HR := Lib.hid hr
  clear hs hn hr
  go_enter Try.func135, Try.ntmps135
  go_wp2_with fail
  refine HC.out.mono ?_
  rintro e w1 ⟨z, rfl, hb1, hz⟩
  rw [HR.out] at hz
  go_wp2
  go_ret
  exact ⟨rfl, hb1⟩
set_option maxHeartbeats 1000000 in
theorem aend_any (k m : Int) (w : World) :
    Calls Try.prog 133 #[.int .i64 k, .int .i64 m] w fun e w' => e = .returned (.agg #[.int .i64 k, .int .i64 m, .slice none 0 0]) ∧ Below w.heap.size w w' := by
  have hg0 := heap_alloc_new w (.cells #[.int .i64 0, .int .i64 0, .slice none 0 0] 54)
  have hg := setRow_heap _ w.heap.size _ #[.int .i64 k, .int .i64 m, .slice none 0 0] _ _ hg0
  have hb := bsetRow (ext_alloc w (.cells #[.int .i64 0, .int .i64 0, .slice none 0 0] 54)) (Nat.le_refl _) #[.int .i64 k, .int .i64 m, .slice none 0 0]
  go_enter Try.func133, Try.ntmps133
  go_wp2_with (refine wpList_store_row rfl rfl 54 (.tmp 4) (.tmp 7) rfl w.heap.size rfl 54 #[.int .i64 0, .int .i64 0, .slice none 0 0] #[.int .i64 k, .int .i64 m, .slice none 0 0] rfl hg0 rfl (by kernel_rfl) (by simp [Value.oneCell']) ?_)
  exact bodyPost_ret (v := .agg _) (results_cell_row (p := 4) rfl _ _ w.heap.size _ #[.int .i64 k, .int .i64 m, .slice none 0 0] _ _ rfl hg Try.underlying54 rfl (by kernel_rfl)) rfl ⟨rfl, hb⟩
end Go.Proofs.Ytclkkhpnnbkfmaa
