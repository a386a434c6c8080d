/- Several texts of this claim, one behind the other: AggrWhole, Chunk. -/
import Derived.Test.YtclkkhpnnbkfmaaVolumeBackPartP
import Derived.Test.YtclkkhpnnbkfmaaJoin
import Derived.RangeFuncNested
import Derived.RangeFuncBound
import Derived.RangeFuncCalls
import Derived.RangeFuncLeaves
import Derived.Shelf.Abstract
import Derived.Shelf.RegionOpen
import Derived.WalkKit
import Derived.OwnWalkIn
import Derived.TacticsInMore
import Derived.LoopNIn
import Derived.LoopIn
import Derived.Test.YtclkkhpnnbkfmaaRegionLast
import Derived.Test.YtclkkhpnnbkfmaaProg
import Derived.Outline
/- aggr.whole, Need. -/
namespace Go.Proofs.Ytclkkhpnnbkfmaa
open Go.RowKit

def bareP (l : List Rec) : Bool := l.any fun r => bareK r.kind
theorem bareR_pl (rs : List RecV) : bareR rs = bareP (recs rs) := by
  unfold bareR bareP recs
  rw [List.any_map]
  rfl
/-- The records of an aggregate, with head and tail. -/
def aggrL (l : List Rec) : List Rec := ⟨4, l.length, []⟩ :: (l ++ [⟨5, l.length, []⟩])
/-- The bytes of an aggregate, or why there are none. -/
def wholeP (size : Int) (l : List Rec) : List Byte × Int :=
  if size < 32 ∨ 256 < size then ([], 1) else if l.length < 1 ∨ 64 < l.length then ([], 2)
  else if joinE (aggrL l) ≠ 0 then ([], joinE (aggrL l)) else if bareP l = true then ([], 1) else (joinB (aggrL l), 0)

set_option maxRecDepth 100000 in
set_option maxHeartbeats 4000000 in
theorem whole_at (size : Int) (a : Option Addr) (c n : Nat) (rs : List RecV) (l : List Byte) (E : Int) (Ll : Nat) (w : World) (ha : RMat w a rs) (hn : n = rs.length) (hl : n ≤ 9223372036854775807) (hR : wholeP size (recs rs) = (l, E)) (hLl : l.length = Ll) :
    Calls Try.prog 115 #[.int .i64 size, .slice a n c] w fun e w' => ∃ a' c', e = .returned (.tuple #[.slice a' Ll c', .int .i64 E]) ∧ Own w' w.heap.size 5 1 a' Ll c' (bvs l) ∧ Below w.heap.size w w' := by
  have HR := Lib.hid hR
  have HA := Lib.hid ha
  have HN := Lib.hid hn
  have HLl := Lib.hid hLl
  clear hR ha hn hLl
  go_enter Try.func115, Try.ntmps115
  by_cases h1 : size < 32 ∨ 256 < size
  · have hR := HR.out
    unfold wholeP at hR
    rw [if_pos h1] at hR
    simp only [Prod.mk.injEq] at hR
    obtain ⟨rfl, rfl⟩ := hR
    have hl0 : Ll = 0 := HLl.out.symm
    subst hl0
    by_cases h2 : size < 32
    · clear h1
      go_wp2
      go_ret2
      exact ⟨none, 0, rfl, Own.nil _ _ _ _ _, Below.refl _ _⟩
    · have h3 : 256 < size := by omega
      clear h1
      go_wp2
      go_ret2
      exact ⟨none, 0, rfl, Own.nil _ _ _ _ _, Below.refl _ _⟩
  have h11 : ¬ size < 32 := by omega
  have h12 : ¬ 256 < size := by omega
  have hR := HR.out
  unfold wholeP at hR
  rw [if_neg h1, recs_length, ← HN.out] at hR
  have HR1 := Lib.hid hR
  clear hR h1 HR
  by_cases h1 : n < 1 ∨ 64 < n
  · have hR := HR1.out
    rw [if_pos h1] at hR
    simp only [Prod.mk.injEq] at hR
    obtain ⟨rfl, rfl⟩ := hR
    have hl0 : Ll = 0 := HLl.out.symm
    subst hl0
    by_cases h2 : n < 1
    · have h3 : (n : Int) < 1 := by omega
      clear h1
      go_wp2
      go_ret2
      exact ⟨none, 0, rfl, Own.nil _ _ _ _ _, Below.refl _ _⟩
    · have h3 : ¬ (n : Int) < 1 := by omega
      have h4 : (64 : Int) < (n : Int) := by omega
      clear h1
      go_wp2
      go_ret2
      exact ⟨none, 0, rfl, Own.nil _ _ _ _ _, Below.refl _ _⟩
  have hn1 : ¬ (n : Int) < 1 := by omega
  have hn2 : ¬ (64 : Int) < (n : Int) := by omega
  have hn64 : n ≤ 64 := by omega
  have hR := HR1.out
  rw [if_neg h1] at hR
  have HR2 := Lib.hid hR
  clear hR h1 HR1
  go_wp2_with fail
  refine (aend_any 4 (n : Int) w).mono ?_
  rintro e w1 ⟨rfl, hb1⟩
  have HB1 := Lib.hid hb1
  clear hb1
  go_wp2_with fail
  have hba := ext_alloc w1 (.cells #[.int .i64 4, .int .i64 (n : Int), .slice none 0 0] 54)
  have hga := heap_alloc_new w1 (.cells #[.int .i64 4, .int .i64 (n : Int), .slice none 0 0] 54)
  refine (aend_any 5 (n : Int) _).mono ?_
  rintro e w2 ⟨rfl, hb2⟩
  have hb02 := bthen (bthen HB1.out hba (Nat.le_refl _)) hb2 (Nat.le_refl _)
  have hg1 := (hb2.block _ (heap_lt hga)).trans hga
  have hbb := ext_alloc w2 (.cells #[.int .i64 5, .int .i64 (n : Int), .slice none 0 0] 54)
  have hg2 := heap_alloc_new w2 (.cells #[.int .i64 5, .int .i64 (n : Int), .slice none 0 0] 54)
  have hbc := ext_alloc (w2.alloc (.cells #[.int .i64 5, .int .i64 (n : Int), .slice none 0 0] 54)) (.cells #[.slice (some ⟨w1.heap.size, 0, none⟩) 1 1, .slice a n c, .slice (some ⟨w2.heap.size, 0, none⟩) 1 1] 39)
  have hg3 := heap_alloc_new (w2.alloc (.cells #[.int .i64 5, .int .i64 (n : Int), .slice none 0 0] 54)) (.cells #[.slice (some ⟨w1.heap.size, 0, none⟩) 1 1, .slice a n c, .slice (some ⟨w2.heap.size, 0, none⟩) 1 1] 39)
  have hg1 := (hbc.block _ (heap_lt ((hbb.block _ (heap_lt hg1)).trans hg1))).trans ((hbb.block _ (heap_lt hg1)).trans hg1)
  have hg2 := (hbc.block _ (heap_lt hg2)).trans hg2
  have hb03 := bthen (bthen hb02 hbb (Nat.le_refl _)) hbc (Nat.le_refl _)
  rw [World.size_alloc] at hg3
  have Hg1 := Lib.hid hg1
  have Hg2 := Lib.hid hg2
  have Hg3 := Lib.hid hg3
  have HB3 := Lib.hid hb03
  clear hba hga hb2 hb02 hbb hbc hg1 hg2 hg3 hb03 HB1
  go_wp2_with fail
  generalize hwx : World.alloc (World.alloc w2 _) _ = w3 at *
  clear hwx
  obtain ⟨ps, hps⟩ : ∃ ps : List Rsl, ps = [⟨some ⟨w1.heap.size, 0, none⟩, 1, [⟨4, (n : Int), ⟨none, 0, []⟩⟩]⟩, ⟨a, c, rs⟩, ⟨some ⟨w2.heap.size, 0, none⟩, 1, [⟨5, (n : Int), ⟨none, 0, []⟩⟩]⟩] := ⟨_, rfl⟩
  have hall : allR ps = ⟨4, (n : Int), ⟨none, 0, []⟩⟩ :: (rs ++ [⟨5, (n : Int), ⟨none, 0, []⟩⟩]) := by rw [hps]; simp [allR]
  have hrec : recs (allR ps) = aggrL (recs rs) := by
    rw [hall]
    unfold aggrL
    rw [recs_length, ← HN.out]
    simp [recs, RecV.pl]
  have hlen : (allR ps).length = n + 2 := by rw [hall]; simp [HN.out]
  have hok : ∀ r ∈ allR ps, r.d.ok w3 := by
    intro r hr
    rw [hall] at hr
    simp only [List.mem_cons, List.mem_append, List.not_mem_nil, or_false] at hr
    rcases hr with rfl | hr | rfl
    · exact ⟨Src.nil _ _, by simp⟩
    · exact (HA.out.row r hr).ext HB3.out
    · exact ⟨Src.nil _ _, by simp⟩
  have hS : Src w3 (some ⟨w2.heap.size + 1, 0, none⟩) (ps.map Rsl.val) := Or.inr ⟨w2.heap.size + 1, 0, _, _, _, rfl, Hg3.out, by rw [hps]; simp [Rsl.val, HN.out]⟩
  have hM : ∀ p ∈ ps, RMat w3 p.a p.rs := by
    intro p hp
    rw [hps] at hp
    simp only [List.mem_cons, List.not_mem_nil, or_false] at hp
    rcases hp with rfl | rfl | rfl
    · exact ⟨Or.inr ⟨_, 0, _, _, _, rfl, Hg1.out, rfl⟩, by intro r hr; rw [List.mem_singleton.1 hr]; exact ⟨Src.nil _ _, by simp⟩⟩
    · exact HA.out.ext HB3.out
    · exact ⟨Or.inr ⟨_, 0, _, _, _, rfl, Hg2.out, rfl⟩, by intro r hr; rw [List.mem_singleton.1 hr]; exact ⟨Src.nil _ _, by simp⟩⟩
  have Hrec := Lib.hid hrec
  have Hlen := Lib.hid hlen
  have Hok := Lib.hid hok
  have Hps : Hid (ps.length = 3) := Lib.hid (by rw [hps]; rfl)
  clear hall hrec hlen hok Hg1 Hg2 Hg3
  refine (concat_recs (some ⟨w2.heap.size + 1, 0, none⟩) 3 3 ps (n + 2) w3 hS Hps.out.symm (by decide) hM Hlen.out (by omega) (by omega)).mono ?_
  rintro e w4 ⟨a4, c4, rfl, ho4, hb4⟩
  have HM4 : Hid (RMat w4 a4 (allR ps)) := Lib.hid ⟨ho4.src, fun r hr => (Hok.out r hr).ext hb4⟩
  have HB4 := Lib.hid (bthen HB3.out hb4 (Nat.le_refl _))
  clear ho4 hb4 hS hM hps Hok HB3
  obtain ⟨E0, hE0⟩ : ∃ E0, joinE (aggrL (recs rs)) = E0 := ⟨_, rfl⟩
  obtain ⟨l0, hl0⟩ : ∃ l0, joinR (aggrL (recs rs)) = l0 := ⟨_, rfl⟩
  have hR := HR2.out
  rw [hE0] at hR
  have hl0' : E0 = 0 → l0 = joinB (aggrL (recs rs)) := fun h => by rw [← hl0]; unfold joinR; rw [if_pos (by rw [hE0]; exact h)]
  have HR3 := Lib.hid hR
  have HE0 := Lib.hid hE0
  have Hl0 := Lib.hid hl0
  have Hl0' := Lib.hid hl0'
  clear hR hE0 hl0 hl0' HR2
  go_wp2_with fail
  refine (join_at a4 c4 (n + 2) (allR ps) E0 l0 l0.length w4 HM4.out Hlen.out.symm (by omega) (by rw [Hrec.out]; exact HE0.out) (by rw [Hrec.out]; exact Hl0.out) rfl).mono ?_
  rintro e w5 ⟨a5, c5, rfl, ho5, hb5⟩
  have HO5 := Lib.hid ho5
  have HB5 := Lib.hid (bthen HB4.out hb5 (Nat.le_refl _))
  clear ho5 hb5 HM4
  by_cases hE : E0 = 0
  · subst hE
    have hR := HR3.out
    rw [if_neg (by simp), ← bareR_pl] at hR
    have HR4 := Lib.hid hR
    have Hl := Lib.hid (Hl0'.out rfl)
    clear hR HR3 Hl0' HE0
    go_wp2_with fail
    cases hbr : bareR rs with
    | true =>
      have hR := HR4.out
      rw [if_pos hbr] at hR
      simp only [Prod.mk.injEq] at hR
      obtain ⟨rfl, rfl⟩ := hR
      have hl0 : Ll = 0 := HLl.out.symm
      subst hl0
      refine (contains_recs a c n rs true w5 (HA.out.ext HB5.out) HN.out hl hbr).mono ?_
      rintro e w6 ⟨rfl, hb6⟩
      have HB6 := Lib.hid (bthen HB5.out hb6 (Nat.le_refl _))
      clear hb6 hbr HO5
      go_wp2
      go_ret2
      exact ⟨none, 0, rfl, Own.nil _ _ _ _ _, HB6.out⟩
    | false =>
      have hR := HR4.out
      rw [if_neg (by rw [hbr]; decide), ← Hl.out] at hR
      simp only [Prod.mk.injEq] at hR
      obtain ⟨rfl, rfl⟩ := hR
      rw [HLl.out] at HO5 ⊢
      refine (contains_recs a c n rs false w5 (HA.out.ext HB5.out) HN.out hl hbr).mono ?_
      rintro e w6 ⟨rfl, hb6⟩
      have HB6 := Lib.hid (bthen HB5.out hb6 (Nat.le_refl _))
      have HO6 := Lib.hid ((HO5.out.ext hb6).mono HB4.out.size)
      clear hb6 hbr HO5
      go_wp2
      go_ret2
      exact ⟨a5, c5, rfl, HO6.out, HB6.out⟩
  · have hR := HR3.out
    rw [if_pos hE] at hR
    simp only [Prod.mk.injEq] at hR
    obtain ⟨rfl, rfl⟩ := hR
    have hl0 : Ll = 0 := HLl.out.symm
    subst hl0
    have hE' : (E0 != 0) = true := by simpa using hE
    clear hE HO5 HR3 Hl0'
    go_wp2
    go_ret2
    exact ⟨none, 0, rfl, Own.nil _ _ _ _ _, HB5.out⟩

/-- How many blocks of a size hold so many bytes. -/
def needP (size : Int) (l : List Rec) : Int × Int := if (wholeP size l).2 ≠ 0 then (0, (wholeP size l).2) else ((((wholeP size l).1.length : Int) + size - 1).tdiv size, 0)
theorem aggrL_len (l : List Rec) (h : joinE (aggrL l) = 0) : (joinB (aggrL l)).length ≤ 8013 * (l.length + 2) := by
  have := joinB_le _ (joinE_ok.1 h)
  simpa [aggrL] using this
theorem wholeP_ok {size : Int} {l : List Rec} (h : (wholeP size l).2 = 0) : (32 ≤ size ∧ size ≤ 256) ∧ (1 ≤ l.length ∧ l.length ≤ 64) ∧ joinE (aggrL l) = 0 ∧ bareP l = false ∧ (wholeP size l).1 = joinB (aggrL l) := by
  unfold wholeP at h ⊢
  split at h
  · exact absurd h (by decide)
  split at h
  · exact absurd h (by decide)
  split at h
  · exact absurd h ‹_›
  split at h
  · exact absurd h (by decide)
  rename_i h1 h2 h3 h4
  rw [if_neg h1, if_neg h2, if_neg h3, if_neg h4]
  exact ⟨by omega, by omega, by simpa using h3, by simpa using h4, rfl⟩
end Go.Proofs.Ytclkkhpnnbkfmaa

/- slices.Chunk of bytes: its iterator's contract. -/
namespace Go.Proofs.Ytclkkhpnnbkfmaa
open Go.RowKit Go.Shelf

attribute [local go_sem] Oper.semAt_some

/-- The k-th piece of n of L, as a value. -/
def chunkV (b o L n k : Nat) : Value := .slice (some ⟨b, o + k * n, none⟩) (min n (L - k * n)) (min n (L - k * n))
/-- What a round must keep: the two boxes of the iterator. -/
structure KpC (B1 B2 : Nat) (W W' : World) : Prop where
  size : W.heap.size ≤ W'.heap.size
  b1 : W'.heap[B1]? = W.heap[B1]?
  b2 : W'.heap[B2]? = W.heap[B2]?
theorem KpC.refl {B1 B2 : Nat} (W : World) : KpC B1 B2 W W := ⟨Nat.le_refl _, rfl, rfl⟩
theorem KpC.trans {B1 B2 : Nat} {A B C : World} (h : KpC B1 B2 A B) (k : KpC B1 B2 B C) : KpC B1 B2 A C := ⟨Nat.le_trans h.size k.size, k.b1.trans h.b1, k.b2.trans h.b2⟩
theorem KpC.below {B1 B2 : Nat} {A B : World} (h : Below A.heap.size A B) (h1 : B1 < A.heap.size) (h2 : B2 < A.heap.size) : KpC B1 B2 A B := ⟨h.size, h.block _ h1, h.block _ h2⟩
theorem KpC.put {B1 B2 : Nat} {w : World} (h1 : B1 < w.heap.size) (h2 : B2 < w.heap.size) (W : World) (l : Nat) (o o' : Obj) (hl : w.heap.size ≤ l) (_ : W.heap[l]? = some o) (_ : o.isCells = false) (_ : o.isWalk = false) : KpC B1 B2 W (W.putObj l o') := by
  have hg := grownBy_putObj' W l o'
  exact ⟨hg.size, World.putObj_heap_other (by omega), World.putObj_heap_other (by omega)⟩
theorem range_snoc (k : Nat) : List.range (k + 1) = List.range k ++ [k] := List.range_succ

set_option maxRecDepth 100000 in
set_option maxHeartbeats 4000000 in
theorem chunk1_in (nn : Nat) (hnn : 1 ≤ nn) (l B1 B2 b o L c n m0 : Nat) (hn : 1 ≤ n) (hn2 : n ≤ 4611686018427387904) (hLc : L ≤ c) (hL2 : L ≤ 4611686018427387904) (hm0 : m0 = (L + n - 1) / n) (J Jx : List Nat → World → Prop) (hJ : ∀ pre A B, J pre A → Below A.heap.size A B → J pre B)
    (hY : ∀ pre x W, J pre W → pre.length < m0 → YieldAt Fence.wide (nn - 1) Try.prog l #[chunkV b o L n x] W fun e W' =>
      (e = .returned (.bool true) ∧ J (pre ++ [x]) W' ∧ KpC B1 B2 W W') ∨ (e = .returned (.bool false) ∧ Jx (pre ++ [x]) W'))
    (W : World) (T1 T2 : TypeId) (hB1 : W.heap[B1]? = some (.cells #[.slice (some ⟨b, o, none⟩) L c] T1 (0, 0))) (hB2 : W.heap[B2]? = some (.cells #[.int .i64 (n : Int)] T2 (0, 0))) (h0 : J [] W) :
    CallsIn Fence.wide nn Try.prog 137 #[.func (.yield l) #[] #[], .pointer (some ⟨B1, 0, none⟩), .pointer (some ⟨B2, 0, none⟩)] W fun e W' => (∃ v, e = .returned v) ∧
      ((∃ ys, ys = List.range m0 ∧ J ys W') ∨ (∃ pre, (∃ k, k ≤ m0 ∧ pre = List.range k) ∧ Jx pre W')) := by
  have Hm0 := Lib.hid hm0
  clear hm0
  refine callsIn_of_wp Try.func137 rfl trivial ?_ rfl
  simp only [Try.ntmps137, List.size_toArray, List.length_cons, List.length_nil, Nat.reduceAdd, Nat.reduceSub, Array.replicate_succ, Array.replicate_zero, List.push_toArray, List.append_toArray, List.nil_append, List.cons_append]
  gi_wp2
  gi_loopw [4] (fun i wr => ∃ k q : Nat, k ≤ m0 ∧ q = k * n ∧ i = .int .i64 (q : Int) ∧ J (List.range k) wr ∧ KpC B1 B2 W wr)
    (fun i _ => L + n - (intOf i).toNat)
  case atStart => exact ⟨0, 0, Nat.zero_le _, by simp, rfl, h0, KpC.refl _⟩
  case round =>
    rename_i wr
    obtain ⟨k, q, hk, hq, rfl, hJs, hnx⟩ := hrel
    have hw1 := hnx.b1.trans hB1
    have hw2 := hnx.b2.trans hB2
    have hl1 := heap_lt hw1
    have hl2 := heap_lt hw2
    have hc1 := cell_of_row wr B1 0 _ _ _ hw1
    have hc2 := cell_of_row wr B2 0 _ _ _ hw2
    have Hw2 := Lib.hid hw2
    clear hw1 hw2
    have Hq := Lib.hid hq
    clear hq
    by_cases hlt : q < L
    · have hkm : k < m0 := by
        rw [Hm0.out]
        show k + 1 ≤ (L + n - 1) / n
        rw [Nat.le_div_iff_mul_le (by omega), Nat.add_mul, Nat.one_mul, ← Hq.out]
        omega
      obtain ⟨m, hm⟩ : ∃ m, m = min n (L - q) := ⟨_, rfl⟩
      have Hmm : Hid (min (n : Int) ((L - q : Nat) : Int) = (m : Int)) := Lib.hid (by omega)
      have hm1 : q + m ≤ L := by omega
      have Hm := Lib.hid hm
      have hqc : ¬ c = q := by omega
      clear hm
      gi_wp2_with fail
      refine wpIn_wide.2 ?_
      refine wp_region_last2 _ _ (by simp only [lastSplit, Option.map_some]; rfl) (by kernel_rfl) [Sp.eq (.int .i64 (n : Int)), Sp.eq (.slice (some ⟨b, o, none⟩) L c), Sp.eq (.int .i64 (q : Int)), Sp.eq (.slice (some ⟨b, o + q, none⟩) (L - q) (c - q)), Sp.eq (.int .i64 ((L - q : Nat) : Int)), Sp.eq (.int .i64 (m : Int))] (by kernel_rfl) (by kernel_rfl) ?_ ?_
      · refine stepsOk_cons ?_ (stepsOk_cons ?_ (stepsOk_cons ?_ (stepsOk_cons ?_ (stepsOk_cons ?_ (stepsOk_cons ?_ (stepsOk_nil))))))
        · intro ρ w' E
          have e2 : ρ (.tmp 2) = .pointer (some ⟨B2, 0, none⟩) := E.out 2 rfl
          refine step_plain rfl ?_
          refine op_val (v := .int .i64 (n : Int)) (w' := w') ?_ ⟨Below.refl _ _, rfl⟩
          have hk := (World.cell?_of_block (w := wr) (E.below.block _ hl2)).trans hc2
          have hcon := E.con
          clear E 
          go_simp
        · intro ρ w' E
          have e1 : ρ (.tmp 1) = .pointer (some ⟨B1, 0, none⟩) := E.out 1 rfl
          refine step_plain rfl ?_
          refine op_val (v := .slice (some ⟨b, o, none⟩) L c) (w' := w') ?_ ⟨Below.refl _ _, rfl⟩
          have hk := (World.cell?_of_block (w := wr) (E.below.block _ hl1)).trans hc1
          have hcon := E.con
          clear E 
          go_simp
        · intro ρ w' E
          have e4 : ρ (.tmp 4) = .int .i64 (q : Int) := E.out 4 rfl
          refine step_plain rfl ?_
          exact op_move (.inl rfl) e4 ⟨Below.refl _ _, rfl⟩
        · intro ρ w' E
          have e14 : ρ (.tmp 14) = .slice (some ⟨b, o, none⟩) L c := E.pre 1 rfl
          have e15 : ρ (.tmp 15) = .int .i64 (q : Int) := E.pre 2 rfl
          refine step_plain rfl ?_
          refine op_val (v := .slice (some ⟨b, o + q, none⟩) (L - q) (c - q)) (w' := w') ?_ ⟨Below.refl _ _, rfl⟩
          have hcon := E.con
          clear E
          go_simp
          intro h
          omega
        · intro ρ w' E
          have e16 : ρ (.tmp 16) = .slice (some ⟨b, o + q, none⟩) (L - q) (c - q) := E.pre 3 rfl
          refine step_plain rfl ?_
          refine op_val (v := .int .i64 ((L - q : Nat) : Int)) (w' := w') ?_ ⟨Below.refl _ _, rfl⟩
          have hcon := E.con
          clear E
          go_simp
        · intro ρ w' E
          have e13 : ρ (.tmp 13) = .int .i64 (n : Int) := E.pre 0 rfl
          have e17 : ρ (.tmp 17) = .int .i64 ((L - q : Nat) : Int) := E.pre 4 rfl
          refine step_plain rfl ?_
          refine op_val (v := .int .i64 (m : Int)) (w' := w') ?_ ⟨Below.refl _ _, rfl⟩
          have hmm := Hmm.out
          have hcon := E.con
          clear E
          go_simp
          split <;> omega
      · intro σ w2 hb hall
        have h18 : σ 18 = .int .i64 (m : Int) := by obtain ⟨_, _, _, _, _, h, _⟩ := hall; exact h
        clear hall
        simp only [upd, updL, dstsOf', elemB, List.filterMap_cons, List.filterMap_nil, Nat.reduceAdd, Nat.reduceBEq, Bool.or_false, Bool.false_or, Bool.or_true, Bool.true_or, cond_true, cond_false, Nat.zero_add, h18]
        go_wp2_with fail
        obtain ⟨fn, tmps, assign, body, hy, hR⟩ := hY _ k w2 (hJ _ _ _ hJs hb) (by rw [List.length_range]; exact hkm)
        unfold chunkV at hy
        rw [← Hq.out, ← Hm.out] at hy
        have hc1 := (World.cell?_of_block (w := wr) (hb.block B1 hl1)).trans hc1
        have hw2' := (hb.block B2 hl2).trans Hw2.out
        have Hw2' := Lib.hid hw2'
        have hnx2 := hnx.trans (KpC.below hb hl1 hl2)
        clear hw2'
        have hqm : (q : Int) + (m : Int) ≤ (L : Int) := by omega
        have hwrap : IntKind.i64.wrap ((q : Int) + (m : Int)) = (q : Int) + (m : Int) := by rw [IntKind.wrap_i64]; omega
        have hqmc : q + m ≤ c := by omega
        have hkm0 : k + 1 ≤ m0 := hkm
        have hmm : q + m - q = m := by omega
        have hm0 : ¬ m = 0 := by have := Hm.out; omega
        have hm0' : ¬ q + m = q := by omega
        clear hnx h18 hb hc2 hl1 hl2 hkm
        gi_wp2_with fail
        refine hR.mono ?_
        rintro e W3 (⟨rfl, hJ3, hk3⟩ | ⟨rfl, hJx3⟩)
        · have hc2 := cell_of_row W3 B2 0 _ _ _ (hk3.b2.trans Hw2'.out)
          clear hqm hwrap hqmc hmm hm0 hm0' hc1
          gi_wp2
          go_roundw
          case rel => exact ⟨k + 1, q + n, hkm0, by rw [Nat.add_mul, Nat.one_mul, ← Hq.out], by go_num, by rw [range_snoc]; exact hJ3, hnx2.trans hk3⟩
          case measure => simp [intOf]; omega
        · gi_wp2
          refine bodyPost_ret (results_none rfl _ _ _) rfl ?_
          exact ⟨⟨_, rfl⟩, .inr ⟨_, ⟨k + 1, hkm0, (range_snoc _).symm⟩, hJx3⟩⟩
    · obtain rfl : k = m0 := by
        refine Nat.le_antisymm hk ?_
        rw [Hm0.out]
        refine Nat.lt_succ_iff.1 ((Nat.div_lt_iff_lt_mul (by omega)).2 ?_)
        rw [Nat.succ_mul, ← Hq.out]
        omega
      gi_wp2
      go_end0
      exact ⟨⟨_, rfl⟩, .inl ⟨_, rfl, hJs⟩⟩

set_option maxRecDepth 100000 in
set_option maxHeartbeats 1000000 in
/-- At nothing: no round. -/
theorem chunk1_nil (nn : Nat) (l B1 B2 n c : Nat) (a : Option Addr) (J : List Nat → World → Prop) (W : World) (T1 T2 : TypeId) (hB1 : W.heap[B1]? = some (.cells #[.slice a 0 c] T1 (0, 0))) (hB2 : W.heap[B2]? = some (.cells #[.int .i64 (n : Int)] T2 (0, 0))) (h0 : J [] W) :
    CallsIn Fence.wide nn Try.prog 137 #[.func (.yield l) #[] #[], .pointer (some ⟨B1, 0, none⟩), .pointer (some ⟨B2, 0, none⟩)] W fun e W' => (∃ v, e = .returned v) ∧ J [] W' := by
  have hc1 := cell_of_row W B1 0 _ _ _ hB1
  refine callsIn_of_wp Try.func137 rfl trivial ?_ rfl
  simp only [Try.ntmps137, List.size_toArray, List.length_cons, List.length_nil, Nat.reduceAdd, Nat.reduceSub, Array.replicate_succ, Array.replicate_zero, List.push_toArray, List.append_toArray, List.nil_append, List.cons_append]
  gi_wp2
  gi_loopw [4] (fun i wr => i = .int .i64 0 ∧ wr = W) (fun _ _ => 0)
  case atStart => exact ⟨rfl, rfl⟩
  case round =>
    obtain ⟨rfl, rfl⟩ := hrel
    gi_wp2
    go_end0
    exact ⟨⟨_, rfl⟩, h0⟩

/-- The value that slices.Chunk hands back: all pieces, in their order; or a beginning of them. -/
theorem chunk_stops (nn : Nat) (hnn : 1 ≤ nn) (B1 B2 L c n : Nat) (a : Option Addr) (l : List Value) (w0 : World) (hs : Src w0 a l) (hl : l.length = L) (hn : 1 ≤ n) (hn2 : n ≤ 4611686018427387904) (hLc : L ≤ c) (hL2 : L ≤ 4611686018427387904) (w : World)
    (T1 T2 : TypeId) (hB1 : w.heap[B1]? = some (.cells #[.slice a L c] T1 (0, 0))) (hB2 : w.heap[B2]? = some (.cells #[.int .i64 (n : Int)] T2 (0, 0))) :
    SeqStopsK Fence.wide nn Try.prog 137 #[.pointer (some ⟨B1, 0, none⟩), .pointer (some ⟨B2, 0, none⟩)] (fun k : Nat => match a with | some ⟨b, o, none⟩ => #[chunkV b o L n k] | _ => #[]) (KpC B1 B2) (fun ys => ys = List.range ((L + n - 1) / n)) (fun pre => ∃ k, k ≤ (L + n - 1) / n ∧ pre = List.range k) ((L + n - 1) / n) w := fun l0 J Jx W hW hJ _ hY h0 => by
  have hB1' := (hW.block B1 (heap_lt hB1)).trans hB1
  have hB2' := (hW.block B2 (heap_lt hB2)).trans hB2
  have hJ' : ∀ pre A B, J pre A → Below A.heap.size A B → J pre B := fun pre A B hj hb => hJ pre A B none hj ⟨hb.os, hb.tape, hb.output, hb.size, fun k hk _ => hb.block k hk⟩ (fun r e => by cases e)
  by_cases hL : L = 0
  · subst hL
    refine (chunk1_nil nn l0 B1 B2 n c a J W T1 T2 hB1' hB2' h0).mono ?_
    rintro e W' ⟨he, hj⟩
    refine ⟨he, .inl ⟨[], ?_, hj⟩⟩
    rw [Nat.div_eq_of_lt (by omega)]
    rfl
  · rcases hs with h | ⟨b, o, cs, T, m, rfl, _, _⟩
    · rw [h] at hl; simp at hl; omega
    · exact chunk1_in nn hnn l0 B1 B2 b o L c n _ hn hn2 hLc hL2 rfl J Jx hJ' hY W T1 T2 hB1' hB2' h0

set_option maxHeartbeats 1000000 in
theorem chunk_any (a : Option Addr) (L c n : Nat) (w : World) (hn : 1 ≤ n) :
    Calls Try.prog 116 #[.slice a L c, .int .i64 (n : Int)] w fun e w' => e = .returned (.func (.func 137) #[] #[.pointer (some ⟨w.heap.size, 0, none⟩), .pointer (some ⟨w.heap.size + 1, 0, none⟩)]) ∧
      w' = (w.alloc (.cells #[.slice a L c] 50)).alloc (.cells #[.int .i64 (n : Int)] 3) := by
  have h2 := heap_alloc_new (w.alloc (.cells #[.slice a L c] 50)) (.cells #[.int .i64 (n : Int)] 3)
  rw [World.size_alloc] at h2
  have hc2 := cell_of_row _ (w.heap.size + 1) 0 _ _ _ h2
  have hn1 : ¬ (n : Int) < 1 := by omega
  go_enter Try.func116, Try.ntmps116
  go_wp2
  go_ret
  exact ⟨rfl, rfl⟩
end Go.Proofs.Ytclkkhpnnbkfmaa
