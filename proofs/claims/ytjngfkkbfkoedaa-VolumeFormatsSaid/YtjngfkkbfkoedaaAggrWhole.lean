/- aggr.whole, Need. -/
import Derived.Test.YtjngfkkbfkoedaaVolumeFormatsPartM
import Derived.Test.YtjngfkkbfkoedaaAggrBare
import Derived.Test.YtjngfkkbfkoedaaJoin
namespace Go.Proofs.Ytjngfkkbfkoedaa
open Go.RowKit

def bareP (l : List Rec) : Bool := l.any fun r => bareK r.kind
theorem bareR_pl (rs : List RecV) : bareR rs = bareP (recs rs) := by
  unfold bareR bareP recs
  rw [List.any_map]
  rfl
/-- The records of an aggregate, with head and tail. -/
def aggrL (l : List Rec) : List Rec := ⟨4, l.length, []⟩ :: (l ++ [⟨5, l.length, []⟩])
/-- The bytes of an aggregate, or why there are none. -/
def wholeP (size : Int) (l : List Rec) : List Byte × Int :=
  if size < 32 ∨ 256 < size then ([], 1) else if l.length < 1 ∨ 64 < l.length then ([], 2)
  else if joinE (aggrL l) ≠ 0 then ([], joinE (aggrL l)) else if bareP l = true then ([], 1) else (joinB (aggrL l), 0)

set_option maxRecDepth 100000 in
set_option maxHeartbeats 4000000 in
theorem whole_at (size : Int) (a : Option Addr) (c n : Nat) (rs : List RecV) (l : List Byte) (E : Int) (Ll : Nat) (w : World) (ha : RMat w a rs) (hn : n = rs.length) (hl : n ≤ 9223372036854775807) (hR : wholeP size (recs rs) = (l, E)) (hLl : l.length = Ll) :
    Calls Try.prog 46 #[.int .i64 size, .slice a n c] w fun e w' => ∃ a' c', e = .returned (.tuple #[.slice a' Ll c', .int .i64 E]) ∧ Own w' w.heap.size 5 1 a' Ll c' (bvs l) ∧ Below w.heap.size w w' := by
  have HR := Lib.hid hR
  have HA := Lib.hid ha
  have HN := Lib.hid hn
  have HLl := Lib.hid hLl
  clear hR ha hn hLl
  go_enter Try.func46, Try.ntmps46
  by_cases h1 : size < 32 ∨ 256 < size
  · have hR := HR.out
    unfold wholeP at hR
    rw [if_pos h1] at hR
    simp only [Prod.mk.injEq] at hR
    obtain ⟨rfl, rfl⟩ := hR
    have hl0 : Ll = 0 := HLl.out.symm
    subst hl0
    by_cases h2 : size < 32
    · clear h1
      go_wp2
      go_ret2
      exact ⟨none, 0, rfl, Own.nil _ _ _ _ _, Below.refl _ _⟩
    · have h3 : 256 < size := by omega
      clear h1
      go_wp2
      go_ret2
      exact ⟨none, 0, rfl, Own.nil _ _ _ _ _, Below.refl _ _⟩
  have h11 : ¬ size < 32 := by omega
  have h12 : ¬ 256 < size := by omega
  have hR := HR.out
  unfold wholeP at hR
  rw [if_neg h1, recs_length, ← HN.out] at hR
  have HR1 := Lib.hid hR
  clear hR h1 HR
  by_cases h1 : n < 1 ∨ 64 < n
  · have hR := HR1.out
    rw [if_pos h1] at hR
    simp only [Prod.mk.injEq] at hR
    obtain ⟨rfl, rfl⟩ := hR
    have hl0 : Ll = 0 := HLl.out.symm
    subst hl0
    by_cases h2 : n < 1
    · have h3 : (n : Int) < 1 := by omega
      clear h1
      go_wp2
      go_ret2
      exact ⟨none, 0, rfl, Own.nil _ _ _ _ _, Below.refl _ _⟩
    · have h3 : ¬ (n : Int) < 1 := by omega
      have h4 : (64 : Int) < (n : Int) := by omega
      clear h1
      go_wp2
      go_ret2
      exact ⟨none, 0, rfl, Own.nil _ _ _ _ _, Below.refl _ _⟩
  have hn1 : ¬ (n : Int) < 1 := by omega
  have hn2 : ¬ (64 : Int) < (n : Int) := by omega
  have hn64 : n ≤ 64 := by omega
  have hR := HR1.out
  rw [if_neg h1] at hR
  have HR2 := Lib.hid hR
  clear hR h1 HR1
  go_wp2_with fail
  refine (aend_any 4 (n : Int) w).mono ?_
  rintro e w1 ⟨rfl, hb1⟩
  have HB1 := Lib.hid hb1
  clear hb1
  go_wp2_with fail
  have hba := ext_alloc w1 (.cells #[.int .i64 4, .int .i64 (n : Int), .slice none 0 0] 79)
  have hga := heap_alloc_new w1 (.cells #[.int .i64 4, .int .i64 (n : Int), .slice none 0 0] 79)
  refine (aend_any 5 (n : Int) _).mono ?_
  rintro e w2 ⟨rfl, hb2⟩
  have hb02 := bthen (bthen HB1.out hba (Nat.le_refl _)) hb2 (Nat.le_refl _)
  have hg1 := (hb2.block _ (heap_lt hga)).trans hga
  have hbb := ext_alloc w2 (.cells #[.int .i64 5, .int .i64 (n : Int), .slice none 0 0] 79)
  have hg2 := heap_alloc_new w2 (.cells #[.int .i64 5, .int .i64 (n : Int), .slice none 0 0] 79)
  have hbc := ext_alloc (w2.alloc (.cells #[.int .i64 5, .int .i64 (n : Int), .slice none 0 0] 79)) (.cells #[.slice (some ⟨w1.heap.size, 0, none⟩) 1 1, .slice a n c, .slice (some ⟨w2.heap.size, 0, none⟩) 1 1] 55)
  have hg3 := heap_alloc_new (w2.alloc (.cells #[.int .i64 5, .int .i64 (n : Int), .slice none 0 0] 79)) (.cells #[.slice (some ⟨w1.heap.size, 0, none⟩) 1 1, .slice a n c, .slice (some ⟨w2.heap.size, 0, none⟩) 1 1] 55)
  have hg1 := (hbc.block _ (heap_lt ((hbb.block _ (heap_lt hg1)).trans hg1))).trans ((hbb.block _ (heap_lt hg1)).trans hg1)
  have hg2 := (hbc.block _ (heap_lt hg2)).trans hg2
  have hb03 := bthen (bthen hb02 hbb (Nat.le_refl _)) hbc (Nat.le_refl _)
  rw [World.size_alloc] at hg3
  have Hg1 := Lib.hid hg1
  have Hg2 := Lib.hid hg2
  have Hg3 := Lib.hid hg3
  have HB3 := Lib.hid hb03
  clear hba hga hb2 hb02 hbb hbc hg1 hg2 hg3 hb03 HB1
  go_wp2_with fail
  generalize hwx : World.alloc (World.alloc w2 _) _ = w3 at *
  clear hwx
  obtain ⟨ps, hps⟩ : ∃ ps : List Rsl, ps = [⟨some ⟨w1.heap.size, 0, none⟩, 1, [⟨4, (n : Int), ⟨none, 0, []⟩⟩]⟩, ⟨a, c, rs⟩, ⟨some ⟨w2.heap.size, 0, none⟩, 1, [⟨5, (n : Int), ⟨none, 0, []⟩⟩]⟩] := ⟨_, rfl⟩
  have hall : allR ps = ⟨4, (n : Int), ⟨none, 0, []⟩⟩ :: (rs ++ [⟨5, (n : Int), ⟨none, 0, []⟩⟩]) := by rw [hps]; simp [allR]
  have hrec : recs (allR ps) = aggrL (recs rs) := by
    rw [hall]
    unfold aggrL
    rw [recs_length, ← HN.out]
    simp [recs, RecV.pl]
  have hlen : (allR ps).length = n + 2 := by rw [hall]; simp [HN.out]
  have hok : ∀ r ∈ allR ps, r.d.ok w3 := by
    intro r hr
    rw [hall] at hr
    simp only [List.mem_cons, List.mem_append, List.not_mem_nil, or_false] at hr
    rcases hr with rfl | hr | rfl
    · exact ⟨Src.nil _ _, by simp⟩
    · exact (HA.out.row r hr).ext HB3.out
    · exact ⟨Src.nil _ _, by simp⟩
  have hS : Src w3 (some ⟨w2.heap.size + 1, 0, none⟩) (ps.map Rsl.val) := Or.inr ⟨w2.heap.size + 1, 0, _, _, _, rfl, Hg3.out, by rw [hps]; simp [Rsl.val, HN.out]⟩
  have hM : ∀ p ∈ ps, RMat w3 p.a p.rs := by
    intro p hp
    rw [hps] at hp
    simp only [List.mem_cons, List.not_mem_nil, or_false] at hp
    rcases hp with rfl | rfl | rfl
    · exact ⟨Or.inr ⟨_, 0, _, _, _, rfl, Hg1.out, rfl⟩, by intro r hr; rw [List.mem_singleton.1 hr]; exact ⟨Src.nil _ _, by simp⟩⟩
    · exact HA.out.ext HB3.out
    · exact ⟨Or.inr ⟨_, 0, _, _, _, rfl, Hg2.out, rfl⟩, by intro r hr; rw [List.mem_singleton.1 hr]; exact ⟨Src.nil _ _, by simp⟩⟩
  have Hrec := Lib.hid hrec
  have Hlen := Lib.hid hlen
  have Hok := Lib.hid hok
  have Hps : Hid (ps.length = 3) := Lib.hid (by rw [hps]; rfl)
  clear hall hrec hlen hok Hg1 Hg2 Hg3
  refine (concat_recs (some ⟨w2.heap.size + 1, 0, none⟩) 3 3 ps (n + 2) w3 hS Hps.out.symm (by decide) hM Hlen.out (by omega) (by omega)).mono ?_
  rintro e w4 ⟨a4, c4, rfl, ho4, hb4⟩
  have HM4 : Hid (RMat w4 a4 (allR ps)) := Lib.hid ⟨ho4.src, fun r hr => (Hok.out r hr).ext hb4⟩
  have HB4 := Lib.hid (bthen HB3.out hb4 (Nat.le_refl _))
  clear ho4 hb4 hS hM hps Hok HB3
  obtain ⟨E0, hE0⟩ : ∃ E0, joinE (aggrL (recs rs)) = E0 := ⟨_, rfl⟩
  obtain ⟨l0, hl0⟩ : ∃ l0, joinR (aggrL (recs rs)) = l0 := ⟨_, rfl⟩
  have hR := HR2.out
  rw [hE0] at hR
  have hl0' : E0 = 0 → l0 = joinB (aggrL (recs rs)) := fun h => by rw [← hl0]; unfold joinR; rw [if_pos (by rw [hE0]; exact h)]
  have HR3 := Lib.hid hR
  have HE0 := Lib.hid hE0
  have Hl0 := Lib.hid hl0
  have Hl0' := Lib.hid hl0'
  clear hR hE0 hl0 hl0' HR2
  go_wp2_with fail
  refine (join_at a4 c4 (n + 2) (allR ps) E0 l0 l0.length w4 HM4.out Hlen.out.symm (by omega) (by rw [Hrec.out]; exact HE0.out) (by rw [Hrec.out]; exact Hl0.out) rfl).mono ?_
  rintro e w5 ⟨a5, c5, rfl, ho5, hb5⟩
  have HO5 := Lib.hid ho5
  have HB5 := Lib.hid (bthen HB4.out hb5 (Nat.le_refl _))
  clear ho5 hb5 HM4
  by_cases hE : E0 = 0
  · subst hE
    have hR := HR3.out
    rw [if_neg (by simp), ← bareR_pl] at hR
    have HR4 := Lib.hid hR
    have Hl := Lib.hid (Hl0'.out rfl)
    clear hR HR3 Hl0' HE0
    go_wp2_with fail
    cases hbr : bareR rs with
    | true =>
      have hR := HR4.out
      rw [if_pos hbr] at hR
      simp only [Prod.mk.injEq] at hR
      obtain ⟨rfl, rfl⟩ := hR
      have hl0 : Ll = 0 := HLl.out.symm
      subst hl0
      refine (contains_recs a c n rs true w5 (HA.out.ext HB5.out) HN.out hl hbr).mono ?_
      rintro e w6 ⟨rfl, hb6⟩
      have HB6 := Lib.hid (bthen HB5.out hb6 (Nat.le_refl _))
      clear hb6 hbr HO5
      go_wp2
      go_ret2
      exact ⟨none, 0, rfl, Own.nil _ _ _ _ _, HB6.out⟩
    | false =>
      have hR := HR4.out
      rw [if_neg (by rw [hbr]; decide), ← Hl.out] at hR
      simp only [Prod.mk.injEq] at hR
      obtain ⟨rfl, rfl⟩ := hR
      rw [HLl.out] at HO5 ⊢
      refine (contains_recs a c n rs false w5 (HA.out.ext HB5.out) HN.out hl hbr).mono ?_
      rintro e w6 ⟨rfl, hb6⟩
      have HB6 := Lib.hid (bthen HB5.out hb6 (Nat.le_refl _))
      have HO6 := Lib.hid ((HO5.out.ext hb6).mono HB4.out.size)
      clear hb6 hbr HO5
      go_wp2
      go_ret2
      exact ⟨a5, c5, rfl, HO6.out, HB6.out⟩
  · have hR := HR3.out
    rw [if_pos hE] at hR
    simp only [Prod.mk.injEq] at hR
    obtain ⟨rfl, rfl⟩ := hR
    have hl0 : Ll = 0 := HLl.out.symm
    subst hl0
    have hE' : (E0 != 0) = true := by simpa using hE
    clear hE HO5 HR3 Hl0'
    go_wp2
    go_ret2
    exact ⟨none, 0, rfl, Own.nil _ _ _ _ _, HB5.out⟩

/-- How many blocks of a size hold so many bytes. -/
def needP (size : Int) (l : List Rec) : Int × Int := if (wholeP size l).2 ≠ 0 then (0, (wholeP size l).2) else ((((wholeP size l).1.length : Int) + size - 1).tdiv size, 0)
theorem aggrL_len (l : List Rec) (h : joinE (aggrL l) = 0) : (joinB (aggrL l)).length ≤ 8013 * (l.length + 2) := by
  have := joinB_le _ (joinE_ok.1 h)
  simpa [aggrL] using this
theorem wholeP_ok {size : Int} {l : List Rec} (h : (wholeP size l).2 = 0) : (32 ≤ size ∧ size ≤ 256) ∧ (1 ≤ l.length ∧ l.length ≤ 64) ∧ joinE (aggrL l) = 0 ∧ bareP l = false ∧ (wholeP size l).1 = joinB (aggrL l) := by
  unfold wholeP at h ⊢
  split at h
  · exact absurd h (by decide)
  split at h
  · exact absurd h (by decide)
  split at h
  · exact absurd h ‹_›
  split at h
  · exact absurd h (by decide)
  rename_i h1 h2 h3 h4
  rw [if_neg h1, if_neg h2, if_neg h3, if_neg h4]
  exact ⟨by omega, by omega, by simpa using h3, by simpa using h4, rfl⟩
end Go.Proofs.Ytjngfkkbfkoedaa
