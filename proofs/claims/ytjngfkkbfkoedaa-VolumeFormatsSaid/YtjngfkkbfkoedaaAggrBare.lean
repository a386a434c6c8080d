/- aggr.end, bare; slices.ContainsFunc of records. -/
import Derived.Test.YtjngfkkbfkoedaaVolumeFormatsPartM
import Derived.Test.YtjngfkkbfkoedaaProg
import Derived.Outline
namespace Go.Proofs.Ytjngfkkbfkoedaa
open Go.RowKit

def bareK (k : Int) : Bool := decide (k = 4 ∨ k = 5)
def bareR (rs : List RecV) : Bool := rs.any fun r => bareK r.kind
theorem bareR_take (rs : List RecV) (k : Nat) (h : k < rs.length) : bareR (rs.take (k + 1)) = (bareR (rs.take k) || bareK rs[k].kind) := by
  rw [take_succ_list rs k h]; unfold bareR; rw [List.any_append]; simp only [List.any_cons, List.any_nil, Bool.or_false]

set_option maxHeartbeats 1000000 in
theorem bare_any (k s : Int) (a : Option Addr) (n c : Nat) (r : Bool) (w : World) (hr : bareK k = r) :
    Calls Try.prog 75 #[.agg #[.int .i64 k, .int .i64 s, .slice a n c]] w fun e w' => e = .returned (.bool r) ∧ Below w.heap.size w w' := by
  have hb := ext_alloc w (.cells #[.int .i64 k, .int .i64 s, .slice a n c] 79)
  have HR := Lib.hid hr
  clear hr
  go_enter Try.func75, Try.ntmps75
  by_cases h4 : k = 4
  · subst h4
    have hr := HR.out
    simp [bareK] at hr
    subst hr
    go_wp2
    go_ret
    exact ⟨rfl, hb⟩
  · have e4 : (k == 4) = false := by simpa using h4
    by_cases h5 : k = 5
    · subst h5
      have hr := HR.out
      simp [bareK] at hr
      subst hr
      clear h4
      go_wp2
      go_ret
      exact ⟨rfl, hb⟩
    · have e5 : (k == 5) = false := by simpa using h5
      have hr := HR.out
      simp [bareK, h4, h5] at hr
      subst hr
      clear h4 h5 HR
      go_wp2
      go_ret
      exact ⟨rfl, hb⟩

set_option maxRecDepth 100000 in
set_option maxHeartbeats 1000000 in
theorem index_recs (a : Option Addr) (c n : Nat) (rs : List RecV) (w : World) (hs : RMat w a rs) (hn : n = rs.length) (hn2 : n ≤ 9223372036854775807) :
    Calls Try.prog 88 #[.slice a n c, .func (.func 75) #[] #[]] w fun e w' => ∃ r : Int, e = .returned (.int .i64 r) ∧ Below w.heap.size w w' ∧ decide (0 ≤ r) = bareR rs := by
  have Hs := Lib.hid hs
  have Hn := Lib.hid hn
  clear hs hn
  go_enter Try.func88, Try.ntmps88
  go_wp2_with fail
  go_loopw [8] (fun i wr => ∃ (k : Nat), k ≤ n ∧ i = .int .i64 (k : Int) ∧ Below w.heap.size w wr ∧ bareR (rs.take k) = false) (fun i _ => n - (intOf i).toNat)
  case atStart => exact ⟨0, by omega, rfl, Below.refl _ _, rfl⟩
  case round =>
    rename_i wr
    obtain ⟨k, hk, rfl, hbr, hbad⟩ := hrel
    have Hbad := Lib.hid hbad
    clear hbad
    by_cases hlt : k < n
    · have hkl : k < rs.length := by have := Hn.out; omega
      obtain ⟨b, o, rfl, hlb, hat⟩ := Hs.out.at hkl
      obtain ⟨q0, q1, q2⟩ := hat k hkl
      have Htk := Lib.hid (bareR_take rs k hkl)
      have hmem := List.getElem_mem hkl
      generalize rs[k] = x at *
      have c0 := (World.cell?_of_block (w := w) (a := ⟨b, o + k * 3, none⟩) (hbr.block b hlb)).trans q0
      have c1 := (World.cell?_of_block (w := w) (a := ⟨b, o + k * 3 + 1, none⟩) (hbr.block b hlb)).trans q1
      have c2 := (World.cell?_of_block (w := w) (a := ⟨b, o + k * 3 + 2, none⟩) (hbr.block b hlb)).trans q2
      have Hmem := Lib.hid hmem
      clear hat q0 q1 q2 hmem
      go_wp2_with fail
      cases hr : bareK x.kind with
      | false =>
        have Htk2 := Lib.hid (show bareR (rs.take (k + 1)) = false by rw [Htk.out, Hbad.out, hr]; rfl)
        refine (bare_any x.kind x.seq x.d.a x.d.l.length x.d.c false wr hr).mono ?_
        rintro e w1 ⟨rfl, hb1⟩
        clear c0 c1 c2 hr
        go_wp2_with fail
        go_roundw
        case rel => exact ⟨k + 1, by omega, by go_num, bthen hbr hb1 (Nat.le_refl _), Htk2.out⟩
        case measure => simp [intOf]; omega
      | true =>
        have hbc : bareR rs = true := by
          rw [bareR, List.any_eq_true]
          exact ⟨x, Hmem.out, hr⟩
        have Hbc := Lib.hid hbc
        clear hbc
        refine (bare_any x.kind x.seq x.d.a x.d.l.length x.d.c true wr hr).mono ?_
        rintro e w1 ⟨rfl, hb1⟩
        clear c0 c1 c2 hr
        go_wp2
        go_ret
        exact ⟨(k : Int), rfl, bthen hbr hb1 (Nat.le_refl _), by rw [Hbc.out]; simp⟩
    · have hbc : bareR rs = false := by
        have h1 := Hbad.out
        rw [List.take_of_length_le (by have := Hn.out; omega)] at h1
        exact h1
      have Hbc := Lib.hid hbc
      clear hbc
      go_wp2
      go_ret
      exact ⟨-1, rfl, hbr, by rw [Hbc.out]; rfl⟩
theorem contains_recs (a : Option Addr) (c n : Nat) (rs : List RecV) (r : Bool) (w : World) (hs : RMat w a rs) (hn : n = rs.length) (hn2 : n ≤ 9223372036854775807) (hr : bareR rs = r) :
    Calls Try.prog 74 #[.slice a n c, .func (.func 75) #[] #[]] w fun e w' => e = .returned (.bool r) ∧ Below w.heap.size w w' := by
  have HC := Lib.hid (index_recs a c n rs w hs hn hn2)
  have HR := Lib.hid hr
  clear hs hn hr
  go_enter Try.func74, Try.ntmps74
  go_wp2_with fail
  refine HC.out.mono ?_
  rintro e w1 ⟨z, rfl, hb1, hz⟩
  rw [HR.out] at hz
  go_wp2
  go_ret
  exact ⟨rfl, hb1⟩
set_option maxHeartbeats 1000000 in
theorem aend_any (k m : Int) (w : World) :
    Calls Try.prog 72 #[.int .i64 k, .int .i64 m] w fun e w' => e = .returned (.agg #[.int .i64 k, .int .i64 m, .slice none 0 0]) ∧ Below w.heap.size w w' := by
  have hg0 := heap_alloc_new w (.cells #[.int .i64 0, .int .i64 0, .slice none 0 0] 79)
  have hg := setRow_heap _ w.heap.size _ #[.int .i64 k, .int .i64 m, .slice none 0 0] _ _ hg0
  have hb := bsetRow (ext_alloc w (.cells #[.int .i64 0, .int .i64 0, .slice none 0 0] 79)) (Nat.le_refl _) #[.int .i64 k, .int .i64 m, .slice none 0 0]
  go_enter Try.func72, Try.ntmps72
  go_wp2_with (refine wpList_store_row rfl rfl 79 (.tmp 4) (.tmp 7) rfl w.heap.size rfl 79 #[.int .i64 0, .int .i64 0, .slice none 0 0] #[.int .i64 k, .int .i64 m, .slice none 0 0] rfl hg0 rfl (by kernel_rfl) (by simp [Value.oneCell']) ?_)
  exact bodyPost_ret (v := .agg _) (results_cell_row (p := 4) rfl _ _ w.heap.size _ #[.int .i64 k, .int .i64 m, .slice none 0 0] _ _ rfl hg Try.underlying79 rfl (by kernel_rfl)) rfl ⟨rfl, hb⟩
end Go.Proofs.Ytjngfkkbfkoedaa
