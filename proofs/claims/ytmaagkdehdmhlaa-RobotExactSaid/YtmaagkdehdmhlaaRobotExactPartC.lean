/- Several texts of this claim, one behind the other: Med, MedRead. -/
import Derived.Test.YtmaagkdehdmhlaaRobotExactPartA
import Derived.Test.YtmaagkdehdmhlaaRobotExactPartB
import Derived.Laws.ResultCell
/- api.Medium as it lies; medium.Check. -/
namespace Go.Proofs.Ytmaagkdehdmhlaa
open Go.RowKit

/-- A cell as it lies. -/
structure CellV where
  kind : Int
  d : Bsl
  bad : Bool
def CellV.cells (x : CellV) : List Value := [.int .i64 x.kind, .slice x.d.a x.d.l.length x.d.c, .bool x.bad]
def CellV.pl (x : CellV) : CellP := ⟨x.kind, x.d.l, x.bad⟩
theorem CellV.len (x : CellV) : x.cells.length = 3 := rfl
theorem CellV.one (x : CellV) : ∀ u ∈ x.cells, u.oneCell' = true := by
  intro u hu
  simp only [CellV.cells, List.mem_cons, List.not_mem_nil, or_false] at hu
  rcases hu with rfl | rfl | rfl <;> rfl
/-- The cells of a tape that is read. -/
structure CMat (w : World) (a : Option Addr) (cs : List CellV) : Prop where
  src : Src w a (flt CellV.cells cs)
  row : ∀ x ∈ cs, x.d.ok w
theorem CMat.ext {w w' : World} {a : Option Addr} {cs : List CellV} (h : CMat w a cs) (hb : Below w.heap.size w w') : CMat w' a cs := ⟨h.src.ext hb, fun x hx => (h.row x hx).ext hb⟩
theorem CMat.nil (w : World) (a : Option Addr) : CMat w a [] := ⟨Src.nil _ _, by simp⟩
theorem CMat.take {w : World} {a : Option Addr} {cs : List CellV} (h : CMat w a cs) (n : Nat) : CMat w a (cs.take n) := ⟨by rw [flt_take CellV.len]; exact h.src.take _, fun x hx => h.row x (List.mem_of_mem_take hx)⟩
def pls (cs : List CellV) : List CellP := cs.map CellV.pl
theorem pls_length (cs : List CellV) : (pls cs).length = cs.length := by simp [pls]

theorem right_any (k : Int) (a : Option Addr) (n c : Nat) (bad r : Bool) (w : World) (hn : n ≤ 9223372036854775807) (hr : rightC k n = r) :
    Calls Try.prog 66 #[.agg #[.int .i64 k, .slice a n c, .bool bad]] w fun e w' => e = .returned (.bool r) ∧ Below w.heap.size w w' := by
  have HR := Lib.hid hr
  clear hr
  have hb := ext_alloc w (.cells #[.int .i64 k, .slice a n c, .bool bad] 42)
  by_cases h1 : k = 1
  · subst h1
    by_cases h2 : 1 ≤ n
    · by_cases h3 : n ≤ 256
      · have hr : r = true := by rw [← HR.out]; unfold rightC; rw [decide_eq_true_eq]; exact .inl ⟨rfl, h2, h3⟩
        subst hr
        go_enter Try.func66, Try.ntmps66
        go_wp2
        go_ret
        first | exact ⟨rfl, hb⟩ | exact ⟨by simp; omega, hb⟩
      · have hr : r = false := by rw [← HR.out]; unfold rightC; rw [decide_eq_false_iff_not]; omega
        subst hr
        go_enter Try.func66, Try.ntmps66
        go_wp2
        go_ret
        first | exact ⟨rfl, hb⟩ | exact ⟨by simp; omega, hb⟩
    · have hr : r = false := by rw [← HR.out]; unfold rightC; rw [decide_eq_false_iff_not]; omega
      subst hr
      have h2' : n = 0 := by omega
      subst h2'
      go_enter Try.func66, Try.ntmps66
      go_wp2
      go_ret
      first | exact ⟨rfl, hb⟩ | exact ⟨by simp; omega, hb⟩
  · have e1 : (k == 1) = false := by simpa using h1
    by_cases h2 : k = 2
    · subst h2
      by_cases h3 : n = 0
      · have hr : r = true := by rw [← HR.out]; unfold rightC; rw [decide_eq_true_eq]; omega
        subst hr
        subst h3
        go_enter Try.func66, Try.ntmps66
        go_wp2
        go_ret
        first | exact ⟨rfl, hb⟩ | exact ⟨by simp; omega, hb⟩
      · have hr : r = false := by rw [← HR.out]; unfold rightC; rw [decide_eq_false_iff_not]; omega
        subst hr
        have e3 : ((n : Int) == 0) = false := by simp; omega
        go_enter Try.func66, Try.ntmps66
        go_wp2
        go_ret
        first | exact ⟨rfl, hb⟩ | exact ⟨by simp; omega, hb⟩
    · have e2 : (k == 2) = false := by simpa using h2
      by_cases h3 : k = 3
      · subst h3
        by_cases h4 : n ≤ 256
        · have hr : r = true := by rw [← HR.out]; unfold rightC; rw [decide_eq_true_eq]; omega
          subst hr
          go_enter Try.func66, Try.ntmps66
          go_wp2
          go_ret
          first | exact ⟨rfl, hb⟩ | exact ⟨by simp; omega, hb⟩
        · have hr : r = false := by rw [← HR.out]; unfold rightC; rw [decide_eq_false_iff_not]; omega
          subst hr
          go_enter Try.func66, Try.ntmps66
          go_wp2
          go_ret
          first | exact ⟨rfl, hb⟩ | exact ⟨by simp; omega, hb⟩
      · have e3 : (k == 3) = false := by simpa using h3
        have hr : r = false := by rw [← HR.out]; unfold rightC; rw [decide_eq_false_iff_not]; omega
        subst hr
        clear h1 h2 h3
        go_enter Try.func66, Try.ntmps66
        go_wp2
        go_ret
        first | exact ⟨rfl, hb⟩ | exact ⟨by simp; omega, hb⟩

theorem check1_any (k : Int) (a : Option Addr) (n c : Nat) (bad r : Bool) (w : World) (hn : n ≤ 9223372036854775807) (hr : rightC k n = r) :
    Calls Try.prog 65 #[.agg #[.int .i64 k, .slice a n c, .bool bad]] w fun e w' => e = .returned (.bool (!r)) ∧ Below w.heap.size w w' := by
  have hz := heap_alloc_new w (.cells #[.int .i64 k, .slice a n c, .bool bad] 42)
  have hb := ext_alloc w (.cells #[.int .i64 k, .slice a n c, .bool bad] 42)
  have HC := Lib.hid (right_any k a n c bad r (w.alloc (.cells #[.int .i64 k, .slice a n c, .bool bad] 42)) hn hr)
  clear hr
  go_enter Try.func65, Try.ntmps65
  go_wp2_with fail
  refine HC.out.mono ?_
  rintro e w1 ⟨rfl, hb1⟩
  go_wp2
  go_ret
  exact ⟨rfl, bthen hb hb1 (Nat.le_refl _)⟩

/-- A cell that may not be. -/
def badC (cs : List CellV) : Bool := cs.any fun x => !rightC x.kind x.d.l.length
theorem badC_pls (cs : List CellV) : badC cs = !(pls cs).all CellP.right := by
  induction cs with
  | nil => rfl
  | cons x cs ih =>
    simp only [badC, pls, List.any_cons, List.map_cons, List.all_cons, Bool.not_and] at ih ⊢
    rw [ih]; rfl
theorem badC_take (cs : List CellV) (k : Nat) (h : k < cs.length) : badC (cs.take (k + 1)) = (badC (cs.take k) || !rightC cs[k].kind cs[k].d.l.length) := by
  rw [take_succ_list cs k h]; unfold badC; rw [List.any_append]; simp only [List.any_cons, List.any_nil, Bool.or_false]

set_option maxRecDepth 100000 in
set_option maxHeartbeats 1000000 in
theorem index_any (a : Option Addr) (c n : Nat) (cs : List CellV) (w : World) (hs : CMat w a cs) (hn : n = cs.length) (hn2 : n ≤ 9223372036854775807) :
    Calls Try.prog 73 #[.slice a n c, .func (.func 65) #[] #[]] w fun e w' => ∃ r : Int, e = .returned (.int .i64 r) ∧ Below w.heap.size w w' ∧ decide (0 ≤ r) = badC cs := by
  have Hs := Lib.hid hs
  have Hn := Lib.hid hn
  clear hs hn
  go_enter Try.func73, Try.ntmps73
  go_wp2_with fail
  go_loopw [8] (fun i wr => ∃ (k : Nat), k ≤ n ∧ i = .int .i64 (k : Int) ∧ Below w.heap.size w wr ∧ badC (cs.take k) = false) (fun i _ => n - (intOf i).toNat)
  case atStart => exact ⟨0, by omega, rfl, Below.refl _ _, rfl⟩
  case round =>
    rename_i wr
    obtain ⟨k, hk, rfl, hbr, hbad⟩ := hrel
    have Hbad := Lib.hid hbad
    clear hbad
    by_cases hlt : k < n
    · have hkl : k < cs.length := by have := Hn.out; omega
      obtain ⟨b, o, rfl, hlb, hat⟩ := Hs.out.src.elem CellV.len (by decide) hkl
      have q0 := hat k hkl 0 _ rfl
      have q1 := hat k hkl 1 _ rfl
      have q2 := hat k hkl 2 _ rfl
      have hrow := Hs.out.row _ (List.getElem_mem hkl)
      have Htk := Lib.hid (badC_take cs k hkl)
      have hmem := List.getElem_mem hkl
      generalize cs[k] = x at *
      have c0 := (World.cell?_of_block (w := w) (a := ⟨b, o + k * 3, none⟩) (hbr.block b hlb)).trans q0
      have c1 := (World.cell?_of_block (w := w) (a := ⟨b, o + k * 3 + 1, none⟩) (hbr.block b hlb)).trans q1
      have c2 := (World.cell?_of_block (w := w) (a := ⟨b, o + k * 3 + 2, none⟩) (hbr.block b hlb)).trans q2
      have hxl := hrow.2
      have Hmem := Lib.hid hmem
      clear hat q0 q1 q2 hrow hmem
      go_wp2_with fail
      cases hr : rightC x.kind x.d.l.length with
      | true =>
        have Htk2 := Lib.hid (show badC (cs.take (k + 1)) = false by rw [Htk.out, Hbad.out, hr]; rfl)
        refine (check1_any x.kind x.d.a x.d.l.length x.d.c x.bad true wr hxl hr).mono ?_
        rintro e w1 ⟨rfl, hb1⟩
        clear c0 c1 c2 hr
        go_wp2_with fail
        go_roundw
        case rel => exact ⟨k + 1, by omega, by go_num, bthen hbr hb1 (Nat.le_refl _), Htk2.out⟩
        case measure => simp [intOf]; omega
      | false =>
        have hbc : badC cs = true := by
          rw [badC, List.any_eq_true]
          exact ⟨x, Hmem.out, by rw [hr]; rfl⟩
        have Hbc := Lib.hid hbc
        clear hbc
        refine (check1_any x.kind x.d.a x.d.l.length x.d.c x.bad false wr hxl hr).mono ?_
        rintro e w1 ⟨rfl, hb1⟩
        clear c0 c1 c2 hr
        go_wp2
        go_ret
        exact ⟨(k : Int), rfl, bthen hbr hb1 (Nat.le_refl _), by rw [Hbc.out]; simp⟩
    · have hbc : badC cs = false := by
        have h1 := Hbad.out
        rw [List.take_of_length_le (by have := Hn.out; omega)] at h1
        exact h1
      have Hbc := Lib.hid hbc
      clear hbc
      go_wp2
      go_ret
      exact ⟨-1, rfl, hbr, by rw [Hbc.out]; rfl⟩
theorem contains_any (a : Option Addr) (c n : Nat) (cs : List CellV) (r : Bool) (w : World) (hs : CMat w a cs) (hn : n = cs.length) (hn2 : n ≤ 9223372036854775807) (hr : badC cs = r) :
    Calls Try.prog 64 #[.slice a n c, .func (.func 65) #[] #[]] w fun e w' => e = .returned (.bool r) ∧ Below w.heap.size w w' := by
  have HC := Lib.hid (index_any a c n cs w hs hn hn2)
  have HR := Lib.hid hr
  clear hs hn hr
  go_enter Try.func64, Try.ntmps64
  go_wp2_with fail
  refine HC.out.mono ?_
  rintro e w1 ⟨z, rfl, hb1, hz⟩
  rw [HR.out] at hz
  go_wp2
  go_ret
  exact ⟨rfl, hb1⟩
theorem size_any (n : Int) (r : Bool) (w : World) (hr : decide (1 ≤ n ∧ n ≤ 400) = r) :
    Calls Try.prog 63 #[.int .i64 n] w fun e w' => e = .returned (.bool r) ∧ w = w' := by
  subst hr
  by_cases h1 : 1 ≤ n
  · by_cases h2 : n ≤ 400
    · rw [decide_eq_true (by omega)]
      have e4 : decide (n ≤ 400) = true := by simpa using h2
      go_enter Try.func63, Try.ntmps63
      go_wp2
      go_ret
      exact ⟨rfl, rfl⟩
    · rw [decide_eq_false (by omega)]
      have e4 : decide (n ≤ 400) = false := by simpa using h2
      go_enter Try.func63, Try.ntmps63
      go_wp2
      go_ret
      exact ⟨rfl, rfl⟩
  · rw [decide_eq_false (by omega)]
    go_enter Try.func63, Try.ntmps63
    go_wp2
    go_ret
    exact ⟨rfl, rfl⟩
/-- A tape by value. -/
abbrev medV (cap : Int) (a : Option Addr) (n c : Nat) : Value := .agg #[.int .i64 cap, .slice a n c]
def medOf (cap : Int) (cs : List CellV) : Med := ⟨cap, pls cs⟩
set_option maxHeartbeats 1000000 in
theorem check_any (cap : Int) (a : Option Addr) (c n : Nat) (cs : List CellV) (r : Bool) (w : World) (hs : CMat w a cs) (hn : n = cs.length) (hn2 : n ≤ 9223372036854775807) (hr : (medOf cap cs).ok = r) :
    Calls Try.prog 40 #[.agg #[.int .i64 cap, .slice a n c]] w fun e w' => e = .returned (.int .i64 (if r then 0 else 1)) ∧ Below w.heap.size w w' := by
  have HR : Hid ((decide (1 ≤ cap ∧ cap ≤ 400 ∧ (n : Int) ≤ cap) && !badC cs) = r) := Lib.hid (by
    rw [← hr, Med.ok, badC_pls, Bool.not_not]
    show (decide (1 ≤ cap ∧ cap ≤ 400 ∧ (n : Int) ≤ cap) && (pls cs).all CellP.right) = (decide (1 ≤ cap ∧ cap ≤ 400 ∧ ((pls cs).length : Int) ≤ cap) && (pls cs).all CellP.right)
    rw [pls_length, hn])
  have Hs := Lib.hid hs
  have Hn := Lib.hid hn
  have hb := ext_alloc w (.cells #[.int .i64 cap, .slice a n c] 45)
  have hz := heap_alloc_new w (.cells #[.int .i64 cap, .slice a n c] 45)
  clear hr hs hn
  by_cases h1 : 1 ≤ cap ∧ cap ≤ 400
  · by_cases h2 : (n : Int) ≤ cap
    · have HR2 := Lib.hid (show (!badC cs) = r by rw [← HR.out, decide_eq_true ⟨h1.1, h1.2, h2⟩, Bool.true_and])
      have g2 : decide (cap < (n : Int)) = false := by simp; omega
      go_enter Try.func40, Try.ntmps40
      go_wp2_with fail
      refine (size_any cap true _ (decide_eq_true h1)).mono ?_
      rintro e w1 ⟨rfl, rfl⟩
      go_wp2_with fail
      refine (contains_any a c n cs (badC cs) _ (Hs.out.ext hb) Hn.out hn2 rfl).mono ?_
      rintro e w1 ⟨rfl, hb1⟩
      cases hbd : badC cs with
      | true =>
        have hr : r = false := by rw [← HR2.out, hbd]; rfl
        subst hr
        clear hbd
        go_wp2
        go_ret
        exact ⟨rfl, bthen hb hb1 (Nat.le_refl _)⟩
      | false =>
        have hr : r = true := by rw [← HR2.out, hbd]; rfl
        subst hr
        clear hbd
        go_wp2
        go_ret
        exact ⟨rfl, bthen hb hb1 (Nat.le_refl _)⟩
    · have hr : r = false := by rw [← HR.out, decide_eq_false (by omega), Bool.false_and]
      subst hr
      have g2 : decide (cap < (n : Int)) = true := by simp; omega
      go_enter Try.func40, Try.ntmps40
      go_wp2_with fail
      refine (size_any cap true _ (decide_eq_true h1)).mono ?_
      rintro e w1 ⟨rfl, rfl⟩
      go_wp2
      go_ret
      exact ⟨rfl, hb⟩
  · have hr : r = false := by rw [← HR.out, decide_eq_false (by omega), Bool.false_and]
    subst hr
    go_enter Try.func40, Try.ntmps40
    go_wp2_with fail
    refine (size_any cap false _ (decide_eq_false h1)).mono ?_
    rintro e w1 ⟨rfl, rfl⟩
    go_wp2
    go_ret
    exact ⟨rfl, hb⟩
end Go.Proofs.Ytmaagkdehdmhlaa

/- medium.Look, Read, Files, Behind, File, New. -/
namespace Go.Proofs.Ytmaagkdehdmhlaa
open Go.RowKit

/-- In block g stands a cell. -/
def CellAt (w : World) (g : Nat) (x : CellV) : Prop := w.heap[g]? = some (.cells #[.int .i64 x.kind, .slice x.d.a x.d.l.length x.d.c, .bool x.bad] 42)
theorem CellAt.cells {w : World} {g : Nat} {x : CellV} (h : CellAt w g x) : w.cell? ⟨g, 0, none⟩ = some (.int .i64 x.kind) ∧ w.cell? ⟨g, 1, none⟩ = some (.slice x.d.a x.d.l.length x.d.c) ∧ w.cell? ⟨g, 2, none⟩ = some (.bool x.bad) :=
  ⟨cell_of_row w g 0 _ _ _ h, cell_of_row w g 1 _ _ _ h, cell_of_row w g 2 _ _ _ h⟩
theorem CellAt.put (w : World) (z : Array Value) (g : Nat) (hg : g = w.heap.size) (x : CellV) : CellAt ((w.alloc (.cells z 42)).setRow g #[.int .i64 x.kind, .slice x.d.a x.d.l.length x.d.c, .bool x.bad]) g x := by
  subst hg; exact setRow_heap _ _ _ _ _ _ (heap_alloc_new w _)
theorem below_putc (w : World) (z : Array Value) (g : Nat) (hg : g = w.heap.size) (x : CellV) : Below w.heap.size w ((w.alloc (.cells z 42)).setRow g #[.int .i64 x.kind, .slice x.d.a x.d.l.length x.d.c, .bool x.bad]) := by
  subst hg; exact bsetRow (ext_alloc w _) (Nat.le_refl _) _

theorem look_in {m : Med} {k : Nat} {c : CellP} (h : m.cells[k]? = some c) : m.look (k : Int) = if c.kind = 2 then ([], 15) else if c.kind = 3 ∨ c.bad = true then ([], 6) else (c.data, 0) := by
  have hk := (List.getElem?_eq_some_iff.1 h).1
  unfold Med.look
  rw [if_neg (by omega), Int.toNat_natCast, h]

set_option maxRecDepth 100000 in
set_option maxHeartbeats 2000000 in
theorem look_any (cap : Int) (a : Option Addr) (c n : Nat) (cs : List CellV) (p : Int) (l : List Byte) (E : Int) (w : World) (hs : CMat w a cs) (hn : n = cs.length) (hn2 : n ≤ 9223372036854775807) (hx : ∀ x ∈ cs, x.d.l.length ≤ 140737488355328) (hr : (medOf cap cs).look p = (l, E)) :
    Calls Try.prog 72 #[.agg #[.int .i64 cap, .slice a n c], .int .i64 p] w fun e w' => ∃ a' c' k, e = .returned (.tuple #[.slice a' k c', .int .i64 E]) ∧ k = l.length ∧ Own w' w.heap.size 5 1 a' k c' (bvs l) ∧ Below w.heap.size w w' := by
  have Hs := Lib.hid hs
  have Hn := Lib.hid hn
  have HR := Lib.hid hr
  have Hx := Lib.hid hx
  have hb := ext_alloc w (.cells #[.int .i64 cap, .slice a n c] 45)
  clear hr hs hn hx
  by_cases hin : 0 ≤ p ∧ p < (n : Int)
  · obtain ⟨k, rfl⟩ := Int.eq_ofNat_of_zero_le hin.1
    have hkn : k < n := by omega
    have hkn2 : ¬ n ≤ k := by omega
    have hk0 : ¬ ((k : Int) < 0) := by omega
    have hkl : k < cs.length := by have := Hn.out; omega
    obtain ⟨b, o, rfl, hlb, hat⟩ := Hs.out.src.elem CellV.len (by decide) hkl
    have q0 := hat k hkl 0 _ rfl
    have q1 := hat k hkl 1 _ rfl
    have q2 := hat k hkl 2 _ rfl
    have hrow := Hs.out.row _ (List.getElem_mem hkl)
    have hxl := Hx.out _ (List.getElem_mem hkl)
    have hlk := look_in (m := medOf cap cs) (k := k) (c := cs[k].pl) (by simp [medOf, pls, hkl])
    generalize cs[k] = x at *
    obtain ⟨kd, ⟨xa, xc, xl⟩, bd⟩ := x
    dsimp only [CellV.pl] at *
    have HL := Lib.hid (hlk.symm.trans HR.out)
    have c0 := (World.cell?_of_block (w := w) (a := ⟨b, o + k * 3, none⟩) (hb.block b hlb)).trans q0
    have c1 := (World.cell?_of_block (w := w) (a := ⟨b, o + k * 3 + 1, none⟩) (hb.block b hlb)).trans q1
    have c2 := (World.cell?_of_block (w := w) (a := ⟨b, o + k * 3 + 2, none⟩) (hb.block b hlb)).trans q2
    have hput := CellAt.put (w.alloc (.cells #[.int .i64 cap, .slice (some ⟨b, o, none⟩) n c] 45)) #[.int .i64 0, .slice none 0 0, .bool false] (w.heap.size + 1) (World.size_alloc _ _).symm ⟨kd, ⟨xa, xc, xl⟩, bd⟩
    have hbp := below_putc (w.alloc (.cells #[.int .i64 cap, .slice (some ⟨b, o, none⟩) n c] 45)) #[.int .i64 0, .slice none 0 0, .bool false] (w.heap.size + 1) (World.size_alloc _ _).symm ⟨kd, ⟨xa, xc, xl⟩, bd⟩
    have hgn := heap_alloc_new (w.alloc (.cells #[.int .i64 cap, .slice (some ⟨b, o, none⟩) n c] 45)) (.cells #[.int .i64 0, .slice none 0 0, .bool false] 42)
    rw [World.size_alloc] at hgn
    have hbA := bthen hb hbp (Nat.le_refl _)
    have Hrow := Lib.hid (hrow.1.ext hbA)
    obtain ⟨m0, m1, m2⟩ := hput.cells
    dsimp only at hput hbp m0 m1 m2 hbA Hrow
    clear hat q0 q1 q2 hrow hlk HR
    by_cases h2 : kd = 2
    · subst h2
      have hl : l = [] ∧ E = 15 := by have := HL.out; simp at this; exact ⟨by first | exact this.1 | exact this.1.symm, this.2.symm⟩
      obtain ⟨rfl, rfl⟩ := hl
      go_enter Try.func72, Try.ntmps72
      go_wp2_with (refine wpList_store_row rfl rfl 42 (.tmp 6) (.tmp 20) rfl (w.heap.size + 1) rfl 42 #[.int .i64 0, .slice none 0 0, .bool false] #[.int .i64 2, .slice xa xl.length xc, .bool bd] rfl hgn rfl (by kernel_rfl) (CellV.one ⟨2, ⟨xa, xc, xl⟩, bd⟩) ?_)
      go_ret2
      exact ⟨none, 0, 0, rfl, rfl, Own.nil _ _ _ _ _, hbA⟩
    · have e2 : (kd == 2) = false := by simpa using h2
      by_cases h3 : kd = 3
      · subst h3
        have hl : l = [] ∧ E = 6 := by have := HL.out; simp at this; exact ⟨by first | exact this.1 | exact this.1.symm, this.2.symm⟩
        obtain ⟨rfl, rfl⟩ := hl
        clear h2 e2
        go_enter Try.func72, Try.ntmps72
        go_wp2_with (refine wpList_store_row rfl rfl 42 (.tmp 6) (.tmp 20) rfl (w.heap.size + 1) rfl 42 #[.int .i64 0, .slice none 0 0, .bool false] #[.int .i64 3, .slice xa xl.length xc, .bool bd] rfl hgn rfl (by kernel_rfl) (CellV.one ⟨3, ⟨xa, xc, xl⟩, bd⟩) ?_)
        go_ret2
        exact ⟨none, 0, 0, rfl, rfl, Own.nil _ _ _ _ _, hbA⟩
      · have e3 : (kd == 3) = false := by simpa using h3
        cases bd with
        | true =>
          have hl : l = [] ∧ E = 6 := by have := HL.out; simp [h2] at this; exact ⟨by first | exact this.1 | exact this.1.symm, this.2.symm⟩
          obtain ⟨rfl, rfl⟩ := hl
          clear h2 h3
          go_enter Try.func72, Try.ntmps72
          go_wp2_with (refine wpList_store_row rfl rfl 42 (.tmp 6) (.tmp 20) rfl (w.heap.size + 1) rfl 42 #[.int .i64 0, .slice none 0 0, .bool false] #[.int .i64 kd, .slice xa xl.length xc, .bool true] rfl hgn rfl (by kernel_rfl) (CellV.one ⟨kd, ⟨xa, xc, xl⟩, true⟩) ?_)
          go_ret2
          exact ⟨none, 0, 0, rfl, rfl, Own.nil _ _ _ _ _, hbA⟩
        | false =>
          have hl : l = xl ∧ E = 0 := by
            have := HL.out
            simp [h2, h3] at this; exact ⟨this.1.symm, this.2.symm⟩
          obtain ⟨rfl, rfl⟩ := hl
          clear h2 h3
          go_enter Try.func72, Try.ntmps72
          go_wp2_with (refine wpList_store_row rfl rfl 42 (.tmp 6) (.tmp 20) rfl (w.heap.size + 1) rfl 42 #[.int .i64 0, .slice none 0 0, .bool false] #[.int .i64 kd, .slice xa l.length xc, .bool false] rfl hgn rfl (by kernel_rfl) (CellV.one ⟨kd, ⟨xa, xc, l⟩, false⟩) ?_)
          refine (clone_at xa xc l.length l _ Hrow.out rfl hxl).mono ?_
          rintro e w3 ⟨a3, c3, rfl, ho3, hb3⟩
          have ho3' := ho3.mono (base' := w.heap.size) hbA.size
          have hb03 := bthen hbA hb3 (Nat.le_refl _)
          clear ho3 hb3 m0 m1 m2 c0 c1 c2 hput hbp hgn
          go_wp2
          go_ret2
          exact ⟨_, _, _, rfl, rfl, ho3', hb03⟩
  · have hl : l = [] ∧ E = 8 := by
      have h1 := HR.out
      unfold Med.look at h1
      rw [if_pos (by rw [show (medOf cap cs).cells.length = n by rw [Hn.out]; exact pls_length cs]; omega)] at h1
      simp at h1; exact ⟨h1.1, h1.2.symm⟩
    obtain ⟨rfl, rfl⟩ := hl
    by_cases h0 : p < 0
    · clear hin
      go_enter Try.func72, Try.ntmps72
      go_wp2
      go_ret2
      exact ⟨none, 0, 0, rfl, rfl, Own.nil _ _ _ _ _, hb⟩
    · have h1 : (n : Int) ≤ p := by omega
      clear hin
      go_enter Try.func72, Try.ntmps72
      go_wp2
      go_ret2
      exact ⟨none, 0, 0, rfl, rfl, Own.nil _ _ _ _ _, hb⟩
end Go.Proofs.Ytmaagkdehdmhlaa
