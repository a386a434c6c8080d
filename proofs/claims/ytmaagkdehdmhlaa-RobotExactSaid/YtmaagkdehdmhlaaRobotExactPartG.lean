/- Several texts of this claim, one behind the other: MedPos, MedLaw. -/
import Derived.Test.YtmaagkdehdmhlaaRobotExactPartA
import Derived.Test.YtmaagkdehdmhlaaRobotExactPartF
/- Where files begin, plain. -/
namespace Go.Proofs.Ytmaagkdehdmhlaa

theorem marks_cons (c : CellP) (cs : List CellP) : marks (c :: cs) = marks cs + (if c.kind = 2 then 1 else 0) := by
  unfold marks
  rw [List.countP_cons]
  simp
theorem behind_cons (c : CellP) (cs : List CellP) (i : Nat) (n : Int) : behind (c :: cs) i n = if c.kind = 2 then (if n - 1 = 0 then ((i : Int) + 1, 0) else behind cs (i + 1) (n - 1)) else behind cs (i + 1) n := rfl
theorem behind_some : ∀ (cs : List CellP) (off n : Nat), 1 ≤ n → n ≤ marks cs → ∃ (q : Nat) (h : q < cs.length), behind cs off (n : Int) = (((off + q + 1 : Nat) : Int), (0 : Int)) ∧ cs[q].kind = 2 ∧ marks (cs.take q) = n - 1
  | [], off, n, h1, h2 => by simp [marks] at h2; omega
  | c :: cs, off, n, h1, h2 => by
    rw [marks_cons] at h2
    by_cases hk : c.kind = 2
    · rw [if_pos hk] at h2
      by_cases hn : n = 1
      · subst hn
        refine ⟨0, by simp, ?_, hk, by simp [marks]⟩
        rw [behind_cons, if_pos hk, if_pos (by omega)]
        simp
      · obtain ⟨q, hq, e1, e2, e3⟩ := behind_some cs (off + 1) (n - 1) (by omega) (by omega)
        refine ⟨q + 1, by simp; omega, ?_, by simpa using e2, ?_⟩
        · rw [behind_cons, if_pos hk, if_neg (by omega), show (n : Int) - 1 = ((n - 1 : Nat) : Int) by omega, e1, show off + 1 + q + 1 = off + (q + 1) + 1 by omega]
        · rw [List.take_succ_cons, marks_cons, if_pos hk, e3]; omega
    · rw [if_neg hk] at h2
      obtain ⟨q, hq, e1, e2, e3⟩ := behind_some cs (off + 1) n h1 (by omega)
      refine ⟨q + 1, by simp; omega, ?_, by simpa using e2, ?_⟩
      · rw [behind_cons, if_neg hk, e1, show off + 1 + q + 1 = off + (q + 1) + 1 by omega]
      · rw [List.take_succ_cons, marks_cons, if_neg hk, e3]; omega
theorem behind_none : ∀ (cs : List CellP) (off n : Nat), marks cs < n → behind cs off (n : Int) = (0, 8)
  | [], _, _, _ => rfl
  | c :: cs, off, n, h => by
    rw [marks_cons] at h
    rw [behind_cons]
    by_cases hk : c.kind = 2
    · rw [if_pos hk] at h ⊢
      rw [if_neg (by omega), show (n : Int) - 1 = ((n - 1 : Nat) : Int) by omega, behind_none cs (off + 1) (n - 1) (by omega)]
    · rw [if_neg hk] at h ⊢
      rw [behind_none cs (off + 1) n (by omega)]
theorem marks_append (a b : List CellP) : marks (a ++ b) = marks a + marks b := by unfold marks; rw [List.countP_append]
theorem marks_mono (cs : List CellP) {i j : Nat} (h : i ≤ j) : marks (cs.take i) ≤ marks (cs.take j) := by
  have : cs.take j = cs.take i ++ (cs.drop i).take (j - i) := by
    rw [← List.take_append_drop i (cs.take j), List.take_take, Nat.min_eq_left h, List.drop_take]
  rw [this, marks_append]; omega
theorem marks_succ (cs : List CellP) (q : Nat) (h : q < cs.length) : marks (cs.take (q + 1)) = marks (cs.take q) + (if cs[q].kind = 2 then 1 else 0) := by
  rw [take_succ_list cs q h, marks_append]
  congr 1
  rw [show ([cs[q]] : List CellP) = cs[q] :: [] from rfl, marks_cons]
  simp [marks]
theorem read_mark {m : Med} (hok : m.ok = true) {k : Nat} (h : k < m.cells.length) : (m.read k).2 = 15 ↔ m.cells[k].kind = 2 := by
  have hne : ¬ m.ok = false := by rw [hok]; decide
  unfold Med.read
  rw [if_neg hne]
  unfold Med.look
  rw [if_neg (by omega), Int.toNat_natCast, List.getElem?_eq_getElem h]
  simp only
  by_cases hk : m.cells[k].kind = 2
  · rw [if_pos hk]; simp [hk]
  · rw [if_neg hk]
    split <;> simp [hk]

/-- The places of files. -/
structure Places (m : Med) (P : Nat → Nat) : Prop where
  zero : P 0 = 0
  file : ∀ i, i ≤ marks m.cells → m.file i = ((P i : Int), 0)
  le : ∀ i, i ≤ marks m.cells → P i ≤ m.cells.length
  lt : ∀ i, i + 1 ≤ marks m.cells → P i < P (i + 1)
  mark : ∀ i, i + 1 ≤ marks m.cells → (m.read ((P (i + 1) : Int) - 1)).2 = 15
  none : ∀ i k, i + 1 ≤ marks m.cells → P i ≤ k → k + 1 < P (i + 1) → (m.read (k : Int)).2 ≠ 15
  over : m.file ((marks m.cells : Int) + 1) = (0, 8)
theorem places (m : Med) (hok : m.ok = true) : ∃ P, Places m P := by
  have hne : ¬ m.ok = false := by rw [hok]; decide
  have hex : ∀ i, ∃ q : Nat, (i = 0 ∧ q = 0) ∨ (1 ≤ i ∧ i ≤ marks m.cells ∧ ∃ (h : q - 1 < m.cells.length), 1 ≤ q ∧ behind m.cells 0 (i : Int) = (((q : Nat) : Int), (0 : Int)) ∧ m.cells[q - 1].kind = 2 ∧ marks (m.cells.take (q - 1)) = i - 1) ∨ marks m.cells < i := by
    intro i
    by_cases h0 : i = 0
    · exact ⟨0, .inl ⟨h0, rfl⟩⟩
    · by_cases h1 : i ≤ marks m.cells
      · obtain ⟨q, hq, e1, e2, e3⟩ := behind_some m.cells 0 i (by omega) h1
        refine ⟨q + 1, .inr (.inl ⟨by omega, h1, by simpa using hq, by omega, ?_, by simpa using e2, by simpa using e3⟩)⟩
        rw [e1]; simp
      · exact ⟨0, .inr (.inr (by omega))⟩
  obtain ⟨P, hP⟩ := Classical.axiomOfChoice hex
  have h0 : P 0 = 0 := by rcases hP 0 with ⟨_, h⟩ | ⟨h, _⟩ | h; exact h; omega; omega
  have hpos : ∀ i, 1 ≤ i → i ≤ marks m.cells → ∃ (h : P i - 1 < m.cells.length), 1 ≤ P i ∧ behind m.cells 0 (i : Int) = (((P i : Nat) : Int), (0 : Int)) ∧ m.cells[P i - 1].kind = 2 ∧ marks (m.cells.take (P i - 1)) = i - 1 := by
    intro i h1 h2
    rcases hP i with ⟨h, _⟩ | ⟨_, _, h⟩ | h
    · omega
    · exact h
    · omega
  have hmk : ∀ i, i ≤ marks m.cells → marks (m.cells.take (P i)) = i := by
    intro i hi
    by_cases h1 : i = 0
    · subst h1; rw [h0]; simp [marks]
    · obtain ⟨hl, hp1, _, hk, hm⟩ := hpos i (by omega) hi
      have := marks_succ m.cells (P i - 1) hl
      rw [if_pos hk, hm, show P i - 1 + 1 = P i by omega] at this
      omega
  have hlt : ∀ i, i + 1 ≤ marks m.cells → P i < P (i + 1) := by
    intro i hi
    obtain ⟨hl, hp1, _, hk, hm⟩ := hpos (i + 1) (by omega) hi
    have h1 := hmk i (by omega)
    refine Classical.byContradiction fun hn => ?_
    have := marks_mono m.cells (show P (i + 1) ≤ P i by omega)
    rw [hmk (i + 1) hi, h1] at this
    omega
  refine ⟨P, h0, fun i hi => ?_, fun i hi => ?_, hlt, fun i hi => ?_, fun i k hi hk1 hk2 => ?_, ?_⟩
  · unfold Med.file
    rw [if_neg hne]
    unfold Med.behind
    by_cases h1 : i = 0
    · subst h1; rw [h0]; rfl
    · rw [if_neg (by omega)]
      obtain ⟨_, _, e, _⟩ := hpos i (by omega) hi
      exact e
  · by_cases h1 : i = 0
    · subst h1; rw [h0]; omega
    · obtain ⟨hl, hp1, _⟩ := hpos i (by omega) hi
      omega
  · obtain ⟨hl, hp1, _, hk, _⟩ := hpos (i + 1) (by omega) hi
    have := (read_mark hok hl).2 hk
    rw [show ((P (i + 1) : Nat) : Int) - 1 = ((P (i + 1) - 1 : Nat) : Int) by omega]
    exact this
  · obtain ⟨hl, hp1, _, hk, hm⟩ := hpos (i + 1) (by omega) hi
    have hkl : k < m.cells.length := by omega
    intro h15
    have hk2' := (read_mark hok hkl).1 h15
    have h1 := marks_succ m.cells k hkl
    rw [if_pos hk2'] at h1
    have h2 := marks_mono m.cells hk1
    have h3 := marks_mono m.cells (show k + 1 ≤ P (i + 1) - 1 by omega)
    rw [hmk i (by omega)] at h2
    omega
  · unfold Med.file
    rw [if_neg hne]
    unfold Med.behind
    rw [if_neg (by omega), show ((marks m.cells : Nat) : Int) + 1 = ((marks m.cells + 1 : Nat) : Int) by omega]
    exact behind_none _ _ _ (by omega)
end Go.Proofs.Ytmaagkdehdmhlaa

/- cellarerlaw07.Heavy, cellarerref07.Medium. -/
namespace Go.Proofs.Ytmaagkdehdmhlaa
open Go.RowKit

theorem badC_mono (cs : List CellV) (k : Nat) (h : badC (cs.take k) = true) : badC cs = true := by
  rw [badC, List.any_eq_true] at h ⊢
  obtain ⟨x, hx, h⟩ := h
  exact ⟨x, List.mem_of_mem_take hx, h⟩
/-- A tape that the law plays. -/
def LightM (cs : List CellV) : Prop := cs.length ≤ 80 ∧ ∀ x ∈ cs, x.d.l.length ≤ 300

set_option maxRecDepth 100000 in
set_option maxHeartbeats 4000000 in
theorem refmed_any (cap : Int) (a : Option Addr) (c n : Nat) (cs : List CellV) (r : Bool) (w : World) (hs : CMat w a cs) (hn : n = cs.length) (hn2 : n ≤ 9223372036854775807) (hr : (medOf cap cs).ok = r) :
    Calls Try.prog 44 #[.agg #[.int .i64 cap, .slice a n c]] w fun e w' => e = .returned (.bool r) ∧ Below w.heap.size w w' := by
  have HR : Hid ((decide (1 ≤ cap ∧ cap ≤ 400 ∧ (n : Int) ≤ cap) && !badC cs) = r) := Lib.hid (by
    rw [← hr, Med.ok, badC_pls, Bool.not_not]
    show (decide (1 ≤ cap ∧ cap ≤ 400 ∧ (n : Int) ≤ cap) && (pls cs).all CellP.right) = (decide (1 ≤ cap ∧ cap ≤ 400 ∧ ((pls cs).length : Int) ≤ cap) && (pls cs).all CellP.right)
    rw [pls_length, hn])
  have Hs := Lib.hid hs
  have Hn := Lib.hid hn
  have hb := ext_alloc w (.cells #[.int .i64 cap, .slice a n c] 45)
  have hz := heap_alloc_new w (.cells #[.int .i64 cap, .slice a n c] 45)
  have hzl := heap_lt hz
  clear hr hs hn
  by_cases h1 : 1 ≤ cap
  · by_cases h4 : cap ≤ 400
    · by_cases h2 : (n : Int) ≤ cap
      · have HR2 := Lib.hid (show (!badC cs) = r by rw [← HR.out, decide_eq_true ⟨h1, h4, h2⟩, Bool.true_and])
        have g1 : ¬ cap < 1 := by omega
        have g4 : ¬ 400 < cap := by omega
        have g2 : ¬ cap < (n : Int) := by omega
        clear h1 h4 h2
        go_enter Try.func44, Try.ntmps44
        go_wp2_with fail
        go_loop [3] (fun i => ∃ (k : Nat), k ≤ n ∧ i = .int .i64 (k : Int) ∧ badC (cs.take k) = false) (fun i => n - (intOf i).toNat)
        case atStart => exact ⟨0, by omega, rfl, rfl⟩
        case round =>
          obtain ⟨k, hk, rfl, hbad⟩ := hrel
          have Hbad := Lib.hid hbad
          clear hbad
          have hbr := hb
          by_cases hlt : k < n
          · have hkl : k < cs.length := by have := Hn.out; omega
            have hc := List.getElem_mem hkl
            obtain ⟨b, o, rfl, hlb, hat⟩ := Hs.out.src.elem CellV.len (by decide) hkl
            have q0 := hat k hkl 0 _ rfl
            have q1 := hat k hkl 1 _ rfl
            have Htk := Lib.hid (badC_take cs k hkl)
            have hxl := (Hs.out.row _ hc).2
            have Hmem := Lib.hid hc
            generalize cs[k] = x at *
            obtain ⟨kd, ⟨xa, xc, xl⟩, bd⟩ := x
            dsimp only at *
            have c0 := (World.cell?_of_block (w := w) (a := ⟨b, o + k * 3, none⟩) (hbr.block b hlb)).trans q0
            have c1 := (World.cell?_of_block (w := w) (a := ⟨b, o + k * 3 + 1, none⟩) (hbr.block b hlb)).trans q1
            generalize xl.length = L at *
            clear hat q0 q1 hc
            clear hbr
            cases hrc : rightC kd L with
            | true =>
              have Htk2 := Lib.hid (show badC (cs.take (k + 1)) = false by rw [Htk.out, Hbad.out, hrc]; rfl)
              have h3 : kd = 1 ∧ 1 ≤ L ∧ L ≤ 256 ∨ kd = 2 ∧ L = 0 ∨ kd = 3 ∧ L ≤ 256 := by unfold rightC at hrc; rwa [decide_eq_true_eq] at hrc
              clear hrc
              rcases h3 with ⟨rfl, h5, h6⟩ | ⟨rfl, rfl⟩ | ⟨rfl, h6⟩
              · have f1 : ¬ L < 1 := by omega
                have f2 : ¬ 256 < L := by omega
                go_wp2_with fail
                go_round
                case rel => exact ⟨k + 1, by omega, by go_num, Htk2.out⟩
                case measure => simp [intOf]; omega
              · go_wp2_with fail
                go_round
                case rel => exact ⟨k + 1, by omega, by go_num, Htk2.out⟩
                case measure => simp [intOf]; omega
              · have f2 : ¬ 256 < L := by omega
                go_wp2_with fail
                go_round
                case rel => exact ⟨k + 1, by omega, by go_num, Htk2.out⟩
                case measure => simp [intOf]; omega
            | false =>
              have hbc : badC cs = true := by
                exact badC_mono cs (k + 1) (by rw [Htk.out, hrc]; simp)
              have hr : r = false := by rw [← HR2.out, hbc]; rfl
              subst hr
              have h3 : ¬ (kd = 1 ∧ 1 ≤ L ∧ L ≤ 256 ∨ kd = 2 ∧ L = 0 ∨ kd = 3 ∧ L ≤ 256) := by unfold rightC at hrc; rwa [decide_eq_false_iff_not] at hrc
              clear hrc hbc
              by_cases k1 : kd = 1
              · subst k1
                by_cases l0 : L = 0
                · subst l0
                  clear h3
                  go_wp2
                  go_ret
                  exact ⟨rfl, hb⟩
                · have f2 : 256 < L := by omega
                  clear h3
                  go_wp2
                  go_ret
                  exact ⟨rfl, hb⟩
              · by_cases k2 : kd = 2
                · subst k2
                  by_cases l2 : L ≤ 256
                  · have f2 : ¬ 256 < L := by omega
                    have f0 : 0 < L := by omega
                    clear h3
                    go_wp2
                    go_ret
                    exact ⟨rfl, hb⟩
                  · have f2 : 256 < L := by omega
                    clear h3
                    go_wp2
                    go_ret
                    exact ⟨rfl, hb⟩
                · by_cases k3 : kd = 3
                  · subst k3
                    have f2 : 256 < L := by omega
                    clear h3
                    go_wp2
                    go_ret
                    exact ⟨rfl, hb⟩
                  · have f1 : (kd != 1) = true := by simpa using k1
                    have f2 : (kd != 2) = true := by simpa using k2
                    have f3 : (kd != 3) = true := by simpa using k3
                    clear k1 k2 k3 h3
                    go_wp2
                    go_ret
                    exact ⟨rfl, hb⟩
          · have hbc : badC cs = false := by
              have h1 := Hbad.out
              rw [List.take_of_length_le (by have := Hn.out; omega)] at h1
              exact h1
            have hr : r = true := by rw [← HR2.out, hbc]; rfl
            subst hr
            clear hbc
            go_wp2
            go_ret
            exact ⟨rfl, hb⟩
      · have hr : r = false := by rw [← HR.out, decide_eq_false (by omega), Bool.false_and]
        subst hr
        have g1 : ¬ cap < 1 := by omega
        have g4 : ¬ 400 < cap := by omega
        have g2 : cap < (n : Int) := by omega
        clear h1 h4 h2
        go_enter Try.func44, Try.ntmps44
        go_wp2
        go_ret
        exact ⟨rfl, hb⟩
    · have hr : r = false := by rw [← HR.out, decide_eq_false (by omega), Bool.false_and]
      subst hr
      have g1 : ¬ cap < 1 := by omega
      have g4 : 400 < cap := by omega
      clear h1 h4
      go_enter Try.func44, Try.ntmps44
      go_wp2
      go_ret
      exact ⟨rfl, hb⟩
  · have hr : r = false := by rw [← HR.out, decide_eq_false (by omega), Bool.false_and]
    subst hr
    have g1 : cap < 1 := by omega
    clear h1
    go_enter Try.func44, Try.ntmps44
    go_wp2
    go_ret
    exact ⟨rfl, hb⟩
end Go.Proofs.Ytmaagkdehdmhlaa
