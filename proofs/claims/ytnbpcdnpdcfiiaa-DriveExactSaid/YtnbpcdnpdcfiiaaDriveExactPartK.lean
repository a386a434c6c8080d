/- Several texts of this claim, one behind the other: TwoPlain, Act5, Acts12, SpoilIn. -/
import Derived.Test.YtnbpcdnpdcfiiaaDrvKeep
import Derived.Test.YtnbpcdnpdcfiiaaDriveExactPartB
import Derived.Test.YtnbpcdnpdcfiiaaDriveExactPartA
import Derived.Test.YtnbpcdnpdcfiiaaProg
import Derived.Outline
import Derived.Test.YtnbpcdnpdcfiiaaDriveExactPartI
/- What a drive's methods leave is a good tape and a place on it. -/
namespace Go.Proofs.Ytnbpcdnpdcfiiaa
open Go.RowKit

structure DGood (M : Med) (at_ : Int) : Prop where
  ok : M.ok = true
  pos : ∃ p : Nat, at_ = (p : Int) ∧ p ≤ M.cells.length
theorem DGood.len {M : Med} {at_ : Int} (h : DGood M at_) : M.cells.length ≤ 90000 := by have := (Med.ok_iff.1 h.ok).1; omega
theorem DGood.short {M : Med} {at_ : Int} (h : DGood M at_) : ∀ x ∈ M.cells, x.data.length ≤ 140737488355328 := fun x hx => by
  have := (Med.ok_iff.1 h.ok).2 x hx
  unfold CellP.right rightC at this
  rw [decide_eq_true_eq] at this
  omega
theorem DGood.at0 {M : Med} {at_ : Int} (h : DGood M at_) : 0 ≤ at_ ∧ at_ ≤ M.cap ∧ M.cap ≤ 400 := by
  have := (Med.ok_iff.1 h.ok).1
  obtain ⟨p, rfl, hp⟩ := h.pos
  omega
theorem spend_life (s : PS) : s.spend.2.life = s.life := by
  have hc : ∀ k t, (s.cut k t).life = s.life := fun k t => by unfold PS.cut; split <;> rfl
  unfold PS.spend
  repeat' split
  all_goals first | rfl | exact hc _ _
theorem wrong_iff {M : Med} {p : Nat} {n : Nat} {b : Bool} (hok : M.ok = true) (hp : p ≤ M.cells.length) (h : M.wrong (p : Int) n b = 0) : (p : Int) < M.cap ∧ (b = true → 1 ≤ n ∧ n ≤ 256) := by
  have hc := (Med.ok_iff.1 hok).1
  unfold Med.wrong at h
  split at h
  · exact absurd h (by decide)
  · split at h
    · exact absurd h (by decide)
    · split at h
      · exact absurd h (by decide)
      · refine ⟨by omega, fun hb => ?_⟩
        rename_i h2 _
        by_cases hn : n < 1 ∨ 256 < n
        · exact absurd ⟨hb, hn⟩ h2
        · omega
theorem lay_len {M : Med} {p : Nat} {x : CellP} (hp : p ≤ M.cells.length) : (M.lay p x).cells.length = p + 1 := by
  unfold Med.lay
  rw [List.length_append, List.length_take, Nat.min_eq_left hp]
  rfl
theorem right_torn (l : List Byte) (t : Nat) (h : l.length ≤ 256) : (CellP.mk 3 (l.take t) false).right = true := by
  unfold CellP.right rightC
  rw [decide_eq_true_eq]
  have : (l.take t).length ≤ l.length := by rw [List.length_take]; omega
  exact .inr (.inr ⟨rfl, by show (l.take t).length ≤ 256; omega⟩)
theorem dvWrite_good {s s' : PS} {M M' : Med} {p : Nat} {b : List Byte} {E at' : Int} (hok : M.ok = true) (hp : p ≤ M.cells.length) (h : dvWrite s M p b = (E, s', M', at')) : DGood M' at' ∧ M'.cap = M.cap ∧ s'.life = s.life := by
  unfold dvWrite at h
  split at h
  · obtain ⟨-, rfl, rfl, rfl⟩ : _ ∧ _ ∧ _ ∧ _ := by simpa using h
    exact ⟨⟨hok, p, rfl, hp⟩, rfl, rfl⟩
  · split at h
    · obtain ⟨-, rfl, rfl, rfl⟩ : _ ∧ _ ∧ _ ∧ _ := by simpa using h
      exact ⟨⟨hok, p, rfl, hp⟩, rfl, rfl⟩
    · rename_i hw
      obtain ⟨hc, hb⟩ := wrong_iff hok hp (Classical.not_not.1 hw)
      split at h
      · simp only [Prod.mk.injEq] at h
        obtain ⟨-, rfl, rfl, rfl⟩ := h
        exact ⟨⟨Med.lay_ok hok hp hc (right_blk (hb rfl)), p + 1, by simp, by rw [lay_len hp]; exact Nat.le_refl _⟩, rfl, spend_life s⟩
      · split at h
        · simp only [Prod.mk.injEq] at h
          obtain ⟨-, rfl, rfl, rfl⟩ := h
          exact ⟨⟨Med.lay_ok hok hp hc (right_torn _ _ (hb rfl).2), p, rfl, by rw [lay_len hp]; omega⟩, rfl, spend_life s⟩
        · simp only [Prod.mk.injEq] at h
          obtain ⟨-, rfl, rfl, rfl⟩ := h
          exact ⟨⟨hok, p, rfl, hp⟩, rfl, spend_life s⟩
theorem dvMark_good {s s' : PS} {M M' : Med} {p : Nat} {E at' : Int} (hok : M.ok = true) (hp : p ≤ M.cells.length) (h : dvMark s M p = (E, s', M', at')) : DGood M' at' ∧ M'.cap = M.cap ∧ s'.life = s.life := by
  unfold dvMark at h
  split at h
  · simp only [Prod.mk.injEq] at h
    obtain ⟨-, rfl, rfl, rfl⟩ := h
    exact ⟨⟨hok, p, rfl, hp⟩, rfl, rfl⟩
  · split at h
    · simp only [Prod.mk.injEq] at h
      obtain ⟨-, rfl, rfl, rfl⟩ := h
      exact ⟨⟨hok, p, rfl, hp⟩, rfl, rfl⟩
    · rename_i hw
      obtain ⟨hc, _⟩ := wrong_iff hok hp (Classical.not_not.1 hw)
      split at h
      · simp only [Prod.mk.injEq] at h
        obtain ⟨-, rfl, rfl, rfl⟩ := h
        exact ⟨⟨Med.lay_ok hok hp hc (by decide), p + 1, by simp, by rw [lay_len hp]; exact Nat.le_refl _⟩, rfl, spend_life s⟩
      · split at h
        · simp only [Prod.mk.injEq] at h
          obtain ⟨-, rfl, rfl, rfl⟩ := h
          exact ⟨⟨Med.lay_ok hok hp hc (by decide), p, rfl, by rw [lay_len hp]; omega⟩, rfl, spend_life s⟩
        · simp only [Prod.mk.injEq] at h
          obtain ⟨-, rfl, rfl, rfl⟩ := h
          exact ⟨⟨hok, p, rfl, hp⟩, rfl, spend_life s⟩
theorem take_good {M : Med} {p : Nat} (hok : M.ok = true) (hp : p ≤ M.cells.length) : DGood ⟨M.cap, M.cells.take p⟩ (p : Int) := by
  have h := Med.ok_iff.1 hok
  refine ⟨Med.ok_iff.2 ⟨⟨h.1.1, h.1.2.1, ?_⟩, fun x hx => h.2 x (List.mem_of_mem_take hx)⟩, p, rfl, by show p ≤ (M.cells.take p).length; rw [List.length_take]; omega⟩
  show ((M.cells.take p).length : Int) ≤ M.cap
  rw [List.length_take]
  omega
theorem dvEnd_good {s s' : PS} {M M' : Med} {p : Nat} {E : Int} (hok : M.ok = true) (hp : p ≤ M.cells.length) (h : dvEnd s M p = (E, s', M')) : DGood M' (p : Int) ∧ M'.cap = M.cap ∧ s'.life = s.life := by
  unfold dvEnd at h
  split at h
  · simp only [Prod.mk.injEq] at h
    obtain ⟨-, rfl, rfl⟩ := h
    exact ⟨⟨hok, p, rfl, hp⟩, rfl, rfl⟩
  · split at h
    · simp only [Prod.mk.injEq] at h
      obtain ⟨-, rfl, rfl⟩ := h
      exact ⟨take_good hok hp, rfl, spend_life s⟩
    · split at h
      · simp only [Prod.mk.injEq] at h
        obtain ⟨-, rfl, rfl⟩ := h
        exact ⟨take_good hok hp, rfl, spend_life s⟩
      · simp only [Prod.mk.injEq] at h
        obtain ⟨-, rfl, rfl⟩ := h
        exact ⟨⟨hok, p, rfl, hp⟩, rfl, spend_life s⟩
theorem locate_good {s : PS} {M : Med} {at_ n b E at' : Int} (hg : DGood M at_) (h : (if s.off then (5, at_) else M.locate n b at_) = (E, at')) : DGood M at' := by
  have hl : DGood M (M.locate n b at_).2 := by
    unfold Med.locate
    by_cases h1 : n < 0 ∨ b < 0
    · rw [if_pos h1]; exact hg
    · rw [if_neg h1]
      by_cases h2 : (M.behind n).2 ≠ 0 ∨ (M.cells.length : Int) - (M.behind n).1 < b
      · rw [if_pos h2]; exact hg
      · rw [if_neg h2]
        split
        · exact hg
        · refine ⟨hg.ok, ((M.behind n).1 + b).toNat, ?_, ?_⟩
          · show (M.behind n).1 + b = _
            rcases M.behind_bound n with h | h <;> omega
          · rcases M.behind_bound n with h | h <;> omega
  split at h
  · simp only [Prod.mk.injEq] at h
    rw [← h.2]; exact hg
  · rw [h] at hl; exact hl
theorem read_good {s : PS} {M : Med} {at_ E at' : Int} {l : List Byte} (hg : DGood M at_) (h : (if s.off then (([] : List Byte), (5 : Int), at_) else ((M.look at_).1, (M.look at_).2, if (M.look at_).2 = 8 then at_ else at_ + 1)) = (l, E, at')) : DGood M at' := by
  split at h
  · simp only [Prod.mk.injEq] at h
    rw [← h.2.2]; exact hg
  · simp only [Prod.mk.injEq] at h
    rw [← h.2.2]
    split
    · exact hg
    · rename_i h8
      obtain ⟨p, rfl, hp⟩ := hg.pos
      refine ⟨hg.ok, p + 1, by simp, ?_⟩
      by_cases he : p = M.cells.length
      · exfalso
        refine h8 ?_
        unfold Med.look
        rw [if_pos (by omega)]
      · omega
theorem read_len {s : PS} {M : Med} {at_ E at' : Int} {l : List Byte} (hg : DGood M at_) (h : (if s.off then (([] : List Byte), (5 : Int), at_) else ((M.look at_).1, (M.look at_).2, if (M.look at_).2 = 8 then at_ else at_ + 1)) = (l, E, at')) : l.length ≤ 256 := by
  split at h
  · simp only [Prod.mk.injEq] at h
    rw [← h.1]; decide
  · simp only [Prod.mk.injEq] at h
    rw [← h.1]
    unfold Med.look
    split
    · decide
    · split
      · decide
      · rename_i c hc
        split
        · decide
        · split
          · decide
          · have := (Med.ok_iff.1 hg.ok).2 c (List.mem_of_getElem? hc)
            unfold CellP.right rightC at this
            rw [decide_eq_true_eq] at this
            show c.data.length ≤ 256
            omega
end Go.Proofs.Ytnbpcdnpdcfiiaa

/- Acts of three numbers, bytes and a number (cellarerlaw12.Act, cellarerlaw13.Act), as they lie. -/
namespace Go.Proofs.Ytnbpcdnpdcfiiaa
open Go.RowKit
/-- An act, as it lies. -/
structure Act5 where
  what : Int
  n : Int
  m : Int
  b : Bsl
  torn : Int
def Act5.cells (x : Act5) : List Value := [.int .i64 x.what, .int .i64 x.n, .int .i64 x.m, .slice x.b.a x.b.l.length x.b.c, .int .i64 x.torn]
theorem Act5.len (x : Act5) : x.cells.length = 5 := rfl
def Act5.ok (w : World) (x : Act5) : Prop := x.b.ok w ∧ x.b.l.length ≤ x.b.c ∧ (Lit.int .i64 x.n).wf = true ∧ (Lit.int .i64 x.m).wf = true ∧ (Lit.int .i64 x.torn).wf = true
structure A5Mat (w : World) (a : Option Addr) (l : List Act5) : Prop where
  src : Src w a (flt Act5.cells l)
  ok : ∀ y ∈ l, y.ok w
end Go.Proofs.Ytnbpcdnpdcfiiaa

/- cellarerlaw12.Heavy. -/
namespace Go.Proofs.Ytnbpcdnpdcfiiaa
open Go.RowKit
/-- The acts that are played are no more than the law plays. -/
def Light12 (l : List Act5) : Prop := l.length ≤ 200 ∧ ∀ (i : Nat) (h : i < l.length), i < 50 → l[i].b.l.length ≤ 300

set_option maxRecDepth 100000 in
set_option maxHeartbeats 2000000 in
theorem heavy12 (a : Option Addr) (c n : Nat) (l : List Act5) (w : World) (hs : Src w a (flt Act5.cells l)) (hn : n = l.length) (hn2 : n ≤ 9223372036854775807) :
    Calls Try.prog 10 #[.slice a n c] w fun e w' => (e = .returned (.bool true) ∧ Below w.heap.size w w') ∨ (e = .returned (.bool false) ∧ Below w.heap.size w w' ∧ Light12 l) := by
  have Hs := Lib.hid hs
  have Hn := Lib.hid hn
  clear hs hn
  by_cases h200 : n ≤ 200
  · have h200' : ¬ 200 < n := by omega
    go_enter Try.func10, Try.ntmps10
    go_wp2_with fail
    go_loopw [3] (fun i wr => ∃ (k : Nat), k ≤ n ∧ i = .int .i64 (k : Int) ∧ Below w.heap.size w wr ∧ (∀ (j : Nat) (h : j < l.length), j < k → j < 50 → l[j].b.l.length ≤ 300)) (fun i _ => n - (intOf i).toNat)
    case atStart => exact ⟨0, by omega, rfl, Below.refl _ _, fun j _ h => by omega⟩
    case round =>
      rename_i wr
      obtain ⟨k, hk, rfl, hbr, hall⟩ := hrel
      have Hall := Lib.hid hall
      clear hall
      by_cases hlt : k < n
      · by_cases h50 : k < 50
        · have hkl : k < l.length := by have := Hn.out; omega
          obtain ⟨b, o, rfl, hlb, hat⟩ := Hs.out.elem Act5.len (by decide) hkl
          have q3 := hat k hkl 3 _ rfl
          obtain ⟨x, hx⟩ : ∃ x, x = l[k] := ⟨_, rfl⟩
          rw [← hx] at q3
          have Hx := Lib.hid hx
          have c3 := (World.cell?_of_block (w := w) (a := ⟨b, o + k * 5 + 3, none⟩) (hbr.block b hlb)).trans q3
          clear hat q3 hx
          by_cases h3 : x.b.l.length ≤ 300
          · have g3 : ¬ 300 < x.b.l.length := by omega
            go_wp2_with fail
            go_roundw
            case rel =>
              refine ⟨k + 1, by omega, by go_num, hbr, fun j hj hjk hj50 => ?_⟩
              by_cases hjk' : j = k
              · subst hjk'
                rw [← Hx.out]
                exact h3
              · exact Hall.out j hj (by omega) hj50
            case measure => simp [intOf]; omega
          · have g3 : 300 < x.b.l.length := by omega
            go_wp2
            go_ret
            exact .inl ⟨rfl, hbr⟩
        · go_wp2
          go_ret
          exact .inr ⟨rfl, hbr, ⟨by rw [← Hn.out]; exact h200, fun j hj hj50 => Hall.out j hj (by omega) hj50⟩⟩
      · go_wp2
        go_ret
        exact .inr ⟨rfl, hbr, ⟨by rw [← Hn.out]; exact h200, fun j hj hj50 => Hall.out j hj (by have := Hn.out; omega) hj50⟩⟩
  · have h200' : 200 < n := by omega
    go_enter Try.func10, Try.ntmps10
    go_wp2
    go_ret
    exact .inl ⟨rfl, Below.refl _ _⟩
end Go.Proofs.Ytnbpcdnpdcfiiaa

/- SpoilBytes of bytes of one's own, made between two worlds. -/
namespace Go.Proofs.Ytnbpcdnpdcfiiaa
open Go.RowKit

set_option maxHeartbeats 1000000 in
theorem spoilIn_nil (a : Option Addr) (c : Nat) (w : World) :
    Calls Try.prog 21 #[.slice a 0 c] w fun e w' => e = .returned (.tuple #[]) ∧ Below w.heap.size w w' := by
  go_enter Try.func21, Try.ntmps21
  go_wp2_with fail
  go_loopw [2] (fun i wr => i = .int .i64 0 ∧ Below w.heap.size w wr) (fun i _ => 0)
  case atStart => exact ⟨rfl, Below.refl _ _⟩
  case round =>
    rename_i wr
    obtain ⟨rfl, hb⟩ := hrel
    go_wp2
    go_end0
    exact ⟨rfl, hb⟩
/-- Bytes from B on, below N. -/
def BF (B N : Nat) : Nat → TypeId → Prop := fun b T => B ≤ b ∧ b < N ∧ T = 5
theorem spoil_in {B : Nat} {w2 w : World} {a : Option Addr} {c n : Nat} {l : List Byte} (ho2 : Own w2 B 5 1 a n c (bvs l)) (ho : Own w B 5 1 a n c (bvs l)) (hn : n = l.length) (hl : n ≤ 140737488355328) :
    Calls Try.prog 21 #[.slice a n c] w fun e w' => e = .returned (.tuple #[]) ∧ Mod (BF B w2.heap.size) w w' := by
  obtain ⟨hl2, ⟨rfl, rfl⟩ | ⟨g, cur, ha, hb, hh, _⟩⟩ := id ho2
  · exact (spoilIn_nil a 0 w).mono fun e w' ⟨he, hb⟩ => ⟨he, bmod hb _⟩
  · refine (spoil_mod B a c n l w ho hn hl).mono fun e w' ⟨he, hm, _⟩ => ⟨he, hm.mono fun b T _ hf => ?_⟩
    obtain ⟨h1, h2⟩ := hf
    rw [ha] at h1
    simp only [Option.some.injEq, Addr.mk.injEq, and_self, and_true] at h1
    subst h1
    exact ⟨hb, heap_lt hh, h2⟩
end Go.Proofs.Ytnbpcdnpdcfiiaa
