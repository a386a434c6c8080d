/- Several texts of this claim, one behind the other: TwoPlain, RobP. -/
import Derived.Test.YtmaagkdehdmhlaaRobotExactPartO
/- What a drive's methods leave is a good tape and a place on it. -/
namespace Go.Proofs.Ytmaagkdehdmhlaa
open Go.RowKit

structure DGood (M : Med) (at_ : Int) : Prop where
  ok : M.ok = true
  pos : ∃ p : Nat, at_ = (p : Int) ∧ p ≤ M.cells.length
theorem DGood.len {M : Med} {at_ : Int} (h : DGood M at_) : M.cells.length ≤ 90000 := by have := (Med.ok_iff.1 h.ok).1; omega
theorem DGood.short {M : Med} {at_ : Int} (h : DGood M at_) : ∀ x ∈ M.cells, x.data.length ≤ 140737488355328 := fun x hx => by
  have := (Med.ok_iff.1 h.ok).2 x hx
  unfold CellP.right rightC at this
  rw [decide_eq_true_eq] at this
  omega
theorem DGood.at0 {M : Med} {at_ : Int} (h : DGood M at_) : 0 ≤ at_ ∧ at_ ≤ M.cap ∧ M.cap ≤ 400 := by
  have := (Med.ok_iff.1 h.ok).1
  obtain ⟨p, rfl, hp⟩ := h.pos
  omega
theorem spend_life (s : PS) : s.spend.2.life = s.life := by
  have hc : ∀ k t, (s.cut k t).life = s.life := fun k t => by unfold PS.cut; split <;> rfl
  unfold PS.spend
  repeat' split
  all_goals first | rfl | exact hc _ _
theorem wrong_iff {M : Med} {p : Nat} {n : Nat} {b : Bool} (hok : M.ok = true) (hp : p ≤ M.cells.length) (h : M.wrong (p : Int) n b = 0) : (p : Int) < M.cap ∧ (b = true → 1 ≤ n ∧ n ≤ 256) := by
  have hc := (Med.ok_iff.1 hok).1
  unfold Med.wrong at h
  split at h
  · exact absurd h (by decide)
  · split at h
    · exact absurd h (by decide)
    · split at h
      · exact absurd h (by decide)
      · refine ⟨by omega, fun hb => ?_⟩
        rename_i h2 _
        by_cases hn : n < 1 ∨ 256 < n
        · exact absurd ⟨hb, hn⟩ h2
        · omega
theorem lay_len {M : Med} {p : Nat} {x : CellP} (hp : p ≤ M.cells.length) : (M.lay p x).cells.length = p + 1 := by
  unfold Med.lay
  rw [List.length_append, List.length_take, Nat.min_eq_left hp]
  rfl
theorem right_torn (l : List Byte) (t : Nat) (h : l.length ≤ 256) : (CellP.mk 3 (l.take t) false).right = true := by
  unfold CellP.right rightC
  rw [decide_eq_true_eq]
  have : (l.take t).length ≤ l.length := by rw [List.length_take]; omega
  exact .inr (.inr ⟨rfl, by show (l.take t).length ≤ 256; omega⟩)
theorem dvWrite_good {s s' : PS} {M M' : Med} {p : Nat} {b : List Byte} {E at' : Int} (hok : M.ok = true) (hp : p ≤ M.cells.length) (h : dvWrite s M p b = (E, s', M', at')) : DGood M' at' ∧ M'.cap = M.cap ∧ s'.life = s.life := by
  unfold dvWrite at h
  split at h
  · obtain ⟨-, rfl, rfl, rfl⟩ : _ ∧ _ ∧ _ ∧ _ := by simpa using h
    exact ⟨⟨hok, p, rfl, hp⟩, rfl, rfl⟩
  · split at h
    · obtain ⟨-, rfl, rfl, rfl⟩ : _ ∧ _ ∧ _ ∧ _ := by simpa using h
      exact ⟨⟨hok, p, rfl, hp⟩, rfl, rfl⟩
    · rename_i hw
      obtain ⟨hc, hb⟩ := wrong_iff hok hp (Classical.not_not.1 hw)
      split at h
      · simp only [Prod.mk.injEq] at h
        obtain ⟨-, rfl, rfl, rfl⟩ := h
        exact ⟨⟨Med.lay_ok hok hp hc (right_blk (hb rfl)), p + 1, by simp, by rw [lay_len hp]; exact Nat.le_refl _⟩, rfl, spend_life s⟩
      · split at h
        · simp only [Prod.mk.injEq] at h
          obtain ⟨-, rfl, rfl, rfl⟩ := h
          exact ⟨⟨Med.lay_ok hok hp hc (right_torn _ _ (hb rfl).2), p, rfl, by rw [lay_len hp]; omega⟩, rfl, spend_life s⟩
        · simp only [Prod.mk.injEq] at h
          obtain ⟨-, rfl, rfl, rfl⟩ := h
          exact ⟨⟨hok, p, rfl, hp⟩, rfl, spend_life s⟩
theorem dvMark_good {s s' : PS} {M M' : Med} {p : Nat} {E at' : Int} (hok : M.ok = true) (hp : p ≤ M.cells.length) (h : dvMark s M p = (E, s', M', at')) : DGood M' at' ∧ M'.cap = M.cap ∧ s'.life = s.life := by
  unfold dvMark at h
  split at h
  · simp only [Prod.mk.injEq] at h
    obtain ⟨-, rfl, rfl, rfl⟩ := h
    exact ⟨⟨hok, p, rfl, hp⟩, rfl, rfl⟩
  · split at h
    · simp only [Prod.mk.injEq] at h
      obtain ⟨-, rfl, rfl, rfl⟩ := h
      exact ⟨⟨hok, p, rfl, hp⟩, rfl, rfl⟩
    · rename_i hw
      obtain ⟨hc, _⟩ := wrong_iff hok hp (Classical.not_not.1 hw)
      split at h
      · simp only [Prod.mk.injEq] at h
        obtain ⟨-, rfl, rfl, rfl⟩ := h
        exact ⟨⟨Med.lay_ok hok hp hc (by decide), p + 1, by simp, by rw [lay_len hp]; exact Nat.le_refl _⟩, rfl, spend_life s⟩
      · split at h
        · simp only [Prod.mk.injEq] at h
          obtain ⟨-, rfl, rfl, rfl⟩ := h
          exact ⟨⟨Med.lay_ok hok hp hc (by decide), p, rfl, by rw [lay_len hp]; omega⟩, rfl, spend_life s⟩
        · simp only [Prod.mk.injEq] at h
          obtain ⟨-, rfl, rfl, rfl⟩ := h
          exact ⟨⟨hok, p, rfl, hp⟩, rfl, spend_life s⟩
theorem take_good {M : Med} {p : Nat} (hok : M.ok = true) (hp : p ≤ M.cells.length) : DGood ⟨M.cap, M.cells.take p⟩ (p : Int) := by
  have h := Med.ok_iff.1 hok
  refine ⟨Med.ok_iff.2 ⟨⟨h.1.1, h.1.2.1, ?_⟩, fun x hx => h.2 x (List.mem_of_mem_take hx)⟩, p, rfl, by show p ≤ (M.cells.take p).length; rw [List.length_take]; omega⟩
  show ((M.cells.take p).length : Int) ≤ M.cap
  rw [List.length_take]
  omega
theorem dvEnd_good {s s' : PS} {M M' : Med} {p : Nat} {E : Int} (hok : M.ok = true) (hp : p ≤ M.cells.length) (h : dvEnd s M p = (E, s', M')) : DGood M' (p : Int) ∧ M'.cap = M.cap ∧ s'.life = s.life := by
  unfold dvEnd at h
  split at h
  · simp only [Prod.mk.injEq] at h
    obtain ⟨-, rfl, rfl⟩ := h
    exact ⟨⟨hok, p, rfl, hp⟩, rfl, rfl⟩
  · split at h
    · simp only [Prod.mk.injEq] at h
      obtain ⟨-, rfl, rfl⟩ := h
      exact ⟨take_good hok hp, rfl, spend_life s⟩
    · split at h
      · simp only [Prod.mk.injEq] at h
        obtain ⟨-, rfl, rfl⟩ := h
        exact ⟨take_good hok hp, rfl, spend_life s⟩
      · simp only [Prod.mk.injEq] at h
        obtain ⟨-, rfl, rfl⟩ := h
        exact ⟨⟨hok, p, rfl, hp⟩, rfl, spend_life s⟩
theorem locate_good {s : PS} {M : Med} {at_ n b E at' : Int} (hg : DGood M at_) (h : (if s.off then (5, at_) else M.locate n b at_) = (E, at')) : DGood M at' := by
  have hl : DGood M (M.locate n b at_).2 := by
    unfold Med.locate
    by_cases h1 : n < 0 ∨ b < 0
    · rw [if_pos h1]; exact hg
    · rw [if_neg h1]
      by_cases h2 : (M.behind n).2 ≠ 0 ∨ (M.cells.length : Int) - (M.behind n).1 < b
      · rw [if_pos h2]; exact hg
      · rw [if_neg h2]
        split
        · exact hg
        · refine ⟨hg.ok, ((M.behind n).1 + b).toNat, ?_, ?_⟩
          · show (M.behind n).1 + b = _
            rcases M.behind_bound n with h | h <;> omega
          · rcases M.behind_bound n with h | h <;> omega
  split at h
  · simp only [Prod.mk.injEq] at h
    rw [← h.2]; exact hg
  · rw [h] at hl; exact hl
theorem read_good {s : PS} {M : Med} {at_ E at' : Int} {l : List Byte} (hg : DGood M at_) (h : (if s.off then (([] : List Byte), (5 : Int), at_) else ((M.look at_).1, (M.look at_).2, if (M.look at_).2 = 8 then at_ else at_ + 1)) = (l, E, at')) : DGood M at' := by
  split at h
  · simp only [Prod.mk.injEq] at h
    rw [← h.2.2]; exact hg
  · simp only [Prod.mk.injEq] at h
    rw [← h.2.2]
    split
    · exact hg
    · rename_i h8
      obtain ⟨p, rfl, hp⟩ := hg.pos
      refine ⟨hg.ok, p + 1, by simp, ?_⟩
      by_cases he : p = M.cells.length
      · exfalso
        refine h8 ?_
        unfold Med.look
        rw [if_pos (by omega)]
      · omega
theorem read_len {s : PS} {M : Med} {at_ E at' : Int} {l : List Byte} (hg : DGood M at_) (h : (if s.off then (([] : List Byte), (5 : Int), at_) else ((M.look at_).1, (M.look at_).2, if (M.look at_).2 = 8 then at_ else at_ + 1)) = (l, E, at')) : l.length ≤ 256 := by
  split at h
  · simp only [Prod.mk.injEq] at h
    rw [← h.1]; decide
  · simp only [Prod.mk.injEq] at h
    rw [← h.1]
    unfold Med.look
    split
    · decide
    · split
      · decide
      · rename_i c hc
        split
        · decide
        · split
          · decide
          · have := (Med.ok_iff.1 hg.ok).2 c (List.mem_of_getElem? hc)
            unfold CellP.right rightC at this
            rw [decide_eq_true_eq] at this
            show c.data.length ≤ 256
            omega
end Go.Proofs.Ytmaagkdehdmhlaa

/- The robot, plainly: volumes, drives that hold them, what each of its methods makes of it. -/
namespace Go.Proofs.Ytmaagkdehdmhlaa
open Go.RowKit

/-- A drive: the volume that it holds (-1: none), when it was asked for last, its tape and its place. -/
structure Bay where
  vol : Int
  asked : Int
  M : Med
  at_ : Int
/-- A robot. -/
structure RS where
  size : Int
  vols : List Med
  bays : List Bay
  asked : Int
  mounts : Int
/-- The drive that holds a volume. -/
def findV (v : Int) (l : List Bay) : Option Nat := l.findIdx? fun b => b.vol == v
/-- The drive of the first n that was asked for least lately. -/
def amin (l : List Bay) : Nat → Nat
  | 0 => 0
  | n + 1 => if (l.getD n ⟨0, 0, ⟨0, []⟩, 0⟩).asked < (l.getD (amin l n) ⟨0, 0, ⟨0, []⟩, 0⟩).asked then n else amin l n
def emptyB (l : List Bay) : Option Nat := l.findIdx? fun b => decide (b.vol < 0)
/-- The drive for another volume. -/
def freeB (l : List Bay) : Nat := (emptyB l).getD (amin l l.length)
def RS.new (vols size drives : Nat) : RS := ⟨size, List.replicate vols ⟨size, []⟩, List.replicate drives ⟨-1, 0, ⟨0, []⟩, 0⟩, 0, 0⟩
/-- A volume's tape. -/
def RS.tape (S : RS) (v : Nat) : Med := match findV v S.bays with
  | some i => (S.bays.getD i ⟨0, 0, ⟨0, []⟩, 0⟩).M
  | none => S.vols.getD v ⟨0, []⟩
/-- Mount of a volume that there is, where the power is on: what is behind it, and the drive. -/
def RS.mount (S : RS) (v : Nat) : RS × Nat := match findV v S.bays with
  | some i => ({ S with asked := S.asked + 1, bays := S.bays.modify i fun b => { b with asked := S.asked + 1 } }, i)
  | none =>
    let i := freeB S.bays
    let b := S.bays.getD i ⟨0, 0, ⟨0, []⟩, 0⟩
    let vs := if b.vol < 0 then S.vols else S.vols.set b.vol.toNat b.M
    (⟨S.size, vs, S.bays.set i ⟨v, S.asked + 1, vs.getD v ⟨0, []⟩, 0⟩, S.asked + 1, S.mounts + 1⟩, i)
/-- Put of a right tape. -/
def RS.put (S : RS) (v : Nat) (m : Med) : RS := match findV v S.bays with
  | some i => { S with bays := S.bays.modify i fun b => { b with M := m, at_ := 0 } }
  | none => { S with vols := S.vols.set v m }
/-- A drive's tape is another one. -/
def RS.drive (S : RS) (i : Nat) (M : Med) (at_ : Int) : RS := { S with bays := S.bays.modify i fun b => { b with M := M, at_ := at_ } }

structure BayOk (S : RS) (b : Bay) : Prop where
  vol : -1 ≤ b.vol ∧ b.vol < S.vols.length
  asked : 0 ≤ b.asked ∧ b.asked ≤ S.asked
  good : 0 ≤ b.vol → DGood b.M b.at_ ∧ b.M.cap = S.size
structure RS.ok (S : RS) : Prop where
  vols : 1 ≤ S.vols.length ∧ S.vols.length ≤ 8
  drives : 1 ≤ S.bays.length ∧ S.bays.length ≤ 4
  size : 1 ≤ S.size ∧ S.size ≤ 400
  good : ∀ m ∈ S.vols, m.ok = true ∧ m.cap = S.size
  bay : ∀ b ∈ S.bays, BayOk S b
  one : ∀ (i j : Nat) (bi bj : Bay), S.bays[i]? = some bi → S.bays[j]? = some bj → bi.vol = bj.vol → 0 ≤ bi.vol → i = j
  asked : 0 ≤ S.asked ∧ S.asked ≤ 4000000000000000000
  mounts : 0 ≤ S.mounts ∧ S.mounts ≤ S.asked

theorem findV_some {v : Int} {l : List Bay} {i : Nat} (h : findV v l = some i) : ∃ b, l[i]? = some b ∧ b.vol = v ∧ ∀ j (bj : Bay), j < i → l[j]? = some bj → bj.vol ≠ v := by
  unfold findV at h
  rw [List.findIdx?_eq_some_iff_getElem] at h
  obtain ⟨hi, hp, hlt⟩ := h
  refine ⟨l[i], List.getElem?_eq_getElem hi, by simpa using hp, fun j bj hj hb he => ?_⟩
  have hjl : j < l.length := by omega
  have := hlt j hj
  rw [List.getElem?_eq_getElem hjl] at hb
  simp only [Option.some.injEq] at hb
  rw [hb] at this
  simp [he] at this
theorem findV_none {v : Int} {l : List Bay} (h : findV v l = none) : ∀ b ∈ l, b.vol ≠ v := by
  unfold findV at h
  rw [List.findIdx?_eq_none_iff] at h
  intro b hb he
  have := h b hb
  simp [he] at this
theorem findV_lt {v : Int} {l : List Bay} {i : Nat} (h : findV v l = some i) : i < l.length := by
  obtain ⟨b, hb, _⟩ := findV_some h
  exact (List.getElem?_eq_some_iff.1 hb).1
/-- The scan of 'in': nothing among the first n. -/
theorem findV_of {v : Int} {l : List Bay} {n : Nat} (hn : n < l.length) (h0 : ∀ j (bj : Bay), j < n → l[j]? = some bj → bj.vol ≠ v) (h1 : l[n].vol = v) : findV v l = some n := by
  unfold findV
  rw [List.findIdx?_eq_some_iff_getElem]
  refine ⟨hn, by simpa using h1, fun j hj => ?_⟩
  have := h0 j l[j] hj (List.getElem?_eq_getElem (by omega))
  simpa using this
theorem findV_no {v : Int} {l : List Bay} (h0 : ∀ j (bj : Bay), j < l.length → l[j]? = some bj → bj.vol ≠ v) : findV v l = none := by
  unfold findV
  rw [List.findIdx?_eq_none_iff]
  intro b hb
  obtain ⟨j, hj, rfl⟩ := List.mem_iff_getElem.1 hb
  have := h0 j l[j] hj (List.getElem?_eq_getElem hj)
  simpa using this
theorem amin_le (l : List Bay) (n : Nat) : amin l n ≤ n - 1 := by
  induction n with
  | zero => simp [amin]
  | succ n ih => unfold amin; split <;> omega
theorem emptyB_lt {l : List Bay} {i : Nat} (h : emptyB l = some i) : i < l.length := by
  unfold emptyB at h
  rw [List.findIdx?_eq_some_iff_getElem] at h
  exact h.1
theorem freeB_lt {l : List Bay} (h : 0 < l.length) : freeB l < l.length := by
  unfold freeB
  cases he : emptyB l with
  | none => have := amin_le l l.length; simp only [Option.getD_none]; omega
  | some i => exact emptyB_lt he
theorem emptyB_of {l : List Bay} {n : Nat} (hn : n < l.length) (h0 : ∀ j (bj : Bay), j < n → l[j]? = some bj → 0 ≤ bj.vol) (h1 : l[n].vol < 0) : emptyB l = some n := by
  unfold emptyB
  rw [List.findIdx?_eq_some_iff_getElem]
  refine ⟨hn, by simpa using h1, fun j hj => ?_⟩
  have := h0 j l[j] hj (List.getElem?_eq_getElem (by omega))
  simpa using this
theorem emptyB_no {l : List Bay} (h0 : ∀ j (bj : Bay), j < l.length → l[j]? = some bj → 0 ≤ bj.vol) : emptyB l = none := by
  unfold emptyB
  rw [List.findIdx?_eq_none_iff]
  intro b hb
  obtain ⟨j, hj, rfl⟩ := List.mem_iff_getElem.1 hb
  have := h0 j l[j] hj (List.getElem?_eq_getElem hj)
  simpa using this
end Go.Proofs.Ytmaagkdehdmhlaa
