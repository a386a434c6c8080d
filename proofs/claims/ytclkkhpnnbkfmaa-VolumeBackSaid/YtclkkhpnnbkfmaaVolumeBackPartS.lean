/- Several texts of this claim, one behind the other: AggrPlain, LabelPlain, VolP, TwoPlain. -/
import Derived.Test.YtclkkhpnnbkfmaaAggrPack
import Derived.Test.YtclkkhpnnbkfmaaVolumeBackPartO
import Derived.Test.YtclkkhpnnbkfmaaVolumeBackPartK
import Derived.Test.YtclkkhpnnbkfmaaDrvWrite
import Derived.Test.YtclkkhpnnbkfmaaDrvOps
/- Aggregates' blocks: plain. -/
namespace Go.Proofs.Ytclkkhpnnbkfmaa
open Go.RowKit

theorem rowC_join (l : List Byte) (n : Nat) (hn : 1 ≤ n) : ∀ k, ((List.range k).map (rowC l n)).flatten = l.take (k * n) := by
  intro k
  induction k with
  | zero => simp
  | succ k ih =>
    rw [List.range_succ, List.map_append, List.flatten_append, ih]
    simp only [List.map_cons, List.map_nil, List.flatten_cons, List.flatten_nil, List.append_nil, rowC]
    rw [Nat.add_mul, Nat.one_mul, List.take_add]
theorem rowsC_flat (l : List Byte) {n : Nat} (hn : 1 ≤ n) : (rowsC l n).flatten = l := by
  unfold rowsC
  rw [rowC_join l n hn, List.take_of_length_le]
  have := Nat.div_add_mod (l.length + n - 1) n
  have h2 := Nat.mod_lt (l.length + n - 1) (show 0 < n by omega)
  rw [Nat.mul_comm] at this
  omega
theorem rowsC_len (l : List Byte) (n : Nat) : (rowsC l n).length = (l.length + n - 1) / n := by simp [rowsC]
theorem rowC_le (l : List Byte) (n k : Nat) : (rowC l n k).length ≤ n := by unfold rowC; rw [List.length_take]; omega
/-- What Pack told, as flat bytes. -/
theorem PackR.flat {w' : World} {B : Nat} {rows : List (List Byte)} {of : List Int} {aB : Option Addr} {m cB : Nat} {aO : Option Addr} {no cO : Nat} {bs : List Bsl} (h : PackR w' B rows of aB m cB aO no cO bs) : flat bs = rows.flatten := by
  unfold Go.Proofs.Ytclkkhpnnbkfmaa.flat
  rw [h.rows]
theorem PackR.len {w' : World} {B : Nat} {rows : List (List Byte)} {of : List Int} {aB : Option Addr} {m cB : Nat} {aO : Option Addr} {no cO : Nat} {bs : List Bsl} (h : PackR w' B rows of aB m cB aO no cO bs) : m = bs.length ∧ m = rows.length ∧ no = of.length ∧ m ≤ cB ∧ no ≤ cO := by
  have h1 := h.own.1
  rw [List.length_map] at h1
  have h2 := h.offs.1
  rw [ivs_length] at h2
  have h3 : rows.length = bs.length := by rw [← h.rows, List.length_map]
  exact ⟨by omega, by omega, by omega, h.own.len.1, h.offs.len.1⟩
theorem PackR.mat {w' : World} {B : Nat} {rows : List (List Byte)} {of : List Int} {aB : Option Addr} {m cB : Nat} {aO : Option Addr} {no cO : Nat} {bs : List Bsl} (h : PackR w' B rows of aB m cB aO no cO bs) : Mat w' aB bs :=
  ⟨h.own.src, fun p hp => ⟨(h.dat p hp).src, by have := (h.dat p hp).len; unfold maxLen at this; omega⟩⟩
theorem PackR.ext {w' w2 : World} {B : Nat} {rows : List (List Byte)} {of : List Int} {aB : Option Addr} {m cB : Nat} {aO : Option Addr} {no cO : Nat} {bs : List Bsl} (h : PackR w' B rows of aB m cB aO no cO bs) (hb : Below w'.heap.size w' w2) : PackR w2 B rows of aB m cB aO no cO bs :=
  ⟨h.own.ext hb, h.rows, fun p hp => (h.dat p hp).ext hb, h.offs.ext hb⟩
theorem packP_no {size : Int} {l : List Rec} {rows : List (List Byte)} {of : List Int} {E : Int} (h : packP size l = (rows, of, E)) : E = (wholeP size l).2 ∧ (E ≠ 0 → rows = [] ∧ of = []) ∧ (E = 0 → rows = rowsC (wholeP size l).1 size.toNat ∧ of = offsP l) := by
  unfold packP at h
  split at h
  · rename_i hE
    simp only [Prod.mk.injEq] at h
    obtain ⟨rfl, rfl, rfl⟩ := h
    exact ⟨rfl, fun _ => ⟨rfl, rfl⟩, fun h => absurd h hE⟩
  · rename_i hE
    simp only [Prod.mk.injEq] at h
    obtain ⟨rfl, rfl, rfl⟩ := h
    exact ⟨by simpa using Eq.symm (by simpa using hE), fun h => absurd rfl h, fun _ => ⟨rfl, rfl⟩⟩
/-- How many blocks Need tells: as many as Pack makes. -/
theorem needP_pack {size : Int} {l : List Rec} (h : (wholeP size l).2 = 0) : needP size l = (((rowsC (wholeP size l).1 size.toNat).length : Int), 0) := by
  obtain ⟨h1, _⟩ := wholeP_ok h
  unfold needP
  rw [if_neg (by simpa using h), rowsC_len]
  obtain ⟨sz, hsz⟩ := Int.eq_ofNat_of_zero_le (show 0 ≤ size by omega)
  rw [hsz, Int.toNat_natCast, Int.tdiv_eq_ediv_of_nonneg (by omega)]
  congr 1
  rw [Int.natCast_ediv]
  congr 1
  omega
theorem needP_no {size : Int} {l : List Rec} (h : (wholeP size l).2 ≠ 0) : needP size l = (0, (wholeP size l).2) := by
  unfold needP
  rw [if_pos h]
theorem wholeP_flat {size : Int} {l : List Rec} (h : (wholeP size l).2 = 0) : (rowsC (wholeP size l).1 size.toNat).flatten = joinB (aggrL l) := by
  obtain ⟨h1, _, _, _, h5⟩ := wholeP_ok h
  rw [rowsC_flat _ (by omega), h5]
end Go.Proofs.Ytclkkhpnnbkfmaa

/- Labels: plain. -/
namespace Go.Proofs.Ytclkkhpnnbkfmaa

def okL (v p e : Int) : Bool := decide (0 ≤ v ∧ v < 8 ∧ 0 ≤ p ∧ p ≤ 1 ∧ 0 ≤ e ∧ e ≤ 1048576)
def lhead (v p e : Int) : List Byte := [67#8, 69#8, 76#8, 76#8, BitVec.ofNat 8 v.toNat, BitVec.ofNat 8 p.toNat] ++ be e.toNat 4
def lbytes (v p e : Int) : List Byte := lhead v p e ++ crcBytesOf (crc (lhead v p e))
def labB (v p e : Int) : List Byte := if okL v p e then lbytes v p e else []
def labE (v p e : Int) : Int := if okL v p e then 0 else 1
/-- What bytes are read as: volume, pool, epoch, error. -/
def labOf (l : List Byte) : Int × Int × Int := (((l.getD 4 0#8).toNat : Int), ((l.getD 5 0#8).toNat : Int), ((numOf ((l.drop 6).take 4) : Nat) : Int))
def labR (l : List Byte) : Int × Int × Int × Int :=
  if l.length = 14 ∧ okL (labOf l).1 (labOf l).2.1 (labOf l).2.2 = true ∧ lbytes (labOf l).1 (labOf l).2.1 (labOf l).2.2 = l then ((labOf l).1, (labOf l).2.1, (labOf l).2.2, 0) else (0, 0, 0, 13)

theorem okL_iff {v p e : Int} : okL v p e = true ↔ 0 ≤ v ∧ v < 8 ∧ 0 ≤ p ∧ p ≤ 1 ∧ 0 ≤ e ∧ e ≤ 1048576 := by simp [okL]
theorem lhead_length (v p e : Int) : (lhead v p e).length = 10 := by simp [lhead, be_length]
theorem crcBytesOf_length (z : BitVec 32) : (crcBytesOf z).length = 4 := rfl
theorem lbytes_length (v p e : Int) : (lbytes v p e).length = 14 := by simp [lbytes, lhead_length, crcBytesOf_length]
theorem labB_length_ok {v p e : Int} (h : okL v p e = true) : (labB v p e).length = 14 := by simp [labB, h, lbytes_length]
theorem labB_ok {v p e : Int} (h : okL v p e = true) : labB v p e = lbytes v p e := by simp [labB, h]
theorem labB_no {v p e : Int} (h : okL v p e = false) : labB v p e = [] := by simp [labB, h]
theorem labE_ok {v p e : Int} (h : okL v p e = true) : labE v p e = 0 := by simp [labE, h]
theorem labE_no {v p e : Int} (h : okL v p e = false) : labE v p e = 1 := by simp [labE, h]

/-- A label's bytes tell the label. -/
theorem labOf_lbytes {v p e : Int} (h : okL v p e = true) : labOf (lbytes v p e) = (v, p, e) := by
  rw [okL_iff] at h
  have h1 : (lbytes v p e).getD 4 0#8 = BitVec.ofNat 8 v.toNat := by simp [lbytes, lhead]
  have h2 : (lbytes v p e).getD 5 0#8 = BitVec.ofNat 8 p.toNat := by simp [lbytes, lhead]
  have h3 : ((lbytes v p e).drop 6).take 4 = be e.toNat 4 := by
    simp only [lbytes, lhead, List.cons_append, List.nil_append, List.drop_succ_cons, List.drop_zero]
    rw [List.take_append_of_le_length (by rw [be_length]; omega), List.take_of_length_le (by rw [be_length]; omega)]
  unfold labOf
  rw [h1, h2, h3, numOf_be_of_lt (by have : (256 : Nat) ^ 4 = 4294967296 := by decide
                                     omega), BitVec.toNat_ofNat, BitVec.toNat_ofNat]
  refine Prod.ext ?_ (Prod.ext ?_ ?_) <;> simp <;> omega
theorem labR_lbytes {v p e : Int} (h : okL v p e = true) : labR (lbytes v p e) = (v, p, e, 0) := by
  unfold labR
  rw [labOf_lbytes h, if_pos ⟨lbytes_length _ _ _, h, rfl⟩]
theorem lbytes_inj {v p e v' p' e' : Int} (h : okL v p e = true) (h' : okL v' p' e' = true) (hb : lbytes v p e = lbytes v' p' e') : v = v' ∧ p = p' ∧ e = e' := by
  have h1 := labOf_lbytes h
  rw [hb, labOf_lbytes h'] at h1
  simp only [Prod.mk.injEq] at h1
  omega
theorem labR_len {l : List Byte} (h : l.length ≠ 14) : labR l = (0, 0, 0, 13) := by
  unfold labR; rw [if_neg (fun hh => h hh.1)]
/-- The error is 0 just where the bytes are the label's. -/
theorem labR_err (l : List Byte) : ((labR l).2.2.2 = 0 ∧ okL (labR l).1 (labR l).2.1 (labR l).2.2.1 = true ∧ lbytes (labR l).1 (labR l).2.1 (labR l).2.2.1 = l) ∨ labR l = (0, 0, 0, 13) := by
  unfold labR
  split
  · next h => exact .inl ⟨rfl, h.2⟩
  · exact .inr rfl
end Go.Proofs.Ytclkkhpnnbkfmaa

/- volume, plainly: what its methods make of a power, a tape and a place. -/
namespace Go.Proofs.Ytclkkhpnnbkfmaa
open Go.RowKit

theorem locate_00 (M : Med) (at_ : Int) : M.locate 0 0 at_ = (0, 0) := by
  have hb : M.behind 0 = (0, 0) := by unfold Med.behind; rw [if_pos rfl]
  unfold Med.locate
  rw [if_neg (by omega), hb, if_neg (by simp)]
  simp
/-- How many cells are free behind so many aggregates (-1: there are not so many). -/
def roomP (M : Med) (f : Int) : Int := if f < 0 ∨ (M.cells.length : Int) ≤ f then -1 else if (M.behind (f + 1)).2 ≠ 0 then -1 else M.cap - (M.behind (f + 1)).1
def vFiles (M : Med) : Int := if M.files - 1 < 0 then 0 else M.files - 1
def vFormat (s : PS) (M : Med) (at_ : Int) (v p e : Int) : Int × PS × Med × Int :=
  if s.off then (5, s, M, at_) else if okL v p e = false then (1, s, M, 0) else
    if (dvWrite s M 0 (lbytes v p e)).1 ≠ 0 then dvWrite s M 0 (lbytes v p e) else dvMark (dvWrite s M 0 (lbytes v p e)).2.1 (dvWrite s M 0 (lbytes v p e)).2.2.1 1
def vWrites (s : PS) (M : Med) (p : Nat) : List (List Byte) → Int × PS × Med × Int
  | [] => (0, s, M, (p : Int))
  | b :: bs => if (dvWrite s M p b).1 ≠ 0 then dvWrite s M p b else vWrites (dvWrite s M p b).2.1 (dvWrite s M p b).2.2.1 (p + 1) bs
def vAppend (s : PS) (M : Med) (at_ f size : Int) (l : List Rec) : List Int × Int × PS × Med × Int :=
  if s.off then ([], 5, s, M, at_) else
  if (packP size l).2.2 ≠ 0 then ([], (packP size l).2.2, s, M, 0) else
  if roomP M f < 0 then ([], 8, s, M, 0) else
  if roomP M f < (packP size l).1.length + 1 then ([], 7, s, M, 0) else
  let r := vWrites s M (M.behind (f + 1)).1.toNat (packP size l).1
  if r.1 ≠ 0 then ([], r.1, r.2.1, r.2.2.1, r.2.2.2) else
  let q := dvMark r.2.1 r.2.2.1 r.2.2.2.toNat
  if q.1 ≠ 0 then ([], q.1, q.2.1, q.2.2.1, q.2.2.2) else ((packP size l).2.1, 0, q.2.1, q.2.2.1, q.2.2.2)
/-- What a write leaves is a right tape, and a place. -/
theorem dvWrite_pos {s s' : PS} {M M' : Med} {p : Nat} {b : List Byte} {E at' : Int} (h : dvWrite s M p b = (E, s', M', at')) : E = 0 → at' = (p : Int) + 1 := by
  intro h0
  unfold dvWrite at h
  split at h
  · simp only [Prod.mk.injEq] at h; omega
  · split at h
    · rename_i hw; simp only [Prod.mk.injEq] at h; exact absurd (h.1.trans h0) hw
    · split at h
      · simp only [Prod.mk.injEq] at h; exact h.2.2.2.symm
      · split at h
        · simp only [Prod.mk.injEq] at h; omega
        · simp only [Prod.mk.injEq] at h; omega
end Go.Proofs.Ytclkkhpnnbkfmaa

/- What a drive's methods leave is a good tape and a place on it. -/
namespace Go.Proofs.Ytclkkhpnnbkfmaa
open Go.RowKit

structure DGood (M : Med) (at_ : Int) : Prop where
  ok : M.ok = true
  pos : ∃ p : Nat, at_ = (p : Int) ∧ p ≤ M.cells.length
theorem DGood.len {M : Med} {at_ : Int} (h : DGood M at_) : M.cells.length ≤ 90000 := by have := (Med.ok_iff.1 h.ok).1; omega
theorem DGood.short {M : Med} {at_ : Int} (h : DGood M at_) : ∀ x ∈ M.cells, x.data.length ≤ 140737488355328 := fun x hx => by
  have := (Med.ok_iff.1 h.ok).2 x hx
  unfold CellP.right rightC at this
  rw [decide_eq_true_eq] at this
  omega
theorem DGood.at0 {M : Med} {at_ : Int} (h : DGood M at_) : 0 ≤ at_ ∧ at_ ≤ M.cap ∧ M.cap ≤ 400 := by
  have := (Med.ok_iff.1 h.ok).1
  obtain ⟨p, rfl, hp⟩ := h.pos
  omega
theorem spend_life (s : PS) : s.spend.2.life = s.life := by
  have hc : ∀ k t, (s.cut k t).life = s.life := fun k t => by unfold PS.cut; split <;> rfl
  unfold PS.spend
  repeat' split
  all_goals first | rfl | exact hc _ _
theorem wrong_iff {M : Med} {p : Nat} {n : Nat} {b : Bool} (hok : M.ok = true) (hp : p ≤ M.cells.length) (h : M.wrong (p : Int) n b = 0) : (p : Int) < M.cap ∧ (b = true → 1 ≤ n ∧ n ≤ 256) := by
  have hc := (Med.ok_iff.1 hok).1
  unfold Med.wrong at h
  split at h
  · exact absurd h (by decide)
  · split at h
    · exact absurd h (by decide)
    · split at h
      · exact absurd h (by decide)
      · refine ⟨by omega, fun hb => ?_⟩
        rename_i h2 _
        by_cases hn : n < 1 ∨ 256 < n
        · exact absurd ⟨hb, hn⟩ h2
        · omega
theorem lay_len {M : Med} {p : Nat} {x : CellP} (hp : p ≤ M.cells.length) : (M.lay p x).cells.length = p + 1 := by
  unfold Med.lay
  rw [List.length_append, List.length_take, Nat.min_eq_left hp]
  rfl
theorem right_torn (l : List Byte) (t : Nat) (h : l.length ≤ 256) : (CellP.mk 3 (l.take t) false).right = true := by
  unfold CellP.right rightC
  rw [decide_eq_true_eq]
  have : (l.take t).length ≤ l.length := by rw [List.length_take]; omega
  exact .inr (.inr ⟨rfl, by show (l.take t).length ≤ 256; omega⟩)
theorem dvWrite_good {s s' : PS} {M M' : Med} {p : Nat} {b : List Byte} {E at' : Int} (hok : M.ok = true) (hp : p ≤ M.cells.length) (h : dvWrite s M p b = (E, s', M', at')) : DGood M' at' ∧ M'.cap = M.cap ∧ s'.life = s.life := by
  unfold dvWrite at h
  split at h
  · obtain ⟨-, rfl, rfl, rfl⟩ : _ ∧ _ ∧ _ ∧ _ := by simpa using h
    exact ⟨⟨hok, p, rfl, hp⟩, rfl, rfl⟩
  · split at h
    · obtain ⟨-, rfl, rfl, rfl⟩ : _ ∧ _ ∧ _ ∧ _ := by simpa using h
      exact ⟨⟨hok, p, rfl, hp⟩, rfl, rfl⟩
    · rename_i hw
      obtain ⟨hc, hb⟩ := wrong_iff hok hp (Classical.not_not.1 hw)
      split at h
      · simp only [Prod.mk.injEq] at h
        obtain ⟨-, rfl, rfl, rfl⟩ := h
        exact ⟨⟨Med.lay_ok hok hp hc (right_blk (hb rfl)), p + 1, by simp, by rw [lay_len hp]; exact Nat.le_refl _⟩, rfl, spend_life s⟩
      · split at h
        · simp only [Prod.mk.injEq] at h
          obtain ⟨-, rfl, rfl, rfl⟩ := h
          exact ⟨⟨Med.lay_ok hok hp hc (right_torn _ _ (hb rfl).2), p, rfl, by rw [lay_len hp]; omega⟩, rfl, spend_life s⟩
        · simp only [Prod.mk.injEq] at h
          obtain ⟨-, rfl, rfl, rfl⟩ := h
          exact ⟨⟨hok, p, rfl, hp⟩, rfl, spend_life s⟩
theorem dvMark_good {s s' : PS} {M M' : Med} {p : Nat} {E at' : Int} (hok : M.ok = true) (hp : p ≤ M.cells.length) (h : dvMark s M p = (E, s', M', at')) : DGood M' at' ∧ M'.cap = M.cap ∧ s'.life = s.life := by
  unfold dvMark at h
  split at h
  · simp only [Prod.mk.injEq] at h
    obtain ⟨-, rfl, rfl, rfl⟩ := h
    exact ⟨⟨hok, p, rfl, hp⟩, rfl, rfl⟩
  · split at h
    · simp only [Prod.mk.injEq] at h
      obtain ⟨-, rfl, rfl, rfl⟩ := h
      exact ⟨⟨hok, p, rfl, hp⟩, rfl, rfl⟩
    · rename_i hw
      obtain ⟨hc, _⟩ := wrong_iff hok hp (Classical.not_not.1 hw)
      split at h
      · simp only [Prod.mk.injEq] at h
        obtain ⟨-, rfl, rfl, rfl⟩ := h
        exact ⟨⟨Med.lay_ok hok hp hc (by decide), p + 1, by simp, by rw [lay_len hp]; exact Nat.le_refl _⟩, rfl, spend_life s⟩
      · split at h
        · simp only [Prod.mk.injEq] at h
          obtain ⟨-, rfl, rfl, rfl⟩ := h
          exact ⟨⟨Med.lay_ok hok hp hc (by decide), p, rfl, by rw [lay_len hp]; omega⟩, rfl, spend_life s⟩
        · simp only [Prod.mk.injEq] at h
          obtain ⟨-, rfl, rfl, rfl⟩ := h
          exact ⟨⟨hok, p, rfl, hp⟩, rfl, spend_life s⟩
theorem take_good {M : Med} {p : Nat} (hok : M.ok = true) (hp : p ≤ M.cells.length) : DGood ⟨M.cap, M.cells.take p⟩ (p : Int) := by
  have h := Med.ok_iff.1 hok
  refine ⟨Med.ok_iff.2 ⟨⟨h.1.1, h.1.2.1, ?_⟩, fun x hx => h.2 x (List.mem_of_mem_take hx)⟩, p, rfl, by show p ≤ (M.cells.take p).length; rw [List.length_take]; omega⟩
  show ((M.cells.take p).length : Int) ≤ M.cap
  rw [List.length_take]
  omega
theorem dvEnd_good {s s' : PS} {M M' : Med} {p : Nat} {E : Int} (hok : M.ok = true) (hp : p ≤ M.cells.length) (h : dvEnd s M p = (E, s', M')) : DGood M' (p : Int) ∧ M'.cap = M.cap ∧ s'.life = s.life := by
  unfold dvEnd at h
  split at h
  · simp only [Prod.mk.injEq] at h
    obtain ⟨-, rfl, rfl⟩ := h
    exact ⟨⟨hok, p, rfl, hp⟩, rfl, rfl⟩
  · split at h
    · simp only [Prod.mk.injEq] at h
      obtain ⟨-, rfl, rfl⟩ := h
      exact ⟨take_good hok hp, rfl, spend_life s⟩
    · split at h
      · simp only [Prod.mk.injEq] at h
        obtain ⟨-, rfl, rfl⟩ := h
        exact ⟨take_good hok hp, rfl, spend_life s⟩
      · simp only [Prod.mk.injEq] at h
        obtain ⟨-, rfl, rfl⟩ := h
        exact ⟨⟨hok, p, rfl, hp⟩, rfl, spend_life s⟩
theorem locate_good {s : PS} {M : Med} {at_ n b E at' : Int} (hg : DGood M at_) (h : (if s.off then (5, at_) else M.locate n b at_) = (E, at')) : DGood M at' := by
  have hl : DGood M (M.locate n b at_).2 := by
    unfold Med.locate
    by_cases h1 : n < 0 ∨ b < 0
    · rw [if_pos h1]; exact hg
    · rw [if_neg h1]
      by_cases h2 : (M.behind n).2 ≠ 0 ∨ (M.cells.length : Int) - (M.behind n).1 < b
      · rw [if_pos h2]; exact hg
      · rw [if_neg h2]
        split
        · exact hg
        · refine ⟨hg.ok, ((M.behind n).1 + b).toNat, ?_, ?_⟩
          · show (M.behind n).1 + b = _
            rcases M.behind_bound n with h | h <;> omega
          · rcases M.behind_bound n with h | h <;> omega
  split at h
  · simp only [Prod.mk.injEq] at h
    rw [← h.2]; exact hg
  · rw [h] at hl; exact hl
theorem read_good {s : PS} {M : Med} {at_ E at' : Int} {l : List Byte} (hg : DGood M at_) (h : (if s.off then (([] : List Byte), (5 : Int), at_) else ((M.look at_).1, (M.look at_).2, if (M.look at_).2 = 8 then at_ else at_ + 1)) = (l, E, at')) : DGood M at' := by
  split at h
  · simp only [Prod.mk.injEq] at h
    rw [← h.2.2]; exact hg
  · simp only [Prod.mk.injEq] at h
    rw [← h.2.2]
    split
    · exact hg
    · rename_i h8
      obtain ⟨p, rfl, hp⟩ := hg.pos
      refine ⟨hg.ok, p + 1, by simp, ?_⟩
      by_cases he : p = M.cells.length
      · exfalso
        refine h8 ?_
        unfold Med.look
        rw [if_pos (by omega)]
      · omega
theorem read_len {s : PS} {M : Med} {at_ E at' : Int} {l : List Byte} (hg : DGood M at_) (h : (if s.off then (([] : List Byte), (5 : Int), at_) else ((M.look at_).1, (M.look at_).2, if (M.look at_).2 = 8 then at_ else at_ + 1)) = (l, E, at')) : l.length ≤ 256 := by
  split at h
  · simp only [Prod.mk.injEq] at h
    rw [← h.1]; decide
  · simp only [Prod.mk.injEq] at h
    rw [← h.1]
    unfold Med.look
    split
    · decide
    · split
      · decide
      · rename_i c hc
        split
        · decide
        · split
          · decide
          · have := (Med.ok_iff.1 hg.ok).2 c (List.mem_of_getElem? hc)
            unfold CellP.right rightC at this
            rw [decide_eq_true_eq] at this
            show c.data.length ≤ 256
            omega
end Go.Proofs.Ytclkkhpnnbkfmaa
