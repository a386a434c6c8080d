/- Several texts of this claim, one behind the other: VolT, VolF. -/
import Derived.Test.YtclkkhpnnbkfmaaVolApp
import Derived.Test.YtclkkhpnnbkfmaaVolumeBackPartO
/- Tapes of volumes, plainly: a label, a mark, and of each aggregate its blocks and a mark. -/
namespace Go.Proofs.Ytclkkhpnnbkfmaa
open Go.RowKit

def blkC (b : List Byte) : CellP := ⟨1, b, false⟩
def markC : CellP := ⟨2, [], false⟩
/-- An aggregate's cells. -/
def aggC (rows : List (List Byte)) : List CellP := rows.map blkC ++ [markC]
def aggsC (gs : List (List (List Byte))) : List CellP := (gs.map aggC).flatten
def volT (cap : Int) (lab : List Byte) (gs : List (List (List Byte))) : Med := ⟨cap, blkC lab :: markC :: aggsC gs⟩
/-- How many cells the first aggregates have. -/
def lenA (gs : List (List (List Byte))) : Nat := (aggsC gs).length
theorem aggC_len (rows : List (List Byte)) : (aggC rows).length = rows.length + 1 := by simp [aggC]
theorem aggsC_nil : aggsC [] = [] := rfl
theorem aggsC_cons (r : List (List Byte)) (gs : List (List (List Byte))) : aggsC (r :: gs) = aggC r ++ aggsC gs := by simp [aggsC]
theorem aggsC_snoc (gs : List (List (List Byte))) (r : List (List Byte)) : aggsC (gs ++ [r]) = aggsC gs ++ aggC r := by simp [aggsC]
theorem aggsC_app (gs bs : List (List (List Byte))) : aggsC (gs ++ bs) = aggsC gs ++ aggsC bs := by simp [aggsC]
theorem lenA_cons (r : List (List Byte)) (gs : List (List (List Byte))) : lenA (r :: gs) = r.length + 1 + lenA gs := by simp [lenA, aggsC_cons, aggC_len]
theorem behind_blk (b : List Byte) (cs : List CellP) (i : Nat) (n : Int) : behind (blkC b :: cs) i n = behind cs (i + 1) n := by
  rw [behind, if_neg (by show ¬ (1 : Int) = 2; decide)]
theorem behind_mk (cs : List CellP) (i : Nat) (n : Int) : behind (markC :: cs) i n = if n - 1 = 0 then ((i : Int) + 1, 0) else behind cs (i + 1) (n - 1) := by
  rw [behind, if_pos (show markC.kind = 2 from rfl)]
theorem behind_blks (rows : List (List Byte)) (cs : List CellP) (n : Int) : ∀ i : Nat, behind (rows.map blkC ++ cs) i n = behind cs (i + rows.length) n := by
  induction rows with
  | nil => intro i; rfl
  | cons r rows ih =>
    intro i
    rw [List.map_cons, List.cons_append, behind_blk, ih]
    congr 1
    simp; omega
theorem behind_agg (rows : List (List Byte)) (cs : List CellP) (i : Nat) (n : Int) : behind (aggC rows ++ cs) i n = if n - 1 = 0 then (((i + rows.length + 1 : Nat) : Int), 0) else behind cs (i + rows.length + 1) (n - 1) := by
  unfold aggC
  rw [List.append_assoc, behind_blks, List.singleton_append, behind_mk]
  simp
/-- The place behind the n-th aggregate. -/
theorem behind_aggs (gs : List (List (List Byte))) : ∀ (n i : Nat), behind (aggsC gs) i ((n : Int) + 1) = if n < gs.length then (((i + lenA (gs.take (n + 1)) : Nat) : Int), 0) else (0, 8) := by
  induction gs with
  | nil => intro n i; rfl
  | cons r gs ih =>
    intro n i
    rw [aggsC_cons, behind_agg]
    cases n with
    | zero =>
      rw [if_pos (by simp), if_pos (by simp), List.take_succ_cons, List.take_zero, lenA_cons]
      simp [lenA, aggsC_nil]
      omega
    | succ n =>
      rw [if_neg (by omega), show ((n + 1 : Nat) : Int) + 1 - 1 = (n : Int) + 1 by omega, ih]
      by_cases h : n < gs.length
      · rw [if_pos h, if_pos (by simpa using h), List.take_succ_cons, lenA_cons]
        congr 2
        omega
      · rw [if_neg h, if_neg (by simpa using h)]
/-- The place behind the label and f aggregates. -/
theorem volT_behind (cap : Int) (lab : List Byte) (gs : List (List (List Byte))) (f : Nat) : (volT cap lab gs).behind ((f : Int) + 1) = if f ≤ gs.length then (((2 + lenA (gs.take f) : Nat) : Int), 0) else (0, 8) := by
  unfold Med.behind volT
  rw [if_neg (by omega), behind_blk, behind_mk]
  cases f with
  | zero =>
    rw [if_pos (by simp), if_pos (Nat.zero_le _)]
    simp [lenA, aggsC_nil]
  | succ f =>
    rw [if_neg (by omega), show ((f + 1 : Nat) : Int) + 1 - 1 = (f : Int) + 1 by omega, behind_aggs]
    by_cases h : f < gs.length
    · rw [if_pos h, if_pos (by omega)]
    · rw [if_neg h, if_neg (by omega)]
theorem volT_len (cap : Int) (lab : List Byte) (gs : List (List (List Byte))) : (volT cap lab gs).cells.length = 2 + lenA gs := by
  simp [volT, lenA]; omega
theorem volT_marks (cap : Int) (lab : List Byte) (gs : List (List (List Byte))) : marks (volT cap lab gs).cells = gs.length + 1 := by
  have h1 : ∀ rows : List (List Byte), marks (aggC rows) = 1 := fun rows => by
    unfold marks aggC
    rw [List.countP_append]
    have : List.countP (fun c : CellP => decide (c.kind = 2)) (rows.map blkC) = 0 := by
      rw [List.countP_eq_zero]
      intro x hx
      obtain ⟨b, _, rfl⟩ := List.mem_map.1 hx
      show ¬ decide ((1 : Int) = 2) = true
      decide
    rw [this]
    rfl
  have h2 : marks (aggsC gs) = gs.length := by
    induction gs with
    | nil => rfl
    | cons r gs ih =>
      have := h1 r
      unfold marks at this ih ⊢
      rw [aggsC_cons, List.countP_append, this, ih]
      simp; omega
  unfold marks at h2 ⊢
  show List.countP _ (blkC lab :: markC :: aggsC gs) = _
  rw [List.countP_cons, List.countP_cons, h2]
  simp [blkC, markC]
/-- Blocks written behind one another, where there is room and the power is on. -/
theorem vWrites_ok : ∀ (rows : List (List Byte)) (M : Med) (p : Nat), p ≤ M.cells.length → ((p + rows.length : Nat) : Int) ≤ M.cap → (∀ r ∈ rows, 1 ≤ r.length ∧ r.length ≤ 256) →
    vWrites PS.new M p rows = (0, PS.new, if rows = [] then M else ⟨M.cap, M.cells.take p ++ rows.map blkC⟩, ((p + rows.length : Nat) : Int)) := by
  intro rows
  induction rows with
  | nil => intro M p _ _ _; rfl
  | cons r rows ih =>
    intro M p hp hc hr
    have h1 := hr r (List.mem_cons_self ..)
    unfold vWrites
    rw [List.length_cons] at hc
    rw [dvWrite_ok hp (by omega) h1, if_neg (show ¬ ((0 : Int) ≠ 0) by decide)]
    have hl : (M.lay p ⟨1, r, false⟩).cells.length = p + 1 := lay_len hp
    show vWrites PS.new (M.lay p ⟨1, r, false⟩) (p + 1) rows = _
    rw [ih _ (p + 1) (by rw [hl]; exact Nat.le_refl _) (by show _ ≤ M.cap; omega) fun x hx => hr x (List.mem_cons_of_mem _ hx)]
    have ht : (M.lay p ⟨1, r, false⟩).cells.take (p + 1) = (M.lay p ⟨1, r, false⟩).cells := List.take_of_length_le (by rw [hl]; exact Nat.le_refl _)
    rw [ht, if_neg (show ¬ (r :: rows = []) by simp)]
    refine Prod.ext rfl (Prod.ext rfl (Prod.ext ?_ ?_))
    · show (if rows = [] then M.lay p ⟨1, r, false⟩ else ⟨(M.lay p ⟨1, r, false⟩).cap, (M.lay p ⟨1, r, false⟩).cells ++ rows.map blkC⟩) = _
      by_cases hn : rows = []
      · subst hn
        rw [if_pos rfl]
        rfl
      · rw [if_neg hn]
        unfold Med.lay
        simp [blkC]
    · show (((p + 1 + rows.length : Nat) : Int)) = _
      rw [List.length_cons]
      congr 1
      omega
end Go.Proofs.Ytclkkhpnnbkfmaa

/- What Format and Append make of tapes of volumes while the power is on, plainly. -/
namespace Go.Proofs.Ytclkkhpnnbkfmaa
open Go.RowKit

theorem lenA_ge (gs : List (List (List Byte))) : gs.length ≤ lenA gs := by
  induction gs with
  | nil => exact Nat.zero_le _
  | cons r gs ih => rw [lenA_cons, List.length_cons]; omega
theorem lenA_take (gs : List (List (List Byte))) (f : Nat) : lenA (gs.take f) ≤ lenA gs := by
  have h : lenA gs = lenA (gs.take f) + lenA (gs.drop f) := by
    unfold lenA
    rw [← List.length_append, ← aggsC_app, List.take_append_drop]
  omega
/-- The cells ahead of the f-th aggregate. -/
theorem volT_take (cap : Int) (lab : List Byte) (gs : List (List (List Byte))) (f : Nat) : (volT cap lab gs).cells.take (2 + lenA (gs.take f)) = blkC lab :: markC :: aggsC (gs.take f) := by
  show (blkC lab :: markC :: aggsC gs).take (2 + lenA (gs.take f)) = _
  rw [show 2 + lenA (gs.take f) = lenA (gs.take f) + 1 + 1 by omega, List.take_succ_cons, List.take_succ_cons]
  have h : aggsC gs = aggsC (gs.take f) ++ aggsC (gs.drop f) := by rw [← aggsC_app, List.take_append_drop]
  rw [h]
  congr 2
  exact List.take_left' rfl
theorem vFormat_ok {M : Med} {at_ v p e : Int} (hc : 2 ≤ M.cap) (hl : okL v p e = true) (hb : 1 ≤ (lbytes v p e).length ∧ (lbytes v p e).length ≤ 256) :
    vFormat PS.new M at_ v p e = (0, PS.new, volT M.cap (lbytes v p e) [], 2) := by
  unfold vFormat
  rw [if_neg (by decide), if_neg (by rw [hl]; decide), dvWrite_ok (Nat.zero_le _) (by omega) hb, if_neg (show ¬ ((0 : Int) ≠ 0) by decide)]
  show dvMark PS.new (M.lay 0 ⟨1, lbytes v p e, false⟩) 1 = _
  rw [dvMark_ok (by rw [lay_len (Nat.zero_le _)]; exact Nat.le_refl _) (by show (1 : Int) < M.cap; omega)]
  rfl
theorem roomP_vol (cap : Int) (lab : List Byte) (gs : List (List (List Byte))) (f : Nat) (hf : f ≤ gs.length) : roomP (volT cap lab gs) (f : Int) = cap - ((2 + lenA (gs.take f) : Nat) : Int) := by
  have h1 := lenA_ge gs
  unfold roomP
  rw [volT_len, if_neg (by omega), volT_behind, if_pos hf, if_neg (show ¬ ((0 : Int) ≠ 0) by decide)]
  rfl
theorem roomP_vol_no (cap : Int) (lab : List Byte) (gs : List (List (List Byte))) (f : Nat) (hf : gs.length < f) : roomP (volT cap lab gs) (f : Int) = -1 := by
  unfold roomP
  split
  · rfl
  · have h8 : (volT cap lab gs).behind ((f : Int) + 1) = (0, 8) := by rw [volT_behind, if_neg (show ¬ f ≤ gs.length by omega)]
    rw [h8, if_pos (show ((8 : Int) ≠ 0) by decide)]
theorem vFiles_vol (cap : Int) (lab : List Byte) (gs : List (List (List Byte))) (h : (volT cap lab gs).files = marks (volT cap lab gs).cells) : vFiles (volT cap lab gs) = gs.length := by
  unfold vFiles
  rw [h, volT_marks]
  rw [if_neg (by omega)]
  omega
theorem blkC_right {b : List Byte} (h : 1 ≤ b.length ∧ b.length ≤ 256) : (blkC b).right = true := by
  show rightC 1 b.length = true
  unfold rightC
  simp; omega
theorem aggsC_right {gs : List (List (List Byte))} (h : ∀ g ∈ gs, ∀ r ∈ g, 1 ≤ r.length ∧ r.length ≤ 256) : ∀ c ∈ aggsC gs, c.right = true := by
  intro c hc
  obtain ⟨l, hl, hc⟩ := List.mem_flatten.1 hc
  obtain ⟨g, hg, rfl⟩ := List.mem_map.1 hl
  rcases List.mem_append.1 hc with hc | hc
  · obtain ⟨b, hb, rfl⟩ := List.mem_map.1 hc
    exact blkC_right (h g hg b hb)
  · rw [List.mem_singleton.1 hc]; rfl
theorem volT_ok {cap : Int} {lab : List Byte} {gs : List (List (List Byte))} (hc : 1 ≤ cap ∧ cap ≤ 400) (hl : ((2 + lenA gs : Nat) : Int) ≤ cap) (hb : 1 ≤ lab.length ∧ lab.length ≤ 256) (h : ∀ g ∈ gs, ∀ r ∈ g, 1 ≤ r.length ∧ r.length ≤ 256) : (volT cap lab gs).ok = true := by
  refine Med.ok_iff.2 ⟨⟨hc.1, hc.2, ?_⟩, ?_⟩
  · rw [volT_len]; exact hl
  · intro c hm
    rcases List.mem_cons.1 hm with rfl | hm
    · exact blkC_right hb
    · rcases List.mem_cons.1 hm with rfl | hm
      · rfl
      · exact aggsC_right h c hm
/-- An aggregate laid where there is room. -/
theorem vAppend_ok {cap : Int} {lab : List Byte} {gs : List (List (List Byte))} {f : Nat} {size at_ : Int} {l : List Rec} {rows : List (List Byte)} {of : List Int} (hf : f ≤ gs.length) (hp : packP size l = (rows, of, 0)) (hr : ∀ r ∈ rows, 1 ≤ r.length ∧ r.length ≤ 256)
    (hc : ((2 + lenA (gs.take f) + rows.length + 1 : Nat) : Int) ≤ cap) :
    vAppend PS.new (volT cap lab gs) at_ (f : Int) size l = (of, 0, PS.new, volT cap lab (gs.take f ++ [rows]), ((2 + lenA (gs.take f) + rows.length + 1 : Nat) : Int)) := by
  have hT := lenA_take gs f
  have hL := volT_len cap lab gs
  have hle : 2 + lenA (gs.take f) ≤ (volT cap lab gs).cells.length := by rw [hL]; omega
  have hW := vWrites_ok rows (volT cap lab gs) (2 + lenA (gs.take f)) hle (by show _ ≤ cap; omega) hr
  have hbe : ((volT cap lab gs).behind ((f : Int) + 1)).1.toNat = 2 + lenA (gs.take f) := by rw [volT_behind, if_pos hf]; rfl
  unfold vAppend
  rw [if_neg (by decide), hp, roomP_vol _ _ _ _ hf]
  dsimp only
  rw [if_neg (show ¬ ((0 : Int) ≠ 0) by decide), if_neg (by omega), if_neg (by omega), hbe, hW]
  dsimp only
  rw [if_neg (show ¬ ((0 : Int) ≠ 0) by decide), Int.toNat_natCast]
  have hM : ∃ M1 : Med, M1 = (if rows = [] then volT cap lab gs else ⟨(volT cap lab gs).cap, (volT cap lab gs).cells.take (2 + lenA (gs.take f)) ++ rows.map blkC⟩) := ⟨_, rfl⟩
  obtain ⟨M1, h1⟩ := hM
  rw [← h1]
  have hcap : M1.cap = cap := by rw [h1]; split <;> rfl
  have htk : M1.cells.take (2 + lenA (gs.take f) + rows.length) = blkC lab :: markC :: (aggsC (gs.take f) ++ rows.map blkC) := by
    rw [h1]
    by_cases hn : rows = []
    · subst hn
      rw [if_pos rfl, List.length_nil, Nat.add_zero, volT_take]
      simp
    · rw [if_neg hn, volT_take]
      refine (List.take_of_length_le ?_).trans (by simp)
      simp [lenA]
      omega
  have hlen : 2 + lenA (gs.take f) + rows.length ≤ M1.cells.length := by
    have := congrArg List.length htk
    rw [List.length_take] at this
    simp only [List.length_cons, List.length_append, List.length_map] at this
    unfold lenA at this ⊢
    omega
  rw [dvMark_ok hlen (by rw [hcap]; omega)]
  dsimp only
  rw [if_neg (show ¬ ((0 : Int) ≠ 0) by decide)]
  have hlay : M1.lay (2 + lenA (gs.take f) + rows.length) ⟨2, [], false⟩ = volT cap lab (gs.take f ++ [rows]) := by
    unfold Med.lay
    rw [hcap, htk]
    unfold volT
    rw [aggsC_snoc]
    simp [aggC, markC]
  rw [hlay]
  rfl
end Go.Proofs.Ytclkkhpnnbkfmaa
