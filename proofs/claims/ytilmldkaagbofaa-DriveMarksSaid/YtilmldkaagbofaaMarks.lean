/- Tapes of files, each closed by a mark: plain. -/
import Derived.Test.YtilmldkaagbofaaDrvKeep
namespace Go.Proofs.Ytilmldkaagbofaa

def blkC (i j : Nat) : CellP := ⟨1, [BitVec.ofNat 8 i, BitVec.ofNat 8 j], false⟩
def mrkC : CellP := ⟨2, [], false⟩
def blksC (i k : Nat) : List CellP := (List.range k).map (blkC i)
def fileC (i k : Nat) : List CellP := blksC i k ++ [mrkC]
def filesC : Nat → List Nat → List CellP
  | _, [] => []
  | i, k :: l => fileC i k ++ filesC (i + 1) l
theorem blksC_len (i k : Nat) : (blksC i k).length = k := by simp [blksC]
theorem blksC_succ (i k : Nat) : blksC i (k + 1) = blksC i k ++ [blkC i k] := by simp [blksC, List.range_succ]
theorem fileC_len (i k : Nat) : (fileC i k).length = k + 1 := by simp [fileC, blksC_len]
theorem filesC_append (l m : List Nat) : ∀ i, filesC i (l ++ m) = filesC i l ++ filesC (i + l.length) m := by
  induction l with
  | nil => intro i; rfl
  | cons k l ih => intro i; simp only [List.cons_append, filesC, ih, List.append_assoc, List.length_cons]; rw [show i + 1 + l.length = i + (l.length + 1) by omega]
theorem filesC_snoc {l : List Nat} {i : Nat} (h : i < l.length) : filesC 0 (l.take (i + 1)) = filesC 0 (l.take i) ++ (blksC i l[i] ++ [mrkC]) := by
  rw [List.take_succ_eq_append_getElem h, filesC_append, List.length_take, Nat.min_eq_left (by omega), Nat.zero_add]
  simp [filesC, fileC]
theorem filesC_len_le (l : List Nat) (h : ∀ k ∈ l, k ≤ 9) : ∀ i, (filesC i l).length ≤ 10 * l.length := by
  induction l with
  | nil => intro i; exact Nat.le_refl _
  | cons k l ih =>
    intro i
    simp only [filesC, List.length_append, fileC_len, List.length_cons]
    have h1 := ih (fun k hk => h k (List.mem_cons_of_mem _ hk)) (i + 1)
    have h2 := h k (List.mem_cons_self ..)
    omega
theorem blksC_blk {i k : Nat} {c : CellP} (h : c ∈ blksC i k) : c.kind = 1 ∧ c.data.length = 2 ∧ c.bad = false := by
  unfold blksC at h
  obtain ⟨j, _, rfl⟩ := List.mem_map.1 h
  exact ⟨rfl, rfl, rfl⟩
theorem filesC_cell (l : List Nat) : ∀ i, ∀ c ∈ filesC i l, (c.kind = 1 ∧ c.data.length = 2 ∨ c.kind = 2 ∧ c.data.length = 0) ∧ c.bad = false := by
  induction l with
  | nil => intro i c h; simp [filesC] at h
  | cons k l ih =>
    intro i c h
    simp only [filesC, fileC, List.mem_append, List.mem_singleton] at h
    rcases h with (h | rfl) | h
    · have := blksC_blk h; exact ⟨.inl ⟨this.1, this.2.1⟩, this.2.2⟩
    · exact ⟨.inr ⟨rfl, rfl⟩, rfl⟩
    · exact ih _ c h
theorem marks_blks (i k : Nat) : marks (blksC i k) = 0 := by
  unfold marks
  rw [List.countP_eq_zero]
  intro c hc
  simp [(blksC_blk hc).1]
theorem marks_files (l : List Nat) : ∀ i, marks (filesC i l) = l.length := by
  induction l with
  | nil => intro i; rfl
  | cons k l ih =>
    intro i
    have h1 := ih (i + 1)
    have h2 := marks_blks i k
    unfold marks at h1 h2 ⊢
    simp only [filesC, fileC, List.countP_append, h1, h2, List.length_cons]
    simp [mrkC]
    omega
theorem behind_blks (b : List CellP) (hb : ∀ c ∈ b, c.kind = 1) (cs : List CellP) : ∀ (i : Nat) (n : Int), behind (b ++ cs) i n = behind cs (i + b.length) n := by
  induction b with
  | nil => intro i n; rfl
  | cons c b ih =>
    intro i n
    rw [List.cons_append, behind, if_neg (by rw [hb c (List.mem_cons_self ..)]; decide), ih (fun c hc => hb c (List.mem_cons_of_mem _ hc)), List.length_cons]
    rw [show i + 1 + b.length = i + (b.length + 1) by omega]
theorem behind_files (l : List Nat) : ∀ (i o : Nat) (n : Nat), 1 ≤ n → n ≤ l.length → behind (filesC i l) o n = (((o + (filesC i (l.take n)).length : Nat) : Int), 0) := by
  induction l with
  | nil => intro i o n h1 h2; simp at h2; omega
  | cons k l ih =>
    intro i o n h1 h2
    simp only [filesC, fileC, List.append_assoc]
    rw [behind_blks _ (fun c hc => (blksC_blk hc).1), List.cons_append, behind, if_pos (show mrkC.kind = 2 from rfl), blksC_len]
    by_cases hn : n = 1
    · subst hn
      rw [if_pos (by decide)]
      simp [filesC, fileC, blksC_len]
      omega
    · rw [if_neg (by omega), List.nil_append, show (n : Int) - 1 = ((n - 1 : Nat) : Int) by omega, ih _ _ _ (by omega) (by simp at h2; omega)]
      obtain ⟨m, rfl⟩ : ∃ m, n = m + 1 := ⟨n - 1, by omega⟩
      rw [List.take_succ_cons]
      simp only [filesC, fileC, List.length_append, blksC_len, List.length_singleton, Nat.add_sub_cancel]
      congr 2
      omega
def offC (l : List Nat) (n : Nat) : Nat := (filesC 0 (l.take n)).length
theorem filesC_split {l : List Nat} {n : Nat} (h : n < l.length) : filesC 0 l = filesC 0 (l.take n) ++ (blksC n l[n] ++ (mrkC :: filesC (n + 1) (l.drop (n + 1)))) := by
  conv => lhs; rw [← List.take_append_drop n l]
  rw [filesC_append, List.length_take, Nat.min_eq_left (by omega), Nat.zero_add, List.drop_eq_getElem_cons h]
  simp [filesC, fileC]
theorem locate_files {l : List Nat} {n b : Nat} (hn : n < l.length) (c q : Int) : (Med.mk c (filesC 0 l)).locate (n : Int) (b : Int) q = if b ≤ l[n] then (0, ((offC l n + b : Nat) : Int)) else (8, q) := by
  have hb : (Med.mk c (filesC 0 l)).behind (n : Int) = (((offC l n : Nat) : Int), 0) := by
    unfold Med.behind
    by_cases h0 : n = 0
    · subst h0; rw [if_pos (by decide)]; simp [offC, filesC]
    · rw [if_neg (by omega), behind_files l 0 0 n (by omega) (by omega), Nat.zero_add]; rfl
  have hsp := filesC_split hn
  have hlen : (filesC 0 l).length = offC l n + (l[n] + 1 + (filesC (n + 1) (l.drop (n + 1))).length) := by
    rw [hsp]; simp only [List.length_append, blksC_len, List.length_cons, offC]; omega
  have hdr : (filesC 0 l).drop (offC l n) = blksC n l[n] ++ (mrkC :: filesC (n + 1) (l.drop (n + 1))) := by
    rw [hsp]; exact List.drop_left' rfl
  unfold Med.locate
  rw [if_neg (by omega), hb]
  dsimp only
  rw [Int.toNat_natCast, Int.toNat_natCast, hdr]
  by_cases hbk : b ≤ l[n]
  · rw [if_pos hbk, if_neg (by rw [hlen]; simp; omega), if_neg]
    · simp
    · rw [List.take_append_of_le_length (by rw [blksC_len]; exact hbk), Bool.not_eq_true, List.any_eq_false]
      intro y hy
      simp [isMark, (blksC_blk (List.mem_of_mem_take hy)).1]
  · rw [if_neg hbk]
    split
    · rfl
    · rw [if_pos]
      rw [List.any_eq_true]
      refine ⟨mrkC, ?_, by rfl⟩
      rw [List.take_append, List.mem_append]
      right
      obtain ⟨m, hm⟩ : ∃ m, b - (blksC n l[n]).length = m + 1 := ⟨b - l[n] - 1, by rw [blksC_len]; omega⟩
      rw [hm, List.take_succ_cons]
      exact List.mem_cons_self ..
theorem look_files {l : List Nat} {n b : Nat} (hn : n < l.length) (hb : b ≤ l[n]) (c : Int) : (Med.mk c (filesC 0 l)).look ((offC l n + b : Nat) : Int) = if b = l[n] then ([], 15) else ([BitVec.ofNat 8 n, BitVec.ofNat 8 b], 0) := by
  have hg : (filesC 0 l)[offC l n + b]? = some (if b = l[n] then mrkC else blkC n b) := by
    rw [filesC_split hn, List.getElem?_append_right (by unfold offC; omega), show offC l n + b - (filesC 0 (l.take n)).length = b by unfold offC; omega]
    by_cases h : b = l[n]
    · rw [if_pos h, List.getElem?_append_right (by rw [blksC_len]; omega), blksC_len, h, Nat.sub_self]; rfl
    · rw [if_neg h, List.getElem?_append_left (by rw [blksC_len]; omega)]
      unfold blksC
      rw [List.getElem?_map, List.getElem?_range (by omega)]
      rfl
  have hlt := (List.getElem?_eq_some_iff.1 hg).1
  unfold Med.look
  rw [if_neg (by rintro (h | h)
                 · omega
                 · have h : ((filesC 0 l).length : Int) ≤ ((offC l n + b : Nat) : Int) := h
                   omega), Int.toNat_natCast]
  show (match (filesC 0 l)[offC l n + b]? with | Option.none => _ | some c => _) = _
  rw [hg]
  by_cases h : b = l[n]
  · rw [if_pos h, if_pos h]; rfl
  · rw [if_neg h, if_neg h]; rfl
theorem files_ok {l : List Nat} (h : ∀ k ∈ l, k ≤ 9) (hl : l.length ≤ 12) : (Med.mk 200 (filesC 0 l)).ok = true := by
  rw [Med.ok_iff]
  have := filesC_len_le l h 0
  refine ⟨⟨(by decide : (1 : Int) ≤ 200), (by decide : (200 : Int) ≤ 400), by show ((filesC 0 l).length : Int) ≤ 200; omega⟩, fun c hc => ?_⟩
  have hc := filesC_cell l 0 c hc
  unfold CellP.right rightC
  rw [decide_eq_true_eq]
  rcases hc.1 with h | h
  · exact .inl ⟨h.1, by omega, by omega⟩
  · exact .inr (.inl h)
theorem lay_end {m : Med} {p : Nat} (h : m.cells.length = p) (c : CellP) : m.lay p c = ⟨m.cap, m.cells ++ [c]⟩ := by
  unfold Med.lay
  rw [← h, List.take_length]
end Go.Proofs.Ytilmldkaagbofaa
