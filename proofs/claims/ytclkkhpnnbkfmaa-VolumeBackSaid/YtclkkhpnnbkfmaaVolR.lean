/- What is read of an aggregate, plainly: pieces, and all of it, with blocks that cannot be read. -/
import Derived.Test.YtclkkhpnnbkfmaaVolumeBackPartX
import Derived.Test.YtclkkhpnnbkfmaaVolRead
import Derived.Test.YtclkkhpnnbkfmaaVolScan
import Derived.Test.YtclkkhpnnbkfmaaVolumeBackPartL
namespace Go.Proofs.Ytclkkhpnnbkfmaa
open Go.RowKit

/-- A file's blocks, from q on, some of them bad, and its mark. -/
structure FileAt (M : Med) (file : Int) (q : Nat) (rows : List (List Byte)) (bad : Nat → Bool) : Prop where
  pos : 0 ≤ file
  beh : M.behind file = ((q : Int), 0)
  blk : ∀ k (h : k < rows.length), M.cells[q + k]? = some ⟨1, rows[k], bad k⟩
  mark : M.cells[q + rows.length]? = some markC
variable {M : Med} {file : Int} {q : Nat} {rows : List (List Byte)} {bad : Nat → Bool}
theorem FileAt.len (h : FileAt M file q rows bad) : q + rows.length < M.cells.length := (List.getElem?_eq_some_iff.1 h.mark).1
theorem FileAt.locate (h : FileAt M file q rows bad) {k : Nat} (hk : k ≤ rows.length) (p : Int) : M.locate file (k : Int) p = (0, ((q + k : Nat) : Int)) := by
  have hl := h.len
  have h0 := h.pos
  unfold Med.locate
  rw [if_neg (by omega), h.beh, if_neg (by show ¬ ((0 : Int) ≠ 0 ∨ (M.cells.length : Int) - (q : Int) < (k : Int)); omega)]
  have hn : ((M.cells.drop ((q : Int), (0 : Int)).1.toNat).take (k : Int).toNat).any isMark = false := by
    rw [Bool.eq_false_iff]
    intro hc
    rw [List.any_eq_true] at hc
    obtain ⟨c, hc, hm⟩ := hc
    obtain ⟨j, hj⟩ := List.mem_iff_getElem?.1 hc
    rw [Int.toNat_natCast, List.getElem?_take] at hj
    split at hj
    · rename_i hjk
      rw [List.getElem?_drop] at hj
      have := h.blk j (by omega)
      rw [show ((q : Int), (0 : Int)).1.toNat = q from rfl, this] at hj
      obtain rfl := (Option.some.inj hj).symm
      revert hm
      show decide ((1 : Int) = 2) = true → False
      decide
    · cases hj
  rw [hn, if_neg (by decide)]
  show ((0 : Int), (q : Int) + (k : Int)) = _
  congr 1
theorem FileAt.beyond (h : FileAt M file q rows bad) {k : Nat} (hk : rows.length < k) (p : Int) : M.locate file (k : Int) p = (8, p) := by
  have hl := h.len
  have h0 := h.pos
  unfold Med.locate
  rw [if_neg (by omega), h.beh]
  by_cases hb : (M.cells.length : Int) - (q : Int) < (k : Int)
  · rw [if_pos (.inr hb)]
  · rw [if_neg (by show ¬ ((0 : Int) ≠ 0 ∨ (M.cells.length : Int) - (q : Int) < (k : Int)); omega)]
    have hy : ((M.cells.drop ((q : Int), (0 : Int)).1.toNat).take (k : Int).toNat).any isMark = true := by
      rw [List.any_eq_true]
      refine ⟨markC, List.mem_iff_getElem?.2 ⟨rows.length, ?_⟩, by rfl⟩
      rw [Int.toNat_natCast, List.getElem?_take, if_pos hk, List.getElem?_drop]
      exact h.mark
    rw [hy, if_pos rfl]
theorem FileAt.look (h : FileAt M file q rows bad) {k : Nat} (hk : k < rows.length) : M.look ((q + k : Nat) : Int) = if bad k then ([], 6) else (rows[k], 0) := by
  rw [look_in (h.blk k hk), if_neg (by show ¬ (1 : Int) = 2; decide)]
  by_cases hb : bad k = true
  · rw [if_pos (.inr hb), if_pos hb]
  · rw [if_neg (by show ¬ ((1 : Int) = 3 ∨ bad k = true); rintro (h1 | h1)
                   · revert h1; decide
                   · exact hb h1), if_neg hb]
theorem FileAt.look_mark (h : FileAt M file q rows bad) : M.look ((q + rows.length : Nat) : Int) = ([], 15) := by
  rw [look_in h.mark, if_pos (show markC.kind = 2 from rfl)]
theorem FileAt.block (h : FileAt M file q rows bad) {k : Nat} (hk : k < rows.length) (p : Int) : vBlock M file (k : Int) p = if bad k then ([], 6, ((q + k : Nat) : Int) + 1) else (rows[k], 0, ((q + k : Nat) : Int) + 1) := by
  unfold vBlock
  rw [h.locate (Nat.le_of_lt hk), if_neg (show ¬ ((0 : Int) ≠ 0) by decide)]
  dsimp only
  rw [h.look hk]
  by_cases hb : bad k = true
  · rw [if_pos hb, if_pos hb]
    rfl
  · rw [if_neg hb, if_neg hb]
    rfl
theorem FileAt.block_no (h : FileAt M file q rows bad) {k : Nat} (hk : rows.length ≤ k) (p : Int) : ∃ p', vBlock M file (k : Int) p = ([], 8, p') := by
  unfold vBlock
  by_cases he : k = rows.length
  · subst he
    rw [h.locate (Nat.le_refl _), if_neg (show ¬ ((0 : Int) ≠ 0) by decide)]
    dsimp only
    rw [h.look_mark, if_pos rfl]
    exact ⟨_, rfl⟩
  · rw [h.beyond (by omega), if_pos (show ((8 : Int) ≠ 0) by decide)]
    exact ⟨_, rfl⟩
section
variable {W : List Byte} {sz : Nat}
theorem rowsC_get (W : List Byte) (sz k : Nat) (hk : k < (rowsC W sz).length) : (rowsC W sz)[k] = rowC W sz k := by simp [rowsC]
theorem rowsC_has {sz off : Nat} (hsz : 1 ≤ sz) (h : off < W.length) : off / sz < (rowsC W sz).length := by
  rw [rowsC_len]
  have h1 : (off + sz) / sz = off / sz + 1 := Nat.add_div_right _ hsz
  have h2 : (off + sz) / sz ≤ (W.length + sz - 1) / sz := Nat.div_le_div_right (by omega)
  omega
/-- A piece of a block. -/
theorem rowC_piece {off more : Nat} (hm : off % sz + more ≤ sz) : ((rowC W sz (off / sz)).drop (off % sz)).take more = (W.drop off).take more := by
  unfold rowC
  rw [List.drop_take, List.take_take, List.drop_drop, Nat.min_eq_left (by omega)]
  congr 2
  rw [Nat.mul_comm]
  exact Nat.div_add_mod off sz
theorem rowC_enough {off more : Nat} (hm : off % sz + more ≤ sz) (hmore : 1 ≤ more) : (rowC W sz (off / sz)).length < off % sz + more ↔ W.length < off + more := by
  rw [rowC_len]
  have := Nat.div_add_mod off sz
  rw [Nat.mul_comm] at this
  omega
variable (h : FileAt M file q (rowsC W sz) bad) (hsz : 1 ≤ sz)
include h hsz
/-- All blocks that are wanted can be read. -/
theorem readGo_ok (n : Nat) : ∀ (fuel off : Nat) (out : List Byte) (p : Int), n < out.length + fuel → out.length ≤ n → off + (n - out.length) ≤ W.length → (∀ k, off / sz ≤ k → k * sz < off + (n - out.length) → bad k = false) →
    ∃ p', vReadGo M sz file n fuel off out p = (out ++ (W.drop off).take (n - out.length), 0, p') := by
  intro fuel
  induction fuel with
  | zero => intro off out p h1 h2; omega
  | succ fuel ih =>
    intro off out p h1 h2 h3 h4
    unfold vReadGo
    by_cases hd : n ≤ out.length
    · rw [if_pos hd, show n - out.length = 0 by omega, List.take_zero, List.append_nil]
      exact ⟨p, rfl⟩
    · rw [if_neg hd]
      have hdm := Nat.div_add_mod off sz
      rw [Nat.mul_comm] at hdm
      have hml := Nat.mod_lt off (show 0 < sz by omega)
      have hk := rowsC_has (W := W) (sz := sz) (off := off) hsz (by omega)
      have hb0 := h4 (off / sz) (Nat.le_refl _) (by omega)
      obtain ⟨more, hmo⟩ : ∃ m, m = min (n - out.length) (sz - off % sz) := ⟨_, rfl⟩
      rw [← hmo]
      have hle : off % sz + more ≤ sz := by omega
      rw [h.block hk, hb0, if_neg (show ¬ (false = true) by decide), rowsC_get]
      dsimp only
      rw [if_neg (show ¬ ((0 : Int) ≠ 0) by decide), if_neg (by rw [rowC_enough hle (by omega)]; omega), rowC_piece hle]
      have hlen : (out ++ (W.drop off).take more).length = out.length + more := by rw [List.length_append, List.length_take, List.length_drop]; omega
      obtain ⟨p', hp'⟩ := ih (off + more) (out ++ (W.drop off).take more) (((q + off / sz : Nat) : Int) + 1) (by rw [hlen]; omega) (by rw [hlen]; omega) (by rw [hlen]; omega) (fun k hk1 hk2 => h4 k (Nat.le_trans (Nat.div_le_div_right (by omega)) hk1) (by rw [hlen] at hk2; omega))
      refine ⟨p', ?_⟩
      rw [hp', hlen, List.append_assoc]
      congr 2
      rw [show n - out.length = more + (n - (out.length + more)) by omega, List.take_add, List.drop_drop]
/-- One of them cannot. -/
theorem readGo_bad (n b : Nat) (hb : bad b = true) : ∀ (fuel off : Nat) (out : List Byte) (p : Int), n < out.length + fuel → out.length < n → off + (n - out.length) ≤ W.length → off / sz ≤ b → b * sz < off + (n - out.length) →
    ∃ p', vReadGo M sz file n fuel off out p = ([], 6, p') := by
  intro fuel
  induction fuel with
  | zero => intro off out p h1 h2; omega
  | succ fuel ih =>
    intro off out p h1 h2 h3 h4 h5
    have hdm := Nat.div_add_mod off sz
    rw [Nat.mul_comm] at hdm
    have hml := Nat.mod_lt off (show 0 < sz by omega)
    have hk := rowsC_has (W := W) (sz := sz) (off := off) hsz (by omega)
    unfold vReadGo
    rw [if_neg (show ¬ n ≤ out.length by omega), h.block hk]
    cases hbk : bad (off / sz) with
    | true =>
      rw [if_pos rfl]
      dsimp only
      rw [if_pos (show ((6 : Int) ≠ 0) by decide)]
      exact ⟨_, rfl⟩
    | false =>
      obtain ⟨more, hmo⟩ : ∃ m, m = min (n - out.length) (sz - off % sz) := ⟨_, rfl⟩
      rw [← hmo]
      have hne : off / sz ≠ b := fun he => by rw [he, hb] at hbk; exact absurd hbk (by decide)
      have h6 : (off / sz + 1) * sz ≤ b * sz := Nat.mul_le_mul_right sz (by omega)
      rw [Nat.add_mul, Nat.one_mul] at h6
      have hle : off % sz + more ≤ sz := by omega
      rw [if_neg (show ¬ (false = true) by decide), rowsC_get]
      dsimp only
      rw [if_neg (show ¬ ((0 : Int) ≠ 0) by decide), if_neg (by rw [rowC_enough hle (by omega)]; omega), rowC_piece hle]
      have hlen : (out ++ (W.drop off).take more).length = out.length + more := by rw [List.length_append, List.length_take, List.length_drop]; omega
      have hq : off + more = (off / sz + 1) * sz := by rw [Nat.add_mul, Nat.one_mul]; omega
      exact ih (off + more) _ _ (by rw [hlen]; omega) (by rw [hlen]; omega) (by rw [hlen]; omega) (by rw [hq, Nat.mul_div_cancel _ (by omega)]; omega) (by rw [hlen]; omega)
/-- Beyond the end there is none. -/
theorem readGo_no (hbad : ∀ k, bad k = false) (n : Nat) : ∀ (fuel off : Nat) (out : List Byte) (p : Int), n < out.length + fuel → out.length < n → W.length < off + (n - out.length) →
    ∃ p', vReadGo M sz file n fuel off out p = ([], 8, p') := by
  intro fuel
  induction fuel with
  | zero => intro off out p h1 h2; omega
  | succ fuel ih =>
    intro off out p h1 h2 h3
    have hdm := Nat.div_add_mod off sz
    rw [Nat.mul_comm] at hdm
    have hml := Nat.mod_lt off (show 0 < sz by omega)
    unfold vReadGo
    rw [if_neg (show ¬ n ≤ out.length by omega)]
    by_cases hk : off / sz < (rowsC W sz).length
    · obtain ⟨more, hmo⟩ : ∃ m, m = min (n - out.length) (sz - off % sz) := ⟨_, rfl⟩
      rw [← hmo]
      have hle : off % sz + more ≤ sz := by omega
      rw [h.block hk, hbad, if_neg (show ¬ (false = true) by decide), rowsC_get]
      dsimp only
      rw [if_neg (show ¬ ((0 : Int) ≠ 0) by decide)]
      by_cases hs : W.length < off + more
      · rw [if_pos ((rowC_enough hle (by omega)).2 hs)]
        exact ⟨_, rfl⟩
      · rw [if_neg (by rw [rowC_enough hle (by omega)]; omega), rowC_piece hle]
        have hlen : (out ++ (W.drop off).take more).length = out.length + more := by rw [List.length_append, List.length_take, List.length_drop]; omega
        exact ih (off + more) _ _ (by rw [hlen]; omega) (by rw [hlen]; omega) (by rw [hlen]; omega)
    · obtain ⟨p', hp'⟩ := h.block_no (k := off / sz) (by omega) p
      rw [hp']
      dsimp only
      rw [if_pos (show ((8 : Int) ≠ 0) by decide)]
      exact ⟨_, rfl⟩
omit h hsz
/-- Read: nothing is wanted. -/
theorem vRead_zero (at_ : Int) (sz : Nat) (off : Nat) (hf : 1 ≤ file) : vRead PS.new M at_ sz file (off : Int) 0 = ([], 0, 0) := by
  unfold vRead
  rw [if_neg (by decide), if_neg (by omega), if_pos rfl]
end
theorem vRead_go {at_ : Int} {sz off n : Nat} (hf : 1 ≤ file) (hn : 1 ≤ n ∧ n ≤ 120000) : vRead PS.new M at_ sz file (off : Int) (n : Int) = vReadGo M sz file n (n + 1) off [] 0 := by
  unfold vRead
  rw [if_neg (by decide), if_neg (by omega), if_neg (by omega), Int.toNat_natCast, Int.toNat_natCast]
/-- An aggregate of a volume, as a file. -/
theorem volT_file (cap : Int) (lab : List Byte) {gs : List (List (List Byte))} {f : Nat} {rows : List (List Byte)} (hf : gs[f]? = some rows) : FileAt (volT cap lab gs) ((f : Int) + 1) (2 + lenA (gs.take f)) rows (fun _ => false) := by
  have hlt := (List.getElem?_eq_some_iff.1 hf).1
  have hsp : aggsC gs = aggsC (gs.take f) ++ (aggC rows ++ aggsC (gs.drop (f + 1))) := by
    have h1 : gs = gs.take f ++ (rows :: gs.drop (f + 1)) := by
      have h2 := List.drop_eq_getElem_cons hlt
      rw [List.getElem?_eq_getElem hlt] at hf
      rw [Option.some.inj hf] at h2
      rw [← h2, List.take_append_drop]
    conv => lhs; rw [h1]
    rw [aggsC_app, aggsC_cons]
  have hat : ∀ j, (volT cap lab gs).cells[2 + lenA (gs.take f) + j]? = (aggC rows ++ aggsC (gs.drop (f + 1)))[j]? := fun j => by
    show (blkC lab :: markC :: aggsC gs)[2 + lenA (gs.take f) + j]? = _
    rw [show 2 + lenA (gs.take f) + j = lenA (gs.take f) + j + 1 + 1 by omega, List.getElem?_cons_succ, List.getElem?_cons_succ, hsp, List.getElem?_append_right (by unfold lenA; omega)]
    congr 1
    unfold lenA
    omega
  refine ⟨by omega, ?_, fun k hk => ?_, ?_⟩
  · rw [volT_behind, if_pos (by omega)]
  · rw [hat, List.getElem?_append_left (by rw [aggC_len]; omega)]
    unfold aggC
    rw [List.getElem?_append_left (by rw [List.length_map]; exact hk), List.getElem?_map, List.getElem?_eq_getElem hk]
    rfl
  · rw [hat, List.getElem?_append_left (by rw [aggC_len]; omega)]
    unfold aggC
    rw [List.getElem?_append_right (by rw [List.length_map]; exact Nat.le_refl _), List.length_map, Nat.sub_self]
    rfl
theorem vReadGo_good {sz : Nat} {n : Nat} : ∀ (fuel off : Nat) (out : List Byte) (at_ : Int), DGood M at_ → DGood M (vReadGo M sz file n fuel off out at_).2.2 := by
  intro fuel
  induction fuel with
  | zero => intro off out at_ hg; exact hg
  | succ fuel ih =>
    intro off out at_ hg
    have h1 := (vBlock_good (file := file) (k := ((off / sz : Nat) : Int)) hg).1
    unfold vReadGo
    split
    · exact hg
    · split
      · exact h1
      · split
        · exact h1
        · exact ih _ _ _ h1
/-- Behind Read the place is one of the tape's. -/
theorem vRead_good {s : PS} {at_ : Int} {sz : Nat} {off n : Int} (hg : DGood M at_) : DGood M (vRead s M at_ sz file off n).2.2 := by
  have h0 : DGood M 0 := ⟨hg.ok, 0, rfl, Nat.zero_le _⟩
  unfold vRead
  split
  · exact hg
  · split
    · exact h0
    · split
      · exact h0
      · exact vReadGo_good _ _ _ _ h0
/-- Behind the last aggregate there is none. -/
theorem vRead_behind {cap : Int} {lab : List Byte} {gs : List (List (List Byte))} {at_ : Int} {sz : Nat} (hsz : 1 ≤ sz) {file : Int} (hf : file = (gs.length : Int) + 1) : ∃ p, vRead PS.new (volT cap lab gs) at_ sz file 0 1 = ([], 8, p) := by
  subst hf
  have := vRead_go (M := volT cap lab gs) (file := (gs.length : Int) + 1) (at_ := at_) (sz := sz) (off := 0) (n := 1) (by omega) (by decide)
  rw [show ((0 : Nat) : Int) = 0 from rfl, show ((1 : Nat) : Int) = 1 from rfl] at this
  rw [this]
  have hb : vBlock (volT cap lab gs) ((gs.length : Int) + 1) ((0 / sz : Nat) : Int) 0 = ([], 8, ((2 + lenA gs : Nat) : Int)) := by
    have hbe : (volT cap lab gs).behind ((gs.length : Int) + 1) = (((2 + lenA gs : Nat) : Int), 0) := by rw [volT_behind, if_pos (Nat.le_refl _), List.take_length]
    have hl : (volT cap lab gs).locate ((gs.length : Int) + 1) ((0 / sz : Nat) : Int) 0 = (0, ((2 + lenA gs : Nat) : Int)) := by
      rw [Nat.zero_div, show ((0 : Nat) : Int) = 0 from rfl, locate_behind (by omega) (by rw [hbe]), hbe]
    have hk : (volT cap lab gs).look ((2 + lenA gs : Nat) : Int) = ([], 8) := by
      unfold Med.look
      rw [if_pos (.inr (by rw [volT_len]; exact Int.le_refl _))]
    unfold vBlock
    rw [hl, if_neg (show ¬ ((0 : Int) ≠ 0) by decide)]
    dsimp only
    rw [hk]
    rfl
  unfold vReadGo
  rw [if_neg (by decide), hb]
  exact ⟨_, rfl⟩
/-- A piece, or why not. -/
def pieceP (W : List Byte) (off n : Nat) : List Byte × Int := if n = 0 then ([], 0) else if off + n ≤ W.length then ((W.drop off).take n, 0) else ([], 8)
/-- What is read of an aggregate that can be read. -/
theorem vRead_vol {cap : Int} {lab : List Byte} {gs : List (List (List Byte))} {f : Nat} {W : List Byte} {sz off n : Nat} {at_ : Int} (hf : gs[f]? = some (rowsC W sz)) (hsz : 1 ≤ sz) (hn : n ≤ 120000) :
    ∃ p, vRead PS.new (volT cap lab gs) at_ sz ((f : Int) + 1) (off : Int) (n : Int) = ((pieceP W off n).1, (pieceP W off n).2, p) := by
  unfold pieceP
  by_cases h0 : n = 0
  · subst h0
    rw [if_pos rfl]
    exact ⟨0, vRead_zero at_ sz off (by omega)⟩
  · rw [if_neg h0, vRead_go (by omega) (by omega)]
    have h := volT_file cap lab hf
    by_cases hw : off + n ≤ W.length
    · rw [if_pos hw]
      obtain ⟨p, hp⟩ := readGo_ok h hsz n (n + 1) off [] 0 (by simp) (Nat.zero_le _) (by simpa using hw) (fun _ _ _ => rfl)
      exact ⟨p, by rw [hp]; simp⟩
    · rw [if_neg hw]
      obtain ⟨p, hp⟩ := readGo_no h hsz (fun _ => rfl) n (n + 1) off [] 0 (by simp) (by simp; omega) (by simp; omega)
      exact ⟨p, hp⟩
end Go.Proofs.Ytclkkhpnnbkfmaa
