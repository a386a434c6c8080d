/- Several texts of this claim, one behind the other: AggrReadP, AggrReadQ, VolL. -/
import Derived.Test.YtclkkhpnnbkfmaaFramePlain2
import Derived.Test.YtclkkhpnnbkfmaaVolumeBackPartS
import Derived.Test.YtclkkhpnnbkfmaaVolumeBackPartV
import Derived.Test.YtclkkhpnnbkfmaaVolumeBackPartW
/- What aggr.Read tells: plain. -/
namespace Go.Proofs.Ytclkkhpnnbkfmaa

def rightA (hd tl : Rec) (n : Nat) : Bool := decide (1 ≤ n ∧ n ≤ 64 ∧ hd.seq = n ∧ tl.seq = n ∧ hd.d.length + tl.d.length = 0)
def readGo (b : List Byte) (hd : Rec) : Nat → Nat → List Rec → List Int → List Rec × List Int × Bool
  | 0, _, l, o => (l, o, false)
  | f + 1, p, l, o =>
    if p < b.length then
      if (readF b p).2.2 ≠ 0 ∨ (readF b p).1.kind = 4 then (l, o, false)
      else if (readF b p).1.kind = 5 then (l, o, decide ((readF b p).2.1 = (b.length : Int)) && rightA hd (readF b p).1 l.length)
      else readGo b hd f (readF b p).2.1.toNat (l ++ [(readF b p).1]) (o ++ [(p : Int)])
    else (l, o, false)
def readA (b : List Byte) : List Rec × List Int × Bool :=
  if (readF b 0).2.2 ≠ 0 ∨ (readF b 0).1.kind ≠ 4 then ([], [], false) else readGo b (readF b 0).1 b.length (readF b 0).2.1.toNat [] []
end Go.Proofs.Ytclkkhpnnbkfmaa

/- What is read of an aggregate's bytes, with anything behind them, or cut off. -/
namespace Go.Proofs.Ytclkkhpnnbkfmaa

def offsT (l : List Rec) (m : Nat) : List Int := (List.range m).map fun k => ((offP l k : Nat) : Int)
theorem offsT_succ (l : List Rec) (m : Nat) : offsT l (m + 1) = offsT l m ++ [((offP l m : Nat) : Int)] := by simp [offsT, List.range_succ]
theorem offsT_all (l : List Rec) : offsT l l.length = offsP l := rfl
theorem readGo_steps {b : List Byte} {hd : Rec} {l : List Rec} : ∀ (m f : Nat), m ≤ l.length →
    (∀ j (hj : j < l.length), j < m → offP l j < b.length ∧ readF b ((offP l j : Nat) : Int) = (l[j], ((offP l (j + 1) : Nat) : Int), 0) ∧ l[j].kind ≠ 4 ∧ l[j].kind ≠ 5) →
    readGo b hd (m + f) (offP l 0) [] [] = readGo b hd f (offP l m) (l.take m) (offsT l m) := by
  intro m
  induction m with
  | zero => intro f _ _; simp [offsT]
  | succ m ih =>
    intro f hm h
    rw [show m + 1 + f = m + (f + 1) by omega, ih (f + 1) (by omega) (fun j hj hjm => h j hj (by omega))]
    obtain ⟨h1, h2, h3, h4⟩ := h m (by omega) (by omega)
    rw [readGo, if_pos h1, h2]
    dsimp only
    rw [if_neg (by rintro (h | h)
                   · exact h rfl
                   · exact h3 h), if_neg h4, Int.toNat_natCast, List.take_succ_eq_append_getElem (by omega), offsT_succ]
/-- Of an aggregate. -/
structure AggrOk (l : List Rec) : Prop where
  ok : ∀ r ∈ l, r.e = 0 ∧ r.kind ≠ 4 ∧ r.kind ≠ 5
  few : 1 ≤ l.length ∧ l.length ≤ 64
theorem aggrOk_of {size : Int} {l : List Rec} (h : (wholeP size l).2 = 0) : AggrOk l := by
  obtain ⟨_, h2, h3, h4, _⟩ := wholeP_ok h
  refine ⟨fun r hr => ⟨joinE_ok.1 h3 r (List.mem_cons_of_mem _ (List.mem_append_left _ hr)), ?_⟩, h2⟩
  unfold bareP at h4
  rw [List.any_eq_false] at h4
  have := h4 r hr
  unfold bareK at this
  simp only [decide_eq_true_eq, not_or] at this
  exact this
def headR (l : List Rec) : Rec := ⟨4, l.length, []⟩
def tailR (l : List Rec) : Rec := ⟨5, l.length, []⟩
theorem AggrOk.head {l : List Rec} (h : AggrOk l) : (headR l).e = 0 := recE_ok.2 (by have := h.few; simp [headR]; omega)
theorem AggrOk.tail {l : List Rec} (h : AggrOk l) : (tailR l).e = 0 := recE_ok.2 (by have := h.few; simp [tailR]; omega)
theorem aggrL_split (l : List Rec) {j : Nat} (hj : j < l.length) : joinB (aggrL l) = (frameOf (headR l) ++ joinB (l.take j)) ++ (frameOf l[j] ++ (joinB (l.drop (j + 1)) ++ frameOf (tailR l))) := by
  have h : l = l.take j ++ (l[j] :: l.drop (j + 1)) := by rw [← List.drop_eq_getElem_cons hj, List.take_append_drop]
  unfold aggrL
  rw [joinB_cons, joinB_snoc]
  conv => lhs; rw [h]
  rw [joinB_append, joinB_cons]
  simp only [List.append_assoc, headR, tailR, ← h]
theorem aggrL_tail (l : List Rec) : joinB (aggrL l) = (frameOf (headR l) ++ joinB l) ++ frameOf (tailR l) := by
  unfold aggrL
  rw [joinB_cons, joinB_snoc, List.append_assoc]
  rfl
theorem pre_len (l : List Rec) (j : Nat) : (frameOf (headR l) ++ joinB (l.take j)).length = offP l j := by
  rw [List.length_append, frameOf_length]
  rfl
theorem pre_all (l : List Rec) : (frameOf (headR l) ++ joinB l).length = offP l l.length := by
  rw [← pre_len, List.take_length]
theorem aggr_len (l : List Rec) : (joinB (aggrL l)).length = offP l l.length + 13 := by
  rw [aggrL_tail, List.length_append, pre_all, frameOf_length]
  rfl
theorem offP_mono (l : List Rec) {j k : Nat} (h : j ≤ k) : offP l j ≤ offP l k := by
  unfold offP
  have : l.take k = l.take j ++ (l.take k).drop j := by
    conv => lhs; rw [← List.take_append_drop j (l.take k)]
    rw [List.take_take, Nat.min_eq_left h]
  rw [this, joinB_append, List.length_append]
  omega
theorem offP_ge (l : List Rec) (m : Nat) (hm : m ≤ l.length) : 13 + 13 * m ≤ offP l m := by
  induction m with
  | zero => simp [offP]
  | succ m ih =>
    rw [offP_succ (by omega)]
    have := ih (by omega)
    omega
theorem readF_at {b pre post : List Byte} {r : Rec} (hb : b = pre ++ (frameOf r ++ post)) (h : r.e = 0) {p : Nat} (hp : pre.length = p) : readF b (p : Int) = (r, ((p + 13 + r.d.length : Nat) : Int), 0) := by
  subst hb hp
  exact readF_frame pre post r h
theorem take_mid {α : Type} (a b c : List α) (k : Nat) (h : a.length + b.length ≤ k) : (a ++ (b ++ c)).take k = a ++ (b ++ c.take (k - a.length - b.length)) := by
  rw [List.take_append, List.take_of_length_le (by omega), List.take_append, List.take_of_length_le (show b.length ≤ k - a.length by omega)]
/-- A record of an aggregate, read where it stands. -/
theorem readF_rec {l : List Rec} (h : AggrOk l) {j : Nat} (hj : j < l.length) (more : List Byte) : readF (joinB (aggrL l) ++ more) ((offP l j : Nat) : Int) = (l[j], ((offP l (j + 1) : Nat) : Int), 0) := by
  rw [readF_at (b := joinB (aggrL l) ++ more) (post := joinB (l.drop (j + 1)) ++ frameOf (tailR l) ++ more) (by rw [aggrL_split l hj]; simp only [List.append_assoc]) (h.ok _ (List.getElem_mem hj)).1 (pre_len l j), offP_succ hj, Nat.add_assoc]
theorem rightA_ok {l : List Rec} (h : AggrOk l) : rightA (headR l) (tailR l) l.length = true := by
  unfold rightA
  rw [decide_eq_true_eq]
  exact ⟨h.few.1, h.few.2, rfl, rfl, rfl⟩
/-- With anything behind it. -/
theorem readA_more {l : List Rec} (h : AggrOk l) (more : List Byte) : readA (joinB (aggrL l) ++ more) = (l, offsP l, decide (more = [])) := by
  have hlen : (joinB (aggrL l) ++ more).length = offP l l.length + 13 + more.length := by rw [List.length_append, aggr_len]
  have h0 : readF (joinB (aggrL l) ++ more) 0 = (headR l, 13, 0) := by
    have := readF_frame [] (joinB (l ++ [tailR l]) ++ more) (headR l) h.head
    simp only [List.nil_append, List.length_nil] at this
    unfold aggrL
    rw [joinB_cons, List.append_assoc]
    exact this
  have hg := offP_ge l l.length (Nat.le_refl _)
  unfold readA
  rw [h0]
  dsimp only
  rw [if_neg (by rintro (h | h)
                 · exact h rfl
                 · exact h rfl)]
  obtain ⟨f, hf⟩ : ∃ f, (joinB (aggrL l) ++ more).length = l.length + (f + 1) := ⟨(joinB (aggrL l) ++ more).length - l.length - 1, by omega⟩
  have hs := readGo_steps (b := joinB (aggrL l) ++ more) (hd := headR l) (l := l) l.length (f + 1) (Nat.le_refl _) (fun j hj _ => by
    have h1 := offP_mono l (show j ≤ l.length by omega)
    exact ⟨by rw [hlen]; omega, readF_rec h hj more, (h.ok _ (List.getElem_mem hj)).2⟩)
  have ht : readF (joinB (aggrL l) ++ more) ((offP l l.length : Nat) : Int) = (tailR l, ((offP l l.length + 13 + 0 : Nat) : Int), 0) := by
    rw [aggrL_tail, ← pre_all, List.append_assoc]
    exact readF_frame _ _ _ h.tail
  conv => lhs; rw [hf]
  have hoff : (13 : Int).toNat = offP l 0 := rfl
  rw [hoff, hs, readGo, if_pos (by rw [hlen]; omega), ht]
  dsimp only
  rw [if_neg (by rintro (h | h)
                 · exact h rfl
                 · exact absurd (show (5 : Int) = 4 from h) (by decide)), if_pos (show (tailR l).kind = 5 from rfl), List.take_length, offsT_all, rightA_ok h, Bool.and_true, hlen]
  congr 3
  simp only [eq_iff_iff]
  constructor
  · intro hx
    refine List.eq_nil_of_length_eq_zero ?_
    omega
  · rintro rfl
    simp
/-- A beginning of it. -/
theorem readA_cut {l : List Rec} (h : AggrOk l) {k m : Nat} (hk : k < (joinB (aggrL l)).length) (hm : m ≤ l.length) (h1 : m = 0 ∨ offP l m ≤ k) (h2 : ∀ j, j < l.length → offP l (j + 1) ≤ k → j < m) : readA ((joinB (aggrL l)).take k) = (l.take m, offsT l m, false) := by
  rw [aggr_len] at hk
  have hlen : ((joinB (aggrL l)).take k).length = k := by rw [List.length_take, aggr_len]; omega
  by_cases hk13 : k < 13
  · obtain rfl : m = 0 := by
      rcases h1 with h | h
      · exact h
      · have := offP_ge l m hm
        omega
    have h0 : readF ((joinB (aggrL l)).take k) 0 = (Rec.zero, 0, 3) := by
      unfold readF
      rw [if_neg (by rw [hlen]; omega), if_pos (by rw [hlen]; simp; omega)]
    unfold readA
    rw [h0, if_pos (.inl (by decide))]
    rfl
  · have hmk : offP l m ≤ k := by
      rcases h1 with rfl | h
      · show 13 + (joinB (l.take 0)).length ≤ k
        rw [List.take_zero]
        show 13 + 0 ≤ k
        omega
      · exact h
    have h0 : readF ((joinB (aggrL l)).take k) 0 = (headR l, 13, 0) := by
      have := readF_frame [] ((joinB (l ++ [tailR l])).take (k - 13)) (headR l) h.head
      simp only [List.nil_append, List.length_nil] at this
      unfold aggrL
      rw [joinB_cons, List.take_append, List.take_of_length_le (by rw [frameOf_length]; simp; omega), frameOf_length]
      exact this
    have hg := offP_ge l m hm
    unfold readA
    rw [h0]
    dsimp only
    rw [if_neg (by rintro (h | h)
                   · exact h rfl
                   · exact h rfl)]
    obtain ⟨f, hf⟩ : ∃ f, ((joinB (aggrL l)).take k).length = m + (f + 1) := ⟨k - m - 1, by rw [hlen]; omega⟩
    have hs := readGo_steps (b := (joinB (aggrL l)).take k) (hd := headR l) (l := l) m (f + 1) hm (fun j hj hjm => by
      have h1 := offP_mono l (show j + 1 ≤ m by omega)
      have h2 := offP_succ hj
      refine ⟨by rw [hlen]; omega, ?_, (h.ok _ (List.getElem_mem hj)).2⟩
      rw [readF_at (b := (joinB (aggrL l)).take k) (by rw [aggrL_split l hj]; exact take_mid _ _ _ k (by rw [pre_len, frameOf_length]; omega)) (h.ok _ (List.getElem_mem hj)).1 (pre_len l j), h2, Nat.add_assoc])
    conv => lhs; rw [hf]
    have hoff : (13 : Int).toNat = offP l 0 := rfl
    rw [hoff, hs, readGo]
    by_cases he : offP l m < k
    · rw [if_pos (by rw [hlen]; exact he)]
      have hr : ∃ r : Rec, r.e = 0 ∧ ∃ pre post, joinB (aggrL l) = pre ++ (frameOf r ++ post) ∧ pre.length = offP l m ∧ k < offP l m + (13 + r.d.length) := by
        by_cases hml : m < l.length
        · refine ⟨l[m], (h.ok _ (List.getElem_mem hml)).1, _, _, aggrL_split l hml, pre_len l m, ?_⟩
          have h3 := offP_succ hml
          by_cases hc : offP l (m + 1) ≤ k
          · exact absurd (h2 m hml hc) (by omega)
          · omega
        · obtain rfl : m = l.length := by omega
          refine ⟨tailR l, h.tail, _, [], by rw [List.append_nil]; exact aggrL_tail l, pre_all l, ?_⟩
          show k < offP l l.length + (13 + 0)
          omega
      obtain ⟨r, hre, pre, post, hall, hpl, hkr⟩ := hr
      have hrd : readF ((joinB (aggrL l)).take k) ((offP l m : Nat) : Int) = (Rec.zero, 0, 3) := by
        rw [hall, List.take_append, List.take_of_length_le (by omega), List.take_append_of_le_length (by rw [frameOf_length]; omega), ← hpl]
        exact readF_cut pre r (k - pre.length) hre (by omega)
      rw [hrd, if_pos (.inl (by decide))]
    · rw [if_neg (by rw [hlen]; exact he)]
end Go.Proofs.Ytclkkhpnnbkfmaa

/- Plain facts for the laws of volumes. -/
namespace Go.Proofs.Ytclkkhpnnbkfmaa
open Go.RowKit

/-- What Pack makes, where there is no error. -/
structure PackOk (size : Int) (l : List Rec) (rows : List (List Byte)) (of : List Int) : Prop where
  sz : 32 ≤ size ∧ size ≤ 256
  len : ∀ r ∈ rows, 1 ≤ r.length ∧ r.length ≤ 256
  ne : 1 ≤ rows.length
  eq : rows = rowsC (joinB (aggrL l)) size.toNat
  flat : rows.flatten = joinB (aggrL l)
  of : of = offsP l
  ok : AggrOk l
theorem rowC_len (l : List Byte) (n k : Nat) : (rowC l n k).length = min n (l.length - k * n) := by unfold rowC; rw [List.length_take, List.length_drop]
theorem joinB_aggr_ge (l : List Rec) : 26 ≤ (joinB (aggrL l)).length := by
  rw [aggr_len]
  have := offP_ge l 0 (Nat.zero_le _)
  have h2 := offP_mono l (Nat.zero_le l.length)
  omega
theorem packOk {size : Int} {l : List Rec} {rows : List (List Byte)} {of : List Int} (h : packP size l = (rows, of, 0)) : PackOk size l rows of := by
  obtain ⟨hE, -, h0⟩ := packP_no h
  obtain ⟨rfl, rfl⟩ := h0 rfl
  obtain ⟨hs, hn, hj, hb, hw⟩ := wholeP_ok hE.symm
  rw [hw]
  obtain ⟨k, hk⟩ := Int.eq_ofNat_of_zero_le (show 0 ≤ size by omega)
  subst hk
  have hge := joinB_aggr_ge l
  have hr : ∀ r ∈ rowsC (joinB (aggrL l)) k, 1 ≤ r.length ∧ r.length ≤ 256 := by
    intro r hr
    unfold rowsC at hr
    obtain ⟨j, hj, rfl⟩ := List.mem_map.1 hr
    rw [List.mem_range] at hj
    rw [rowC_len]
    have h1 : (j + 1) * k ≤ (joinB (aggrL l)).length + k - 1 := Nat.le_trans (Nat.mul_le_mul_right k hj) (Nat.div_mul_le_self _ _)
    rw [Nat.add_mul, Nat.one_mul] at h1
    omega
  refine ⟨hs, by rw [Int.toNat_natCast]; exact hr, ?_, rfl, ?_, rfl, aggrOk_of hE.symm⟩
  · rw [rowsC_len, Int.toNat_natCast]
    exact (Nat.one_le_div_iff (by omega)).2 (by omega)
  · rw [Int.toNat_natCast, rowsC_flat _ (by omega)]
theorem joinE_12 (l : List Rec) : joinE l = 0 ∨ joinE l = 1 ∨ joinE l = 2 := by
  induction l with
  | nil => exact .inl rfl
  | cons r l ih =>
    unfold joinE
    split
    · exact ih
    · rename_i h
      unfold Rec.e recE at h ⊢
      split at h
      · rename_i h1; rw [if_pos h1]; exact .inr (.inl rfl)
      · rename_i h1
        rw [if_neg h1]
        split at h
        · rename_i h2; rw [if_pos h2]; exact .inr (.inr rfl)
        · exact absurd rfl h
theorem packP_12 {size : Int} {l : List Rec} {rows : List (List Byte)} {of : List Int} {E : Int} (h : packP size l = (rows, of, E)) : E = 0 ∨ E = 1 ∨ E = 2 := by
  obtain ⟨hE, -, -⟩ := packP_no h
  rw [hE]
  unfold wholeP
  split
  · exact .inr (.inl rfl)
  split
  · exact .inr (.inr rfl)
  split
  · exact joinE_12 _
  split
  · exact .inr (.inl rfl)
  · exact .inl rfl
/-- A volume that is right. -/
structure VolOk (cap : Int) (lab : List Byte) (gs : List (List (List Byte))) : Prop where
  capOk : 1 ≤ cap ∧ cap ≤ 400
  fit : ((2 + lenA gs : Nat) : Int) ≤ cap
  labOk : 1 ≤ lab.length ∧ lab.length ≤ 256
  rows : ∀ g ∈ gs, 1 ≤ g.length ∧ ∀ r ∈ g, 1 ≤ r.length ∧ r.length ≤ 256
theorem VolOk.ok {cap : Int} {lab : List Byte} {gs : List (List (List Byte))} (h : VolOk cap lab gs) : (volT cap lab gs).ok = true := volT_ok h.capOk h.fit h.labOk fun g hg => (h.rows g hg).2
theorem VolOk.files {cap : Int} {lab : List Byte} {gs : List (List (List Byte))} (h : VolOk cap lab gs) : vFiles (volT cap lab gs) = gs.length := by
  refine vFiles_vol cap lab gs ?_
  unfold Med.files
  rw [if_neg (by rw [h.ok]; decide)]
theorem VolOk.few {cap : Int} {lab : List Byte} {gs : List (List (List Byte))} (h : VolOk cap lab gs) : gs.length ≤ 400 := by
  have := lenA_ge gs
  have := h.fit
  have := h.capOk
  omega
theorem VolOk.good {cap : Int} {lab : List Byte} {gs : List (List (List Byte))} (h : VolOk cap lab gs) : DGood (volT cap lab gs) 0 := ⟨h.ok, 0, rfl, Nat.zero_le _⟩
theorem lenA_snoc (gs : List (List (List Byte))) (r : List (List Byte)) : lenA (gs ++ [r]) = lenA gs + (r.length + 1) := by
  unfold lenA
  rw [aggsC_snoc, List.length_append, aggC_len]
/-- Append behind all, in one go: why not, or what stands then. -/
theorem vAppend_all {cap : Int} {lab : List Byte} {gs : List (List (List Byte))} {size at_ : Int} {l : List Rec} (h : VolOk cap lab gs) :
    (∃ E, vAppend PS.new (volT cap lab gs) at_ (gs.length : Int) size l = ([], E, PS.new, volT cap lab gs, 0) ∧ (E = 1 ∨ E = 2 ∨ E = 7)) ∨
    (∃ rows, vAppend PS.new (volT cap lab gs) at_ (gs.length : Int) size l = (offsP l, 0, PS.new, volT cap lab (gs ++ [rows]), ((2 + lenA gs + rows.length + 1 : Nat) : Int)) ∧ PackOk size l rows (offsP l) ∧ VolOk cap lab (gs ++ [rows])) := by
  obtain ⟨⟨rows, of, E⟩, hp⟩ : ∃ y, y = packP size l := ⟨_, rfl⟩
  have hp := hp.symm
  have hE := packP_12 hp
  have hroom : roomP (volT cap lab gs) (gs.length : Int) = cap - ((2 + lenA gs : Nat) : Int) := by rw [roomP_vol _ _ _ _ (Nat.le_refl _), List.take_length]
  have hfit := h.fit
  by_cases h0 : E = 0
  · subst h0
    have hk := packOk hp
    have hof := hk.of
    subst hof
    by_cases hc : ((2 + lenA gs + rows.length + 1 : Nat) : Int) ≤ cap
    · refine .inr ⟨rows, ?_, hk, ⟨h.capOk, by rw [lenA_snoc]; omega, h.labOk, fun g hg => ?_⟩⟩
      · have := vAppend_ok (cap := cap) (lab := lab) (gs := gs) (f := gs.length) (at_ := at_) (Nat.le_refl _) hp hk.len (by rw [List.take_length]; exact hc)
        rw [List.take_length] at this
        exact this
      · rcases List.mem_append.1 hg with hg | hg
        · exact h.rows g hg
        · rw [List.mem_singleton.1 hg]; exact ⟨hk.ne, hk.len⟩
    · refine .inl ⟨7, ?_, by decide⟩
      unfold vAppend
      rw [if_neg (by decide), hp, hroom]
      dsimp only
      rw [if_neg (show ¬ ((0 : Int) ≠ 0) by decide), if_neg (by omega), if_pos (by omega)]
  · refine .inl ⟨E, ?_, by omega⟩
    unfold vAppend
    rw [if_neg (by decide), hp, if_pos h0]
/-- Append of what can be packed. -/
theorem vAppend_fit {cap : Int} {lab : List Byte} {gs : List (List (List Byte))} {size at_ : Int} {l : List Rec} {rows : List (List Byte)} {of : List Int} (h : VolOk cap lab gs) (hp : packP size l = (rows, of, 0)) :
    vAppend PS.new (volT cap lab gs) at_ (gs.length : Int) size l = ([], 7, PS.new, volT cap lab gs, 0) ∨
    ∃ p, vAppend PS.new (volT cap lab gs) at_ (gs.length : Int) size l = (of, 0, PS.new, volT cap lab (gs ++ [rows]), p) ∧ VolOk cap lab (gs ++ [rows]) ∧ DGood (volT cap lab (gs ++ [rows])) p := by
  have hk := packOk hp
  have hroom : roomP (volT cap lab gs) (gs.length : Int) = cap - ((2 + lenA gs : Nat) : Int) := by rw [roomP_vol _ _ _ _ (Nat.le_refl _), List.take_length]
  have hfit := h.fit
  by_cases hc : ((2 + lenA gs + rows.length + 1 : Nat) : Int) ≤ cap
  · have hv : VolOk cap lab (gs ++ [rows]) := ⟨h.capOk, by rw [lenA_snoc]; omega, h.labOk, fun g hg => by
      rcases List.mem_append.1 hg with hg | hg
      · exact h.rows g hg
      · rw [List.mem_singleton.1 hg]; exact ⟨hk.ne, hk.len⟩⟩
    refine .inr ⟨((2 + lenA gs + rows.length + 1 : Nat) : Int), ?_, hv, hv.ok, 2 + lenA gs + rows.length + 1, rfl, by rw [volT_len, lenA_snoc]; omega⟩
    · have := vAppend_ok (cap := cap) (lab := lab) (gs := gs) (f := gs.length) (at_ := at_) (Nat.le_refl _) hp hk.len (by rw [List.take_length]; exact hc)
      rw [List.take_length] at this
      exact this
  · refine .inl ?_
    unfold vAppend
    rw [if_neg (by decide), hp, hroom]
    dsimp only
    rw [if_neg (show ¬ ((0 : Int) ≠ 0) by decide), if_neg (by omega), if_pos (by omega)]
/-- How many bytes an aggregate of a volume may have. -/
theorem VolOk.bytes {cap : Int} {lab : List Byte} {gs : List (List (List Byte))} (h : VolOk cap lab gs) {g : List (List Byte)} (hg : g ∈ gs) : g.flatten.length ≤ 256 * 400 := by
  have h1 : ∀ (rs : List (List Byte)), (∀ r ∈ rs, r.length ≤ 256) → rs.flatten.length ≤ 256 * rs.length := fun rs => by
    induction rs with
    | nil => intro _; exact Nat.zero_le _
    | cons r rs ih =>
      intro hr
      have := ih fun x hx => hr x (List.mem_cons_of_mem _ hx)
      have := hr r (List.mem_cons_self ..)
      rw [List.flatten_cons, List.length_append, List.length_cons]
      omega
  have h2 : g.length ≤ lenA gs := by
    obtain ⟨a, b, rfl⟩ := List.append_of_mem hg
    unfold lenA
    rw [aggsC_app, aggsC_cons, List.length_append, List.length_append, aggC_len]
    omega
  have h3 := h1 g fun r hr => ((h.rows g hg).2 r hr).2
  have := h.fit
  have := h.capOk
  omega
theorem vTrim_off {s : PS} {M : Med} {at_ f : Int} (h : s.off = true) : vTrim s M at_ f = (5, s, M, at_) := by unfold vTrim; rw [if_pos h]
/-- Trim while the power is on. -/
theorem vTrim_vol {cap : Int} {lab : List Byte} {gs : List (List (List Byte))} {at_ : Int} (f : Nat) (hf : f ≤ gs.length) : ∃ at', vTrim PS.new (volT cap lab gs) at_ (f : Int) = (0, PS.new, volT cap lab (gs.take f), at') := by
  have hge := lenA_ge gs
  have hb : behindV (volT cap lab gs) (f : Int) = (((2 + lenA (gs.take f) : Nat) : Int), 0) := by
    unfold behindV
    rw [volT_len, if_neg (by omega), volT_behind, if_pos hf]
  have ht := volT_take cap lab gs f
  unfold vTrim
  rw [if_neg (by decide), hb, if_neg (show ¬ ((0 : Int) ≠ 0) by decide)]
  by_cases he : ((2 + lenA (gs.take f) : Nat) : Int) = ((volT cap lab gs).cells.length : Int)
  · rw [if_pos he]
    refine ⟨0, ?_⟩
    have : volT cap lab gs = volT cap lab (gs.take f) := by
      rw [List.take_of_length_le (by omega)] at ht
      exact congrArg (Med.mk cap) ht
    rw [← this]
  · rw [if_neg he]
    refine ⟨((2 + lenA (gs.take f) : Nat) : Int), ?_⟩
    rw [Int.toNat_natCast]
    have hd : dvEnd PS.new (volT cap lab gs) (2 + lenA (gs.take f)) = (0, PS.new, volT cap lab (gs.take f)) := by
      unfold dvEnd
      rw [if_neg (by decide)]
      show (0, PS.new, (⟨(volT cap lab gs).cap, (volT cap lab gs).cells.take (2 + lenA (gs.take f))⟩ : Med)) = _
      rw [ht]
      rfl
    rw [hd]
theorem VolOk.takes {cap : Int} {lab : List Byte} {gs : List (List (List Byte))} (h : VolOk cap lab gs) (f : Nat) : VolOk cap lab (gs.take f) :=
  ⟨h.capOk, by have := lenA_take gs f; have := h.fit; omega, h.labOk, fun g hg => h.rows g (List.mem_of_mem_take hg)⟩
theorem vTrim_volG {cap : Int} {lab : List Byte} {gs : List (List (List Byte))} {at_ : Int} (f : Nat) (hf : f ≤ gs.length) (hv : VolOk cap lab gs) : ∃ at', vTrim PS.new (volT cap lab gs) at_ (f : Int) = (0, PS.new, volT cap lab (gs.take f), at') ∧ DGood (volT cap lab (gs.take f)) at' := by
  obtain ⟨p, hp⟩ := vTrim_vol (cap := cap) (lab := lab) (gs := gs) (at_ := at_) f hf
  refine ⟨p, hp, (hv.takes f).ok, ?_⟩
  have hb : behindV (volT cap lab gs) (f : Int) = (((2 + lenA (gs.take f) : Nat) : Int), 0) := by
    have := lenA_ge gs
    unfold behindV
    rw [volT_len, if_neg (by omega), volT_behind, if_pos hf]
  unfold vTrim at hp
  rw [if_neg (by decide), hb, if_neg (show ¬ ((0 : Int) ≠ 0) by decide)] at hp
  split at hp
  · simp only [Prod.mk.injEq] at hp
    exact ⟨0, by rw [← hp.2.2.2]; rfl, Nat.zero_le _⟩
  · simp only [Prod.mk.injEq] at hp
    exact ⟨2 + lenA (gs.take f), hp.2.2.2.symm, by rw [volT_len]; exact Nat.le_refl _⟩
theorem VolOk.take {cap : Int} {lab : List Byte} {gs : List (List (List Byte))} (h : VolOk cap lab gs) (f : Nat) : VolOk cap lab (gs.take f) :=
  ⟨h.capOk, by have := lenA_take gs f; have := h.fit; omega, h.labOk, fun g hg => h.rows g (List.mem_of_mem_take hg)⟩
theorem lab_ok (v p e : Int) : 1 ≤ (lbytes v p e).length ∧ (lbytes v p e).length ≤ 256 := by rw [lbytes_length]; decide
theorem volOk_new {cap v p e : Int} (hc : 2 ≤ cap ∧ cap ≤ 400) : VolOk cap (lbytes v p e) [] := ⟨by omega, by show (2 : Int) ≤ cap; omega, lab_ok v p e, fun g hg => by cases hg⟩
end Go.Proofs.Ytclkkhpnnbkfmaa
