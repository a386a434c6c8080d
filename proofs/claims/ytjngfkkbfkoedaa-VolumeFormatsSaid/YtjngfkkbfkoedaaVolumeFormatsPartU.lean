/- Several texts of this claim, one behind the other: VolL, LabelWakes. -/
import Derived.Test.YtjngfkkbfkoedaaVolumeFormatsPartR
import Derived.Test.YtjngfkkbfkoedaaVolumeFormatsPartS
import Derived.Test.YtjngfkkbfkoedaaVolumeFormatsPartT
import Derived.Test.YtjngfkkbfkoedaaVolumeFormatsPartQ
/- Plain facts for the laws of volumes. -/
namespace Go.Proofs.Ytjngfkkbfkoedaa
open Go.RowKit

/-- What Pack makes, where there is no error. -/
structure PackOk (size : Int) (l : List Rec) (rows : List (List Byte)) (of : List Int) : Prop where
  sz : 32 ≤ size ∧ size ≤ 256
  len : ∀ r ∈ rows, 1 ≤ r.length ∧ r.length ≤ 256
  ne : 1 ≤ rows.length
  eq : rows = rowsC (joinB (aggrL l)) size.toNat
  flat : rows.flatten = joinB (aggrL l)
  of : of = offsP l
  ok : AggrOk l
theorem rowC_len (l : List Byte) (n k : Nat) : (rowC l n k).length = min n (l.length - k * n) := by unfold rowC; rw [List.length_take, List.length_drop]
theorem joinB_aggr_ge (l : List Rec) : 26 ≤ (joinB (aggrL l)).length := by
  rw [aggr_len]
  have := offP_ge l 0 (Nat.zero_le _)
  have h2 := offP_mono l (Nat.zero_le l.length)
  omega
theorem packOk {size : Int} {l : List Rec} {rows : List (List Byte)} {of : List Int} (h : packP size l = (rows, of, 0)) : PackOk size l rows of := by
  obtain ⟨hE, -, h0⟩ := packP_no h
  obtain ⟨rfl, rfl⟩ := h0 rfl
  obtain ⟨hs, hn, hj, hb, hw⟩ := wholeP_ok hE.symm
  rw [hw]
  obtain ⟨k, hk⟩ := Int.eq_ofNat_of_zero_le (show 0 ≤ size by omega)
  subst hk
  have hge := joinB_aggr_ge l
  have hr : ∀ r ∈ rowsC (joinB (aggrL l)) k, 1 ≤ r.length ∧ r.length ≤ 256 := by
    intro r hr
    unfold rowsC at hr
    obtain ⟨j, hj, rfl⟩ := List.mem_map.1 hr
    rw [List.mem_range] at hj
    rw [rowC_len]
    have h1 : (j + 1) * k ≤ (joinB (aggrL l)).length + k - 1 := Nat.le_trans (Nat.mul_le_mul_right k hj) (Nat.div_mul_le_self _ _)
    rw [Nat.add_mul, Nat.one_mul] at h1
    omega
  refine ⟨hs, by rw [Int.toNat_natCast]; exact hr, ?_, rfl, ?_, rfl, aggrOk_of hE.symm⟩
  · rw [rowsC_len, Int.toNat_natCast]
    exact (Nat.one_le_div_iff (by omega)).2 (by omega)
  · rw [Int.toNat_natCast, rowsC_flat _ (by omega)]
theorem joinE_12 (l : List Rec) : joinE l = 0 ∨ joinE l = 1 ∨ joinE l = 2 := by
  induction l with
  | nil => exact .inl rfl
  | cons r l ih =>
    unfold joinE
    split
    · exact ih
    · rename_i h
      unfold Rec.e recE at h ⊢
      split at h
      · rename_i h1; rw [if_pos h1]; exact .inr (.inl rfl)
      · rename_i h1
        rw [if_neg h1]
        split at h
        · rename_i h2; rw [if_pos h2]; exact .inr (.inr rfl)
        · exact absurd rfl h
theorem packP_12 {size : Int} {l : List Rec} {rows : List (List Byte)} {of : List Int} {E : Int} (h : packP size l = (rows, of, E)) : E = 0 ∨ E = 1 ∨ E = 2 := by
  obtain ⟨hE, -, -⟩ := packP_no h
  rw [hE]
  unfold wholeP
  split
  · exact .inr (.inl rfl)
  split
  · exact .inr (.inr rfl)
  split
  · exact joinE_12 _
  split
  · exact .inr (.inl rfl)
  · exact .inl rfl
/-- A volume that is right. -/
structure VolOk (cap : Int) (lab : List Byte) (gs : List (List (List Byte))) : Prop where
  capOk : 1 ≤ cap ∧ cap ≤ 400
  fit : ((2 + lenA gs : Nat) : Int) ≤ cap
  labOk : 1 ≤ lab.length ∧ lab.length ≤ 256
  rows : ∀ g ∈ gs, 1 ≤ g.length ∧ ∀ r ∈ g, 1 ≤ r.length ∧ r.length ≤ 256
theorem VolOk.ok {cap : Int} {lab : List Byte} {gs : List (List (List Byte))} (h : VolOk cap lab gs) : (volT cap lab gs).ok = true := volT_ok h.capOk h.fit h.labOk fun g hg => (h.rows g hg).2
theorem VolOk.files {cap : Int} {lab : List Byte} {gs : List (List (List Byte))} (h : VolOk cap lab gs) : vFiles (volT cap lab gs) = gs.length := by
  refine vFiles_vol cap lab gs ?_
  unfold Med.files
  rw [if_neg (by rw [h.ok]; decide)]
theorem VolOk.few {cap : Int} {lab : List Byte} {gs : List (List (List Byte))} (h : VolOk cap lab gs) : gs.length ≤ 400 := by
  have := lenA_ge gs
  have := h.fit
  have := h.capOk
  omega
theorem VolOk.good {cap : Int} {lab : List Byte} {gs : List (List (List Byte))} (h : VolOk cap lab gs) : DGood (volT cap lab gs) 0 := ⟨h.ok, 0, rfl, Nat.zero_le _⟩
theorem lenA_snoc (gs : List (List (List Byte))) (r : List (List Byte)) : lenA (gs ++ [r]) = lenA gs + (r.length + 1) := by
  unfold lenA
  rw [aggsC_snoc, List.length_append, aggC_len]
/-- Append behind all, in one go: why not, or what stands then. -/
theorem vAppend_all {cap : Int} {lab : List Byte} {gs : List (List (List Byte))} {size at_ : Int} {l : List Rec} (h : VolOk cap lab gs) :
    (∃ E, vAppend PS.new (volT cap lab gs) at_ (gs.length : Int) size l = ([], E, PS.new, volT cap lab gs, 0) ∧ (E = 1 ∨ E = 2 ∨ E = 7)) ∨
    (∃ rows, vAppend PS.new (volT cap lab gs) at_ (gs.length : Int) size l = (offsP l, 0, PS.new, volT cap lab (gs ++ [rows]), ((2 + lenA gs + rows.length + 1 : Nat) : Int)) ∧ PackOk size l rows (offsP l) ∧ VolOk cap lab (gs ++ [rows])) := by
  obtain ⟨⟨rows, of, E⟩, hp⟩ : ∃ y, y = packP size l := ⟨_, rfl⟩
  have hp := hp.symm
  have hE := packP_12 hp
  have hroom : roomP (volT cap lab gs) (gs.length : Int) = cap - ((2 + lenA gs : Nat) : Int) := by rw [roomP_vol _ _ _ _ (Nat.le_refl _), List.take_length]
  have hfit := h.fit
  by_cases h0 : E = 0
  · subst h0
    have hk := packOk hp
    have hof := hk.of
    subst hof
    by_cases hc : ((2 + lenA gs + rows.length + 1 : Nat) : Int) ≤ cap
    · refine .inr ⟨rows, ?_, hk, ⟨h.capOk, by rw [lenA_snoc]; omega, h.labOk, fun g hg => ?_⟩⟩
      · have := vAppend_ok (cap := cap) (lab := lab) (gs := gs) (f := gs.length) (at_ := at_) (Nat.le_refl _) hp hk.len (by rw [List.take_length]; exact hc)
        rw [List.take_length] at this
        exact this
      · rcases List.mem_append.1 hg with hg | hg
        · exact h.rows g hg
        · rw [List.mem_singleton.1 hg]; exact ⟨hk.ne, hk.len⟩
    · refine .inl ⟨7, ?_, by decide⟩
      unfold vAppend
      rw [if_neg (by decide), hp, hroom]
      dsimp only
      rw [if_neg (show ¬ ((0 : Int) ≠ 0) by decide), if_neg (by omega), if_pos (by omega)]
  · refine .inl ⟨E, ?_, by omega⟩
    unfold vAppend
    rw [if_neg (by decide), hp, if_pos h0]
/-- Append of what can be packed. -/
theorem vAppend_fit {cap : Int} {lab : List Byte} {gs : List (List (List Byte))} {size at_ : Int} {l : List Rec} {rows : List (List Byte)} {of : List Int} (h : VolOk cap lab gs) (hp : packP size l = (rows, of, 0)) :
    vAppend PS.new (volT cap lab gs) at_ (gs.length : Int) size l = ([], 7, PS.new, volT cap lab gs, 0) ∨
    ∃ p, vAppend PS.new (volT cap lab gs) at_ (gs.length : Int) size l = (of, 0, PS.new, volT cap lab (gs ++ [rows]), p) ∧ VolOk cap lab (gs ++ [rows]) ∧ DGood (volT cap lab (gs ++ [rows])) p := by
  have hk := packOk hp
  have hroom : roomP (volT cap lab gs) (gs.length : Int) = cap - ((2 + lenA gs : Nat) : Int) := by rw [roomP_vol _ _ _ _ (Nat.le_refl _), List.take_length]
  have hfit := h.fit
  by_cases hc : ((2 + lenA gs + rows.length + 1 : Nat) : Int) ≤ cap
  · have hv : VolOk cap lab (gs ++ [rows]) := ⟨h.capOk, by rw [lenA_snoc]; omega, h.labOk, fun g hg => by
      rcases List.mem_append.1 hg with hg | hg
      · exact h.rows g hg
      · rw [List.mem_singleton.1 hg]; exact ⟨hk.ne, hk.len⟩⟩
    refine .inr ⟨((2 + lenA gs + rows.length + 1 : Nat) : Int), ?_, hv, hv.ok, 2 + lenA gs + rows.length + 1, rfl, by rw [volT_len, lenA_snoc]; omega⟩
    · have := vAppend_ok (cap := cap) (lab := lab) (gs := gs) (f := gs.length) (at_ := at_) (Nat.le_refl _) hp hk.len (by rw [List.take_length]; exact hc)
      rw [List.take_length] at this
      exact this
  · refine .inl ?_
    unfold vAppend
    rw [if_neg (by decide), hp, hroom]
    dsimp only
    rw [if_neg (show ¬ ((0 : Int) ≠ 0) by decide), if_neg (by omega), if_pos (by omega)]
/-- How many bytes an aggregate of a volume may have. -/
theorem VolOk.bytes {cap : Int} {lab : List Byte} {gs : List (List (List Byte))} (h : VolOk cap lab gs) {g : List (List Byte)} (hg : g ∈ gs) : g.flatten.length ≤ 256 * 400 := by
  have h1 : ∀ (rs : List (List Byte)), (∀ r ∈ rs, r.length ≤ 256) → rs.flatten.length ≤ 256 * rs.length := fun rs => by
    induction rs with
    | nil => intro _; exact Nat.zero_le _
    | cons r rs ih =>
      intro hr
      have := ih fun x hx => hr x (List.mem_cons_of_mem _ hx)
      have := hr r (List.mem_cons_self ..)
      rw [List.flatten_cons, List.length_append, List.length_cons]
      omega
  have h2 : g.length ≤ lenA gs := by
    obtain ⟨a, b, rfl⟩ := List.append_of_mem hg
    unfold lenA
    rw [aggsC_app, aggsC_cons, List.length_append, List.length_append, aggC_len]
    omega
  have h3 := h1 g fun r hr => ((h.rows g hg).2 r hr).2
  have := h.fit
  have := h.capOk
  omega
theorem vTrim_off {s : PS} {M : Med} {at_ f : Int} (h : s.off = true) : vTrim s M at_ f = (5, s, M, at_) := by unfold vTrim; rw [if_pos h]
/-- Trim while the power is on. -/
theorem vTrim_vol {cap : Int} {lab : List Byte} {gs : List (List (List Byte))} {at_ : Int} (f : Nat) (hf : f ≤ gs.length) : ∃ at', vTrim PS.new (volT cap lab gs) at_ (f : Int) = (0, PS.new, volT cap lab (gs.take f), at') := by
  have hge := lenA_ge gs
  have hb : behindV (volT cap lab gs) (f : Int) = (((2 + lenA (gs.take f) : Nat) : Int), 0) := by
    unfold behindV
    rw [volT_len, if_neg (by omega), volT_behind, if_pos hf]
  have ht := volT_take cap lab gs f
  unfold vTrim
  rw [if_neg (by decide), hb, if_neg (show ¬ ((0 : Int) ≠ 0) by decide)]
  by_cases he : ((2 + lenA (gs.take f) : Nat) : Int) = ((volT cap lab gs).cells.length : Int)
  · rw [if_pos he]
    refine ⟨0, ?_⟩
    have : volT cap lab gs = volT cap lab (gs.take f) := by
      rw [List.take_of_length_le (by omega)] at ht
      exact congrArg (Med.mk cap) ht
    rw [← this]
  · rw [if_neg he]
    refine ⟨((2 + lenA (gs.take f) : Nat) : Int), ?_⟩
    rw [Int.toNat_natCast]
    have hd : dvEnd PS.new (volT cap lab gs) (2 + lenA (gs.take f)) = (0, PS.new, volT cap lab (gs.take f)) := by
      unfold dvEnd
      rw [if_neg (by decide)]
      show (0, PS.new, (⟨(volT cap lab gs).cap, (volT cap lab gs).cells.take (2 + lenA (gs.take f))⟩ : Med)) = _
      rw [ht]
      rfl
    rw [hd]
theorem VolOk.take {cap : Int} {lab : List Byte} {gs : List (List (List Byte))} (h : VolOk cap lab gs) (f : Nat) : VolOk cap lab (gs.take f) :=
  ⟨h.capOk, by have := lenA_take gs f; have := h.fit; omega, h.labOk, fun g hg => h.rows g (List.mem_of_mem_take hg)⟩
theorem lab_ok (v p e : Int) : 1 ≤ (lbytes v p e).length ∧ (lbytes v p e).length ≤ 256 := by rw [lbytes_length]; decide
theorem volOk_new {cap v p e : Int} (hc : 2 ≤ cap ∧ cap ≤ 400) : VolOk cap (lbytes v p e) [] := ⟨by omega, by show (2 : Int) ≤ cap; omega, lab_ok v p e, fun g hg => by cases hg⟩
end Go.Proofs.Ytjngfkkbfkoedaa

/- A label that lies in memory; cellarerlaw14.wakes. -/
namespace Go.Proofs.Ytjngfkkbfkoedaa
open Go.RowKit

set_option maxRecDepth 100000

/-- In block g stands the label. -/
def LabAt (w : World) (g : Nat) (v p e : Int) : Prop := w.heap[g]? = some (.cells #[.int .i64 v, .int .i64 p, .int .i64 e] 26)
theorem LabAt.new (w : World) (v p e : Int) : LabAt (w.alloc (.cells #[.int .i64 v, .int .i64 p, .int .i64 e] 26)) w.heap.size v p e := heap_alloc_new w _
theorem LabAt.put (w : World) (v p e : Int) : LabAt ((w.alloc (.cells #[.int .i64 0, .int .i64 0, .int .i64 0] 26)).setRow w.heap.size #[.int .i64 v, .int .i64 p, .int .i64 e]) w.heap.size v p e :=
  setRow_heap _ _ _ _ _ _ (heap_alloc_new w _)
theorem below_put (w : World) (v p e : Int) : Below w.heap.size w ((w.alloc (.cells #[.int .i64 0, .int .i64 0, .int .i64 0] 26)).setRow w.heap.size #[.int .i64 v, .int .i64 p, .int .i64 e]) :=
  bsetRow (ext_alloc w _) (Nat.le_refl _) _
theorem LabAt.cells {w : World} {g : Nat} {v p e : Int} (h : LabAt w g v p e) : w.cell? ⟨g, 0, none⟩ = some (.int .i64 v) ∧ w.cell? ⟨g, 1, none⟩ = some (.int .i64 p) ∧ w.cell? ⟨g, 2, none⟩ = some (.int .i64 e) :=
  ⟨cell_of_row w g 0 _ _ _ h, cell_of_row w g 1 _ _ _ h, cell_of_row w g 2 _ _ _ h⟩
theorem LabAt.ext {w w' : World} {g : Nat} {v p e : Int} (h : LabAt w g v p e) (hb : Below w.heap.size w w') : LabAt w' g v p e := (hb.block g (heap_lt h)).trans h
theorem LabAt.drewN {w : World} {g : Nat} {v p e : Int} (h : LabAt w g v p e) (n : Nat) : LabAt (w.drewN n) g v p e := h

end Go.Proofs.Ytjngfkkbfkoedaa
