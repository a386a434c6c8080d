/- Several texts of this claim, one behind the other: VolL, VolSnap, Recss. -/
import Derived.Test.YtjngfkkbfkoedaaVolumeFullPartR
import Derived.Test.YtjngfkkbfkoedaaVolumeFullPartS
import Derived.Test.YtjngfkkbfkoedaaVolumeFullPartT
import Derived.Test.YtjngfkkbfkoedaaVolumeFullPartK
import Derived.Test.YtjngfkkbfkoedaaVolumeFullPartL
import Derived.Test.YtjngfkkbfkoedaaVolumeFullPartB
import Derived.Test.YtjngfkkbfkoedaaVolumeFullPartM
/- Plain facts for the laws of volumes. -/
namespace Go.Proofs.Ytjngfkkbfkoedaa
open Go.RowKit

/-- What Pack makes, where there is no error. -/
structure PackOk (size : Int) (l : List Rec) (rows : List (List Byte)) (of : List Int) : Prop where
  sz : 32 ≤ size ∧ size ≤ 256
  len : ∀ r ∈ rows, 1 ≤ r.length ∧ r.length ≤ 256
  ne : 1 ≤ rows.length
  eq : rows = rowsC (joinB (aggrL l)) size.toNat
  flat : rows.flatten = joinB (aggrL l)
  of : of = offsP l
  ok : AggrOk l
theorem rowC_len (l : List Byte) (n k : Nat) : (rowC l n k).length = min n (l.length - k * n) := by unfold rowC; rw [List.length_take, List.length_drop]
theorem joinB_aggr_ge (l : List Rec) : 26 ≤ (joinB (aggrL l)).length := by
  rw [aggr_len]
  have := offP_ge l 0 (Nat.zero_le _)
  have h2 := offP_mono l (Nat.zero_le l.length)
  omega
theorem packOk {size : Int} {l : List Rec} {rows : List (List Byte)} {of : List Int} (h : packP size l = (rows, of, 0)) : PackOk size l rows of := by
  obtain ⟨hE, -, h0⟩ := packP_no h
  obtain ⟨rfl, rfl⟩ := h0 rfl
  obtain ⟨hs, hn, hj, hb, hw⟩ := wholeP_ok hE.symm
  rw [hw]
  obtain ⟨k, hk⟩ := Int.eq_ofNat_of_zero_le (show 0 ≤ size by omega)
  subst hk
  have hge := joinB_aggr_ge l
  have hr : ∀ r ∈ rowsC (joinB (aggrL l)) k, 1 ≤ r.length ∧ r.length ≤ 256 := by
    intro r hr
    unfold rowsC at hr
    obtain ⟨j, hj, rfl⟩ := List.mem_map.1 hr
    rw [List.mem_range] at hj
    rw [rowC_len]
    have h1 : (j + 1) * k ≤ (joinB (aggrL l)).length + k - 1 := Nat.le_trans (Nat.mul_le_mul_right k hj) (Nat.div_mul_le_self _ _)
    rw [Nat.add_mul, Nat.one_mul] at h1
    omega
  refine ⟨hs, by rw [Int.toNat_natCast]; exact hr, ?_, rfl, ?_, rfl, aggrOk_of hE.symm⟩
  · rw [rowsC_len, Int.toNat_natCast]
    exact (Nat.one_le_div_iff (by omega)).2 (by omega)
  · rw [Int.toNat_natCast, rowsC_flat _ (by omega)]
theorem joinE_12 (l : List Rec) : joinE l = 0 ∨ joinE l = 1 ∨ joinE l = 2 := by
  induction l with
  | nil => exact .inl rfl
  | cons r l ih =>
    unfold joinE
    split
    · exact ih
    · rename_i h
      unfold Rec.e recE at h ⊢
      split at h
      · rename_i h1; rw [if_pos h1]; exact .inr (.inl rfl)
      · rename_i h1
        rw [if_neg h1]
        split at h
        · rename_i h2; rw [if_pos h2]; exact .inr (.inr rfl)
        · exact absurd rfl h
theorem packP_12 {size : Int} {l : List Rec} {rows : List (List Byte)} {of : List Int} {E : Int} (h : packP size l = (rows, of, E)) : E = 0 ∨ E = 1 ∨ E = 2 := by
  obtain ⟨hE, -, -⟩ := packP_no h
  rw [hE]
  unfold wholeP
  split
  · exact .inr (.inl rfl)
  split
  · exact .inr (.inr rfl)
  split
  · exact joinE_12 _
  split
  · exact .inr (.inl rfl)
  · exact .inl rfl
/-- A volume that is right. -/
structure VolOk (cap : Int) (lab : List Byte) (gs : List (List (List Byte))) : Prop where
  capOk : 1 ≤ cap ∧ cap ≤ 400
  fit : ((2 + lenA gs : Nat) : Int) ≤ cap
  labOk : 1 ≤ lab.length ∧ lab.length ≤ 256
  rows : ∀ g ∈ gs, 1 ≤ g.length ∧ ∀ r ∈ g, 1 ≤ r.length ∧ r.length ≤ 256
theorem VolOk.ok {cap : Int} {lab : List Byte} {gs : List (List (List Byte))} (h : VolOk cap lab gs) : (volT cap lab gs).ok = true := volT_ok h.capOk h.fit h.labOk fun g hg => (h.rows g hg).2
theorem VolOk.files {cap : Int} {lab : List Byte} {gs : List (List (List Byte))} (h : VolOk cap lab gs) : vFiles (volT cap lab gs) = gs.length := by
  refine vFiles_vol cap lab gs ?_
  unfold Med.files
  rw [if_neg (by rw [h.ok]; decide)]
theorem VolOk.few {cap : Int} {lab : List Byte} {gs : List (List (List Byte))} (h : VolOk cap lab gs) : gs.length ≤ 400 := by
  have := lenA_ge gs
  have := h.fit
  have := h.capOk
  omega
theorem VolOk.good {cap : Int} {lab : List Byte} {gs : List (List (List Byte))} (h : VolOk cap lab gs) : DGood (volT cap lab gs) 0 := ⟨h.ok, 0, rfl, Nat.zero_le _⟩
theorem lenA_snoc (gs : List (List (List Byte))) (r : List (List Byte)) : lenA (gs ++ [r]) = lenA gs + (r.length + 1) := by
  unfold lenA
  rw [aggsC_snoc, List.length_append, aggC_len]
/-- Append behind all, in one go: why not, or what stands then. -/
theorem vAppend_all {cap : Int} {lab : List Byte} {gs : List (List (List Byte))} {size at_ : Int} {l : List Rec} (h : VolOk cap lab gs) :
    (∃ E, vAppend PS.new (volT cap lab gs) at_ (gs.length : Int) size l = ([], E, PS.new, volT cap lab gs, 0) ∧ (E = 1 ∨ E = 2 ∨ E = 7)) ∨
    (∃ rows, vAppend PS.new (volT cap lab gs) at_ (gs.length : Int) size l = (offsP l, 0, PS.new, volT cap lab (gs ++ [rows]), ((2 + lenA gs + rows.length + 1 : Nat) : Int)) ∧ PackOk size l rows (offsP l) ∧ VolOk cap lab (gs ++ [rows])) := by
  obtain ⟨⟨rows, of, E⟩, hp⟩ : ∃ y, y = packP size l := ⟨_, rfl⟩
  have hp := hp.symm
  have hE := packP_12 hp
  have hroom : roomP (volT cap lab gs) (gs.length : Int) = cap - ((2 + lenA gs : Nat) : Int) := by rw [roomP_vol _ _ _ _ (Nat.le_refl _), List.take_length]
  have hfit := h.fit
  by_cases h0 : E = 0
  · subst h0
    have hk := packOk hp
    have hof := hk.of
    subst hof
    by_cases hc : ((2 + lenA gs + rows.length + 1 : Nat) : Int) ≤ cap
    · refine .inr ⟨rows, ?_, hk, ⟨h.capOk, by rw [lenA_snoc]; omega, h.labOk, fun g hg => ?_⟩⟩
      · have := vAppend_ok (cap := cap) (lab := lab) (gs := gs) (f := gs.length) (at_ := at_) (Nat.le_refl _) hp hk.len (by rw [List.take_length]; exact hc)
        rw [List.take_length] at this
        exact this
      · rcases List.mem_append.1 hg with hg | hg
        · exact h.rows g hg
        · rw [List.mem_singleton.1 hg]; exact ⟨hk.ne, hk.len⟩
    · refine .inl ⟨7, ?_, by decide⟩
      unfold vAppend
      rw [if_neg (by decide), hp, hroom]
      dsimp only
      rw [if_neg (show ¬ ((0 : Int) ≠ 0) by decide), if_neg (by omega), if_pos (by omega)]
  · refine .inl ⟨E, ?_, by omega⟩
    unfold vAppend
    rw [if_neg (by decide), hp, if_pos h0]
theorem vTrim_off {s : PS} {M : Med} {at_ f : Int} (h : s.off = true) : vTrim s M at_ f = (5, s, M, at_) := by unfold vTrim; rw [if_pos h]
/-- Trim while the power is on. -/
theorem vTrim_vol {cap : Int} {lab : List Byte} {gs : List (List (List Byte))} {at_ : Int} (f : Nat) (hf : f ≤ gs.length) : ∃ at', vTrim PS.new (volT cap lab gs) at_ (f : Int) = (0, PS.new, volT cap lab (gs.take f), at') := by
  have hge := lenA_ge gs
  have hb : behindV (volT cap lab gs) (f : Int) = (((2 + lenA (gs.take f) : Nat) : Int), 0) := by
    unfold behindV
    rw [volT_len, if_neg (by omega), volT_behind, if_pos hf]
  have ht := volT_take cap lab gs f
  unfold vTrim
  rw [if_neg (by decide), hb, if_neg (show ¬ ((0 : Int) ≠ 0) by decide)]
  by_cases he : ((2 + lenA (gs.take f) : Nat) : Int) = ((volT cap lab gs).cells.length : Int)
  · rw [if_pos he]
    refine ⟨0, ?_⟩
    have : volT cap lab gs = volT cap lab (gs.take f) := by
      rw [List.take_of_length_le (by omega)] at ht
      exact congrArg (Med.mk cap) ht
    rw [← this]
  · rw [if_neg he]
    refine ⟨((2 + lenA (gs.take f) : Nat) : Int), ?_⟩
    rw [Int.toNat_natCast]
    have hd : dvEnd PS.new (volT cap lab gs) (2 + lenA (gs.take f)) = (0, PS.new, volT cap lab (gs.take f)) := by
      unfold dvEnd
      rw [if_neg (by decide)]
      show (0, PS.new, (⟨(volT cap lab gs).cap, (volT cap lab gs).cells.take (2 + lenA (gs.take f))⟩ : Med)) = _
      rw [ht]
      rfl
    rw [hd]
theorem VolOk.take {cap : Int} {lab : List Byte} {gs : List (List (List Byte))} (h : VolOk cap lab gs) (f : Nat) : VolOk cap lab (gs.take f) :=
  ⟨h.capOk, by have := lenA_take gs f; have := h.fit; omega, h.labOk, fun g hg => h.rows g (List.mem_of_mem_take hg)⟩
theorem lab_ok (v p e : Int) : 1 ≤ (lbytes v p e).length ∧ (lbytes v p e).length ≤ 256 := by rw [lbytes_length]; decide
theorem volOk_new {cap v p e : Int} (hc : 2 ≤ cap ∧ cap ≤ 400) : VolOk cap (lbytes v p e) [] := ⟨by omega, by show (2 : Int) ≤ cap; omega, lab_ok v p e, fun g hg => by cases hg⟩
end Go.Proofs.Ytjngfkkbfkoedaa

/- A drive's tape, taken as it is: it stays while the drive works on. -/
namespace Go.Proofs.Ytjngfkkbfkoedaa
open Go.RowKit
variable {B : Nat} {K : Nat → Prop} {w w' : World} {d g : Nat} {M : Med} {at_ : Int} {s : PS}
/-- All blocks but those of a stretch. -/
def ZK (n m : Nat) : Nat → Prop := fun b => b < n ∨ m ≤ b
theorem ZK.no {n m b : Nat} (h1 : n ≤ b) (h2 : b < m) : ¬ ZK n m b := fun h => by unfold ZK at h; omega
theorem ZK.up {n m : Nat} (hB : B ≤ w.heap.size) (h : m ≤ w.heap.size) : Up B (ZK n m) w := ⟨hB, fun _ hb => .inr (Nat.le_trans h hb)⟩
theorem drv_snap {s : PS} (w : World) (hd : DrvP B K w d g M at_ s) (hk : M.cells.length ≤ 100000) (hx : ∀ x ∈ M.cells, x.data.length ≤ 140737488355328) :
    Calls Try.prog 16 #[.pointer (some ⟨d, 0, none⟩)] w fun e w' => ∃ a' c' cs' k, e = .returned (.agg #[.int .i64 M.cap, .slice a' k c']) ∧ MedR w' w.heap.size M a' k c' cs' ∧ k ≤ c' ∧ DrvP B (fun b => b < w.heap.size) w' d g M at_ s ∧ Below w.heap.size w w' := by
  refine (drv_mediumP w hd hk hx).mono ?_
  rintro e w2 ⟨a, c, cs, k, he, hM, hc, hb⟩
  exact ⟨a, c, cs, k, he, hM, hc, (hd.rek fun b _ hb _ => hb).ext hb, hb⟩
theorem DrvP.zone {n : Nat} (h : DrvP B (fun b => b < n) w d g M at_ s) : DrvP B (ZK n w.heap.size) w d g M at_ s := h.rek fun _ _ _ hb => .inl hb
theorem DrvP.allK (h : DrvP B K w d g M at_ s) : DrvP B AllK w d g M at_ s := h.rek fun _ _ _ _ => trivial
/-- Such a tape stays. -/
theorem MedR.snap {n m : Nat} {a : Option Addr} {k c : Nat} {cs : List CellV} (h : MedR w n M a k c cs) (hm : Mod (VF B (ZK n m)) w w') (hw : m = w.heap.size) : MedR w' n M a k c cs := h.vf hm fun b h1 h2 => ZK.no h1 (by omega)
end Go.Proofs.Ytjngfkkbfkoedaa

/- Slices of slices of records as they lie. -/
namespace Go.Proofs.Ytjngfkkbfkoedaa
open Go.RowKit
/-- A slice of records, as it lies. -/
structure RRow where
  a : Option Addr
  c : Nat
  rs : List RecV
def RRow.cells (y : RRow) : List Value := [.slice y.a y.rs.length y.c]
theorem RRow.len (y : RRow) : y.cells.length = 1 := rfl
def RRow.ok (w : World) (y : RRow) : Prop := RMat w y.a y.rs ∧ y.rs.length ≤ 9223372036854775807 ∧ y.rs.length ≤ y.c
theorem RRow.ok.ext {w w' : World} {y : RRow} (h : y.ok w) (hb : Below w.heap.size w w') : y.ok w' := ⟨h.1.ext hb, h.2⟩
structure RRMat (w : World) (a : Option Addr) (l : List RRow) : Prop where
  src : Src w a (flt RRow.cells l)
  ok : ∀ y ∈ l, y.ok w
theorem RRMat.ext {w w' : World} {a : Option Addr} {l : List RRow} (h : RRMat w a l) (hb : Below w.heap.size w w') : RRMat w' a l := ⟨h.src.ext hb, fun y hy => (h.ok y hy).ext hb⟩
/-- One of them. -/
theorem RRMat.at {w : World} {a : Option Addr} {l : List RRow} (h : RRMat w a l) {i : Nat} (hi : i < l.length) :
    ∃ b o, a = some ⟨b, o, none⟩ ∧ b < w.heap.size ∧ ∀ i (hi : i < l.length), w.cell? ⟨b, o + i, none⟩ = some (.slice l[i].a l[i].rs.length l[i].c) := by
  obtain ⟨b, o, ha, hlt, hat⟩ := h.src.elem RRow.len (by decide) hi
  refine ⟨b, o, ha, hlt, fun i hi => ?_⟩
  have := hat i hi 0 _ rfl
  rw [Nat.mul_one] at this
  exact this
end Go.Proofs.Ytjngfkkbfkoedaa
