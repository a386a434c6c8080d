/- Several texts of this claim, one behind the other: RobSet, RobMount. -/
import Derived.Test.YtmaagkdehdmhlaaRobIn
import Derived.Test.YtmaagkdehdmhlaaMedTwin
import Derived.Test.YtmaagkdehdmhlaaRobotExactPartJ
import Derived.Test.YtmaagkdehdmhlaaRobotExactPartM
import Derived.Test.YtmaagkdehdmhlaaRegion
import Derived.Test.YtmaagkdehdmhlaaRegionLast
import Derived.Test.YtmaagkdehdmhlaaRegionPhase
/- robot: parts of it are written. -/
namespace Go.Proofs.Ytmaagkdehdmhlaa
open Go.RowKit

variable {B : Nat} {K : Nat → Prop} {w w' : World} {r g : Nat} {S : RS} {V : RobV} {D : Nat → Nat} {s : PS}
theorem RobL.part {F : Nat → TypeId → Prop} {S' : RS} {V' : RobV} (h : RobL B K w r g S V) (hm : Mod F w w') (hF : ∀ b T, F b T → T = 87 ∨ T = 89 ∨ T = 45)
    (hobj : w'.heap[r]? = some (.cells #[.pointer (some ⟨g, 0, none⟩), .int .i64 S'.size, .slice V'.aM S'.vols.length V'.cM, .slice V'.aB S'.bays.length V'.cB, .int .i64 S'.asked, .int .i64 S'.mounts] 87 (0, 0)))
    (hv : S'.vols = V'.ts.map TapeV.M) (hb : S'.bays = V'.bs.map BayV.b) (hM : Own w' B 45 2 V'.aM S'.vols.length V'.cM (flt TapeV.cells V'.ts)) (hB : Own w' B 89 3 V'.aB S'.bays.length V'.cB (flt BayV.cells V'.bs))
    (iM : RowIn K V'.aM S'.vols.length V'.cM) (iB : RowIn K V'.aB S'.bays.length V'.cB) (h0 : ∀ b, b < w.heap.size → V.ow b = 0 → V'.ow b = 0)
    (ht : ∀ x ∈ V'.ts, x ∈ V.ts ∨ TapeIn B (fun b => K b ∧ V'.ow b = 0) w' x)
    (hd : ∀ j y, V'.bs[j]? = some y → 0 ≤ y.b.vol → (∃ x, V.bs[j]? = some x ∧ 0 ≤ x.b.vol ∧ x.d = y.d ∧ x.b.M = y.b.M ∧ x.b.at_ = y.b.at_ ∧ ∀ b, b < w.heap.size → V.ow b = j + 1 → V'.ow b = j + 1) ∨ ∃ a k c cs, DrvAt B (fun b => K b ∧ V'.ow b = j + 1) w' y.d g y.b.M y.b.at_ a k c cs) : RobL B K w' r g S' V' := by
  have hno : ∀ b T, F b T → (T = 42 ∨ T = 5 ∨ T = 61) → False := by
    intro b T hf hT
    rcases hF b T hf with rfl | rfl | rfl <;> exact absurd hT (by decide)
  refine ⟨h.low, h.kr, hobj, hv, hb, hM, hB, iM, iB, fun x hx => ?_, fun j y hy hvy => ?_⟩
  · rcases ht x hx with hx | hx
    · exact (h.tape x hx).far hm (fun b T _ hf hT => (hno b T hf (hT.elim .inl fun h => .inr (.inl h))).elim) fun b _ hb hz => ⟨hz.1, h0 b hb hz.2⟩
    · exact hx
  · rcases hd j y hy hvy with ⟨x, hx, hvx, e1, e2, e3, how⟩ | hd
    · obtain ⟨a, k, c, cs, hdx⟩ := h.drv j x hx hvx
      rw [e1, e2, e3] at hdx
      exact ⟨a, k, c, cs, hdx.far hm (fun b T _ hf hT => (hno b T hf hT).elim) fun b _ hb hz => ⟨hz.1, how b hb hz.2⟩⟩
    · exact hd
theorem RobL.same {F : Nat → TypeId → Prop} {S' : RS} (h : RobL B K w r g S V) (hm : Mod F w w') (hF : ∀ b T, F b T → T = 87) (hS : S'.vols = S.vols ∧ S'.bays = S.bays)
    (hobj : w'.heap[r]? = some (.cells #[.pointer (some ⟨g, 0, none⟩), .int .i64 S'.size, .slice V.aM S.vols.length V.cM, .slice V.aB S.bays.length V.cB, .int .i64 S'.asked, .int .i64 S'.mounts] 87 (0, 0))) : RobL B K w' r g S' V := by
  refine h.part (V' := V) hm (fun b T hf => .inl (hF b T hf)) (by rw [hS.1, hS.2]; exact hobj) (hS.1.trans h.vols) (hS.2.trans h.bays) ?_ ?_ (by rw [hS.1]; exact h.inM) (by rw [hS.2]; exact h.inB) (fun _ _ h => h) (fun x hx => .inl hx) fun j y hy hvy => .inl ⟨y, hy, hvy, rfl, rfl, rfl, fun _ _ h => h⟩
  · rw [hS.1]; exact h.rowM.mod hm fun b _ _ hf => absurd (hF _ _ hf) (by decide)
  · rw [hS.2]; exact h.rowB.mod hm fun b _ _ hf => absurd (hF _ _ hf) (by decide)
theorem RobL.setAsked (h : RobL B K w r g S V) (a : Int) : RobL B K (w.setCell ⟨r, 4, none⟩ (.int .i64 a)) r g { S with asked := a } V ∧ Mod (RobG B K) w (w.setCell ⟨r, 4, none⟩ (.int .i64 a)) := by
  have hm : Mod (fun b T => b = r ∧ T = 87) w (w.setCell ⟨r, 4, none⟩ (.int .i64 a)) := (Mod.refl _ w).setCell h.obj ⟨rfl, rfl⟩ 4 _
  exact ⟨h.same hm (fun b T hf => hf.2) ⟨rfl, rfl⟩ (heap_setCell_same w r 4 _ _ _ h.obj), hm.mono fun b T _ hf => ⟨by rw [hf.1]; exact h.low, by rw [hf.1]; exact h.kr, by rw [hf.2]; decide⟩⟩
theorem RobL.setMounts (h : RobL B K w r g S V) (a : Int) : RobL B K (w.setCell ⟨r, 5, none⟩ (.int .i64 a)) r g { S with mounts := a } V ∧ Mod (RobG B K) w (w.setCell ⟨r, 5, none⟩ (.int .i64 a)) := by
  have hm : Mod (fun b T => b = r ∧ T = 87) w (w.setCell ⟨r, 5, none⟩ (.int .i64 a)) := (Mod.refl _ w).setCell h.obj ⟨rfl, rfl⟩ 5 _
  exact ⟨h.same hm (fun b T hf => hf.2) ⟨rfl, rfl⟩ (heap_setCell_same w r 5 _ _ _ h.obj), hm.mono fun b T _ hf => ⟨by rw [hf.1]; exact h.low, by rw [hf.1]; exact h.kr, by rw [hf.2]; decide⟩⟩
theorem RobL.blen (h : RobL B K w r g S V) : V.bs.length = S.bays.length := by rw [h.bays, List.length_map]
theorem RobL.tlen (h : RobL B K w r g S V) : V.ts.length = S.vols.length := by rw [h.vols, List.length_map]
theorem RobL.bget (h : RobL B K w r g S V) {i : Nat} {b : Bay} (hi : S.bays[i]? = some b) : ∃ x, V.bs[i]? = some x ∧ x.b = b := by
  rw [h.bays, List.getElem?_map] at hi
  obtain ⟨x, hx, e⟩ := Option.map_eq_some_iff.1 hi
  exact ⟨x, hx, e⟩
theorem RobL.ne (h : RobL B K w r g S V) {bB : Nat} (hB : V.aB = some ⟨bB, 0, none⟩) (hd : 0 < S.bays.length) : r ≠ bB := by
  intro e
  subst e
  have h1 := h.rowB
  rw [hB] at h1
  obtain ⟨_, _, cur, hc⟩ := h1.blk (by omega)
  rw [h.obj] at hc
  simp at hc
/-- When a drive was asked for last. -/
theorem RobL.setBayAsked (h : RobL B K w r g S V) {bB i : Nat} {b : Bay} (hB : V.aB = some ⟨bB, 0, none⟩) (hi : S.bays[i]? = some b) (a : Int) :
    RobL B K (w.setCell ⟨bB, i * 3 + 2, none⟩ (.int .i64 a)) r g { S with bays := S.bays.modify i fun b => { b with asked := a } } { V with bs := V.bs.modify i fun x => ⟨{ x.b with asked := a }, x.d⟩ } ∧ Mod (RobG B K) w (w.setCell ⟨bB, i * 3 + 2, none⟩ (.int .i64 a)) := by
  obtain ⟨x, hx, rfl⟩ := h.bget hi
  have hil : i < S.bays.length := (List.getElem?_eq_some_iff.1 hi).1
  have hil2 : i < V.bs.length := (List.getElem?_eq_some_iff.1 hx).1
  have hrow := h.rowB
  rw [hB] at hrow
  obtain ⟨hBl, _, cur, hcur⟩ := hrow.blk (by omega)
  have hkB : K bB := by
    rcases h.inB bB hB with h0 | h0
    · omega
    · exact h0
  have hm : Mod (fun b T => b = bB ∧ T = 89) w (w.setCell ⟨bB, i * 3 + 2, none⟩ (.int .i64 a)) := (Mod.refl _ w).setCell hcur ⟨rfl, rfl⟩ _ _
  have hmod : V.bs.modify i (fun x => ⟨{ x.b with asked := a }, x.d⟩) = V.bs.set i ⟨{ x.b with asked := a }, x.d⟩ := by
    apply List.ext_getElem?
    intro j
    rw [List.getElem?_modify, List.getElem?_set]
    by_cases hj : i = j
    · subst hj
      rw [hx]
      simp [hil2]
    · simp [hj]
  refine ⟨h.part (V' := { V with bs := V.bs.modify i fun x => ⟨{ x.b with asked := a }, x.d⟩ }) hm (fun b T hf => .inr (.inl hf.2)) ?_ h.vols ?_ ?_ ?_ h.inM ?_ (fun _ _ h => h) (fun x hx => .inl hx) fun j y hy hvy => ?_, hm.mono fun b T _ hf => ⟨by rw [hf.1]; exact hBl, by rw [hf.1]; exact hkB, by rw [hf.2]; decide⟩⟩
  · show _ = some (Obj.cells #[_, _, _, .slice V.aB (S.bays.modify i _).length V.cB, _, _] _ _)
    rw [List.length_modify]
    exact hm.keep h.obj fun hf => absurd hf.2 (by decide)
  · show S.bays.modify i _ = (V.bs.modify i _).map BayV.b
    rw [hmod, List.map_set, ← h.bays, modify_get hi]
  · exact h.rowM.mod hm fun b _ _ hf => absurd hf.2 (by decide)
  · show Own _ _ _ _ V.aB (S.bays.modify i _).length V.cB (flt BayV.cells (V.bs.modify i _))
    rw [List.length_modify, hmod, hB]
    have h1 := hrow.setAt (i * 3 + 2) (.int .i64 a) (by omega)
    rw [flt_set1 BayV.len V.bs i 2 hil2 (by decide) ⟨{ x.b with asked := a }, x.d⟩ (.int .i64 a) (by
      have hxe : V.bs[i] = x := by rw [List.getElem?_eq_getElem hil2] at hx; exact Option.some.inj hx
      rw [hxe]; rfl)] at h1
    exact h1
  · show RowIn K V.aB (S.bays.modify i _).length V.cB
    rw [List.length_modify]; exact h.inB
  · left
    rw [show ({ V with bs := V.bs.modify i fun x => ⟨{ x.b with asked := a }, x.d⟩ } : RobV).bs = V.bs.set i ⟨{ x.b with asked := a }, x.d⟩ from hmod] at hy
    rw [List.getElem?_set] at hy
    split at hy
    · rename_i hij
      subst hij
      replace hy : some _ = some y := hy
      obtain rfl := Option.some.inj hy
      exact ⟨x, hx, hvy, rfl, rfl, rfl, fun _ _ h => h⟩
    · exact ⟨y, hy, hvy, rfl, rfl, rfl, fun _ _ h => h⟩
end Go.Proofs.Ytmaagkdehdmhlaa

/- robot: Mount. -/
namespace Go.Proofs.Ytmaagkdehdmhlaa
open Go.RowKit

variable {B : Nat} {K : Nat → Prop} {w w' : World} {r g : Nat} {S : RS} {V : RobV} {D : Nat → Nat} {s : PS}
theorem flt_set2 {α : Type} {f : α → List Value} {k : Nat} (hf : ∀ x, (f x).length = k) (l : List α) (i j1 j2 : Nat) (hi : i < l.length) (h1 : j1 < k) (h2 : j2 < k) (y : α) (v1 v2 : Value) (hy : f y = ((f l[i]).set j1 v1).set j2 v2) : ((flt f l).set (i * k + j1) v1).set (i * k + j2) v2 = flt f (l.set i y) := by
  rw [flt_set hf l i y hi, hy]
  have h : flt f l = flt f (l.take i) ++ (f l[i] ++ flt f (l.drop (i + 1))) := by
    rw [← flt_cons, ← flt_append, ← List.drop_eq_getElem_cons hi, List.take_append_drop]
  have hl : (flt f (l.take i)).length = i * k := by rw [flt_length hf, List.length_take, Nat.min_eq_left (Nat.le_of_lt hi)]
  have hs : ∀ (X : List Value) (j : Nat) (v : Value), X.length = k → j < k → (flt f (l.take i) ++ (X ++ flt f (l.drop (i + 1)))).set (i * k + j) v = flt f (l.take i) ++ (X.set j v ++ flt f (l.drop (i + 1))) := by
    intro X j v hX hj
    rw [List.set_append_right _ _ (by omega), hl, Nat.add_sub_cancel_left, List.set_append_left _ _ (by omega)]
  have ht : (flt f l).take (i * k) = flt f (l.take i) := by rw [h, List.take_left' hl]
  have hd : (flt f l).drop (i * k + k) = flt f (l.drop (i + 1)) := by
    rw [h, ← List.append_assoc, List.drop_left' (by rw [List.length_append, hl, hf])]
  rw [ht, hd, h, hs _ _ _ (hf _) h1, hs _ _ _ (by rw [List.length_set, hf]) h2, List.append_assoc]
/-- A drive that was made. -/
def AnsD (W g : Nat) (M : Med) (w : World) (v : Value) : Prop := ∃ (d : Nat) (a : Option Addr) (k c : Nat) (cs : List CellV), v = .pointer (some ⟨d, 0, none⟩) ∧ DrvAt W (fun b => W ≤ b) w d g M 0 a k c cs
theorem AnsD.st {W g : Nat} {M : Med} : ∀ (w w' : World) (v : Value), AnsD W g M w v → Below w.heap.size w w' → AnsD W g M w' v := fun _ _ _ ⟨d, a, k, c, cs, e, h⟩ hb => ⟨d, a, k, c, cs, e, h.ext hb⟩
/-- A tape that was told. -/
def AnsV (W : Nat) (M : Med) (w : World) (v : Value) : Prop := ∃ (a : Option Addr) (k c : Nat) (cs : List CellV), v = .agg #[.int .i64 M.cap, .slice a k c] ∧ MedR w W M a k c cs ∧ k ≤ c
theorem AnsV.st {W : Nat} {M : Med} : ∀ (w w' : World) (v : Value), AnsV W M w v → Below w.heap.size w w' → AnsV W M w' v := fun _ _ _ ⟨a, k, c, cs, e, h, hk⟩ hb => ⟨a, k, c, cs, e, h.ext hb, hk⟩
theorem RobL.setVol (h : RobL B K w r g S V) {nM j : Nat} {y : TapeV} {ow' : Nat → Nat} (hM : V.aM = some ⟨nM, 0, none⟩) (hj : j < S.vols.length) (hown : Own w' B 45 2 (some ⟨nM, 0, none⟩) S.vols.length V.cM (flt TapeV.cells (V.ts.set j y))) (hm : Mod (fun b T => b = nM ∧ T = 45) w w')
    (how : ∀ b, b < w.heap.size → V.ow b ≤ 5 → ow' b = V.ow b) (hy : TapeIn B (fun b => K b ∧ ow' b = 0) w' y) (hd : S.bays.length ≤ 4) : RobL B K w' r g { S with vols := S.vols.set j y.M } { V with ts := V.ts.set j y, ow := ow' } ∧ Mod (RobG B K) w w' := by
  have hrow := h.rowM
  rw [hM] at hrow
  obtain ⟨hBl, _, cur, hcur⟩ := hrow.blk (by omega)
  have hkM : K nM := by
    rcases h.inM nM hM with h0 | h0
    · omega
    · exact h0
  refine ⟨h.part (V' := { V with ts := V.ts.set j y, ow := ow' }) hm (fun b T hf => .inr (.inr hf.2)) ?_ ?_ h.bays ?_ ?_ ?_ h.inB (fun b hb h => (how b hb (by omega)).trans h) (fun x hx => ?_) fun i y hy hvy => .inl ⟨y, hy, hvy, rfl, rfl, rfl, fun b hb h => (how b hb ?_).trans h⟩, hm.mono fun b T _ hf => ⟨by rw [hf.1]; exact hBl, by rw [hf.1]; exact hkM, by rw [hf.2]; decide⟩⟩
  · show _ = some (Obj.cells #[_, _, .slice V.aM (S.vols.set j y.M).length V.cM, _, _, _] _ _)
    rw [List.length_set]
    exact hm.keep h.obj fun hf => absurd hf.2 (by decide)
  · show S.vols.set j y.M = (V.ts.set j y).map TapeV.M
    rw [List.map_set, h.vols]
  · show Own _ _ _ _ V.aM (S.vols.set j y.M).length V.cM (flt TapeV.cells (V.ts.set j y))
    rw [List.length_set, hM]; exact hown
  · exact h.rowB.mod hm fun b _ _ hf => absurd hf.2 (by decide)
  · show RowIn K V.aM (S.vols.set j y.M).length V.cM
    rw [List.length_set]; exact h.inM
  · rcases List.mem_or_eq_of_mem_set hx with hx | hx
    · exact .inl hx
    · subst hx; exact .inr hy
  · have hil := (List.getElem?_eq_some_iff.1 hy).1
    have hbl := RobL.blen ‹RobL B K w r g S V›
    change _ < V.bs.length at hil
    omega
/-- A drive holds another volume. -/
theorem RobL.setBay (h : RobL B K w r g S V) {bB i d : Nat} {b : Bay} {M : Med} {v : Int} {ow' : Nat → Nat} {a : Option Addr} {k c : Nat} {cs : List CellV} (hB : V.aB = some ⟨bB, 0, none⟩) (hi : S.bays[i]? = some b) (hv : 0 ≤ v)
    (how : ∀ b, b < w.heap.size → V.ow b ≤ 5 → V.ow b ≠ i + 1 → ow' b = V.ow b) (hD : DrvAt B (fun b => K b ∧ ow' b = i + 1) w d g M 0 a k c cs) (hd : S.bays.length ≤ 4) :
    RobL B K ((w.setCell ⟨bB, i * 3, none⟩ (.pointer (some ⟨d, 0, none⟩))).setCell ⟨bB, i * 3 + 1, none⟩ (.int .i64 v)) r g { S with bays := S.bays.set i ⟨v, b.asked, M, 0⟩ } { V with bs := V.bs.set i ⟨⟨v, b.asked, M, 0⟩, d⟩, ow := ow' } ∧
      Mod (RobG B K) w ((w.setCell ⟨bB, i * 3, none⟩ (.pointer (some ⟨d, 0, none⟩))).setCell ⟨bB, i * 3 + 1, none⟩ (.int .i64 v)) := by
  obtain ⟨x, hx, rfl⟩ := h.bget hi
  have hil : i < S.bays.length := (List.getElem?_eq_some_iff.1 hi).1
  have hil2 : i < V.bs.length := (List.getElem?_eq_some_iff.1 hx).1
  have hxe : V.bs[i] = x := by rw [List.getElem?_eq_getElem hil2] at hx; exact Option.some.inj hx
  have hrow := h.rowB
  rw [hB] at hrow
  obtain ⟨hBl, _, cur, hcur⟩ := hrow.blk (by omega)
  have hkB : K bB := by
    rcases h.inB bB hB with h0 | h0
    · omega
    · exact h0
  have hm : Mod (fun b T => b = bB ∧ T = 89) w ((w.setCell ⟨bB, i * 3, none⟩ (.pointer (some ⟨d, 0, none⟩))).setCell ⟨bB, i * 3 + 1, none⟩ (.int .i64 v)) :=
    ((Mod.refl _ w).setCell hcur ⟨rfl, rfl⟩ _ _).setCell (heap_setCell_same w bB (i * 3) cur _ _ hcur) ⟨rfl, rfl⟩ _ _
  refine ⟨h.part (V' := { V with bs := V.bs.set i ⟨⟨v, x.b.asked, M, 0⟩, d⟩, ow := ow' }) hm (fun b T hf => .inr (.inl hf.2)) ?_ h.vols ?_ ?_ ?_ h.inM ?_ (fun b hb h => (how b hb (by omega) (by omega)).trans h) (fun x hx => .inl hx) fun j y hy hvy => ?_, hm.mono fun b T _ hf => ⟨by rw [hf.1]; exact hBl, by rw [hf.1]; exact hkB, by rw [hf.2]; decide⟩⟩
  · show _ = some (Obj.cells #[_, _, _, .slice V.aB (S.bays.set i _).length V.cB, _, _] _ _)
    rw [List.length_set]
    exact hm.keep h.obj fun hf => absurd hf.2 (by decide)
  · show S.bays.set i _ = (V.bs.set i _).map BayV.b
    rw [List.map_set, ← h.bays]
  · exact h.rowM.mod hm fun b _ _ hf => absurd hf.2 (by decide)
  · show Own _ _ _ _ V.aB (S.bays.set i _).length V.cB (flt BayV.cells (V.bs.set i _))
    rw [List.length_set, hB]
    have h1 := (hrow.setAt (i * 3 + 0) (.pointer (some ⟨d, 0, none⟩)) (by omega)).setAt (i * 3 + 1) (.int .i64 v) (by omega)
    rw [flt_set2 BayV.len V.bs i 0 1 hil2 (by decide) (by decide) ⟨⟨v, x.b.asked, M, 0⟩, d⟩ (.pointer (some ⟨d, 0, none⟩)) (.int .i64 v) (by
      rw [hxe]
      unfold BayV.cells BayV.ptr
      rw [if_neg (show ¬ v < 0 by omega)]
      rfl)] at h1
    exact h1
  · show RowIn K V.aB (S.bays.set i _).length V.cB
    rw [List.length_set]; exact h.inB
  · change (V.bs.set i _)[j]? = some y at hy
    rw [List.getElem?_set] at hy
    split at hy
    · rename_i hij
      subst hij
      replace hy : some _ = some y := hy
      obtain rfl := Option.some.inj hy
      right
      exact ⟨a, k, c, cs, hD.far hm (fun b T _ hf hT => by rw [hf.2] at hT; exact absurd hT (by decide)) fun _ _ _ h => h⟩
    · rename_i hij
      left
      have hjl := (List.getElem?_eq_some_iff.1 hy).1
      have := h.blen
      exact ⟨y, hy, hvy, rfl, rfl, rfl, fun b hb h => (how b hb (by omega) (by omega)).trans h⟩
end Go.Proofs.Ytmaagkdehdmhlaa
