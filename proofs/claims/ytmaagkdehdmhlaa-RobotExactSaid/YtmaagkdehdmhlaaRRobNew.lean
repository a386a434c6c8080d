/- The page's NewRobot. -/
import Derived.Test.YtmaagkdehdmhlaaRRob
import Derived.Test.YtmaagkdehdmhlaaRobotExactPartS
import Derived.Test.YtmaagkdehdmhlaaRegionChainL
namespace Go.Proofs.Ytmaagkdehdmhlaa
open Go.RowKit

theorem infoPD : (Try.prog.info? 55).map (fun i => (i.zero, i.size, i.bytes)) = some (some (.pointer none), 1, 8) := by kernel_rfl
theorem infoIntR : (Try.prog.info? 3).map (fun i => (i.zero, i.size, i.bytes)) = some (some (.int .i64 0), 1, 8) := by kernel_rfl
/-- A new robot's rows on their way. -/
structure RRows (w : World) (W : Nat) (size : Int) (k mD mH mU : Nat) (aV : Option Addr) (cV : Nat) (aD : Option Addr) (cD : Nat) (aH : Option Addr) (cH : Nat) (aU : Option Addr) (cU : Nat) : Prop where
  rowV : Own w W 45 2 aV k cV (flt TapeV.cells (List.replicate k (tv0 size)))
  rowD : Own w W 55 1 aD mD cD (List.replicate mD (.pointer none))
  rowH : Own w W 3 1 aH mH cH (List.replicate mH (.int .i64 (-1)))
  rowU : Own w W 3 1 aU mU cU (List.replicate mU (.int .i64 0))
  ltH : ∀ x, aH = some ⟨x, 0, none⟩ → x < w.heap.size
  ltU : ∀ x, aU = some ⟨x, 0, none⟩ → x < w.heap.size
  hu : ∀ x y, aH = some ⟨x, 0, none⟩ → aU = some ⟨y, 0, none⟩ → x ≠ y
variable {w w' : World} {W : Nat} {size : Int} {k mD mH mU : Nat} {aV : Option Addr} {cV : Nat} {aD : Option Addr} {cD : Nat} {aH : Option Addr} {cH : Nat} {aU : Option Addr} {cU : Nat}
theorem RRows.ext (h : RRows w W size k mD mH mU aV cV aD cD aH cH aU cU) (hb : Below w.heap.size w w') : RRows w' W size k mD mH mU aV cV aD cD aH cH aU cU :=
  ⟨h.rowV.ext hb, h.rowD.ext hb, h.rowH.ext hb, h.rowU.ext hb, fun x hx => Nat.lt_of_lt_of_le (h.ltH x hx) hb.size, fun x hx => Nat.lt_of_lt_of_le (h.ltU x hx) hb.size, h.hu⟩
theorem RRows.set {r : Nat} {cs : Array Value} (h : RRows w W size k mD mH mU aV cV aD cD aH cH aU cU) (ho : w.heap[r]? = some (.cells cs 74 (0, 0))) (j : Nat) (v : Value) : RRows (w.setCell ⟨r, j, none⟩ v) W size k mD mH mU aV cV aD cD aH cH aU cU := by
  have hm : Mod (fun b T => b = r ∧ T = 74) w (w.setCell ⟨r, j, none⟩ v) := (Mod.refl _ w).setCell ho ⟨rfl, rfl⟩ _ _
  have hs : (w.setCell ⟨r, j, none⟩ v).heap.size = w.heap.size := World.size_setCell _ _ _
  exact ⟨h.rowV.mod hm fun _ _ _ hf => absurd hf.2 (by decide), h.rowD.mod hm fun _ _ _ hf => absurd hf.2 (by decide), h.rowH.mod hm fun _ _ _ hf => absurd hf.2 (by decide), h.rowU.mod hm fun _ _ _ hf => absurd hf.2 (by decide), fun x hx => by rw [hs]; exact h.ltH x hx, fun x hx => by rw [hs]; exact h.ltU x hx, h.hu⟩
theorem app_lt {T : TypeId} {e n c m c' : Nat} {a a' : Option Addr} {xs : List Value} (hA : AppR w w' W T e a n c a' m c' xs) (hm : 0 < m) : ∀ x, a' = some ⟨x, 0, none⟩ → x < w'.heap.size := by
  rintro x rfl
  obtain ⟨_, ⟨h0, _⟩ | ⟨g, cur, ha, hb, hh, _⟩⟩ := hA.own
  · omega
  · simp only [Option.some.injEq, Addr.mk.injEq, and_self, and_true] at ha
    subst ha
    exact heap_lt hh
theorem app_rest {T T' : TypeId} {e n c m c' : Nat} {a a' : Option Addr} {xs xs0 : List Value} (hA : AppR w w' W T e a n c a' m c' xs) (h0 : Own w W T e a n c xs0) {e2 n2 c2 B2 : Nat} {b2 : Option Addr} {ys : List Value} (h : Own w B2 T' e2 b2 n2 c2 ys) (hne : ∀ x y, a = some ⟨x, 0, none⟩ → b2 = some ⟨y, 0, none⟩ → x ≠ y) : Own w' B2 T' e2 b2 n2 c2 ys := by
  obtain ⟨hl, h1 | ⟨g, cur, ha, hb, hh, rest⟩⟩ := h
  · exact ⟨hl, .inl h1⟩
  · refine ⟨hl, .inr ⟨g, cur, ha, hb, ?_, rest⟩⟩
    rw [hA.rest g (heap_lt hh) ?_]
    · exact hh
    · obtain ⟨_, h1 | ⟨g', cur', ha', _⟩⟩ := h0
      · exact .inl h1
      · refine .inr fun o ho => ?_
        rw [ha'] at ho
        simp only [Option.some.injEq, Addr.mk.injEq, and_true] at ho
        exact hne g' g ha' ha ho.1
theorem app_apart {T : TypeId} {e n c m c' : Nat} {a a' b2 : Option Addr} {xs : List Value} (hA : AppR w w' W T e a n c a' m c' xs) (hlt : ∀ y, b2 = some ⟨y, 0, none⟩ → y < w.heap.size) (hne : ∀ x y, a = some ⟨x, 0, none⟩ → b2 = some ⟨y, 0, none⟩ → x ≠ y) : ∀ x y, a' = some ⟨x, 0, none⟩ → b2 = some ⟨y, 0, none⟩ → x ≠ y := by
  intro x y hx hy
  rcases hA.where_ with ⟨h, _⟩ | h
  · rw [h] at hx; exact hne x y hx hy
  · have := h x hx; have := hlt y hy; omega
theorem RRows.appD {a' : Option Addr} {c' : Nat} (h : RRows w W size k mD mH mU aV cV aD cD aH cH aU cU) (hA : AppR w w' W 55 1 aD mD cD a' (mD + 1) c' (List.replicate mD (.pointer none) ++ [.pointer none])) : RRows w' W size k (mD + 1) mH mU aV cV a' c' aH cH aU cU := by
  have hm : Mod (fun _ T => T = 55) w w' := hA.mod _ fun _ _ _ _ => rfl
  exact ⟨h.rowV.mod hm fun _ _ _ hf => absurd hf (by decide), by rw [List.replicate_succ']; exact hA.own, h.rowH.mod hm fun _ _ _ hf => absurd hf (by decide), h.rowU.mod hm fun _ _ _ hf => absurd hf (by decide), fun x hx => Nat.lt_of_lt_of_le (h.ltH x hx) hm.size, fun x hx => Nat.lt_of_lt_of_le (h.ltU x hx) hm.size, h.hu⟩
theorem RRows.appH {a' : Option Addr} {c' : Nat} (h : RRows w W size k mD mH mU aV cV aD cD aH cH aU cU) (hA : AppR w w' W 3 1 aH mH cH a' (mH + 1) c' (List.replicate mH (.int .i64 (-1)) ++ [.int .i64 (-1)])) : RRows w' W size k mD (mH + 1) mU aV cV aD cD a' c' aU cU := by
  have hm : Mod (fun _ T => T = 3) w w' := hA.mod _ fun _ _ _ _ => rfl
  exact ⟨h.rowV.mod hm fun _ _ _ hf => absurd hf (by decide), h.rowD.mod hm fun _ _ _ hf => absurd hf (by decide), by rw [List.replicate_succ']; exact hA.own, app_rest hA h.rowH h.rowU h.hu, app_lt hA (by omega), fun x hx => Nat.lt_of_lt_of_le (h.ltU x hx) hm.size, app_apart hA h.ltU h.hu⟩
theorem RRows.appU {a' : Option Addr} {c' : Nat} (h : RRows w W size k mD mH mU aV cV aD cD aH cH aU cU) (hA : AppR w w' W 3 1 aU mU cU a' (mU + 1) c' (List.replicate mU (.int .i64 0) ++ [.int .i64 0])) : RRows w' W size k mD mH (mU + 1) aV cV aD cD aH cH a' c' := by
  have hm : Mod (fun _ T => T = 3) w w' := hA.mod _ fun _ _ _ _ => rfl
  have hne : ∀ x y, aU = some ⟨x, 0, none⟩ → aH = some ⟨y, 0, none⟩ → x ≠ y := fun x y hx hy => (h.hu y x hy hx).symm
  exact ⟨h.rowV.mod hm fun _ _ _ hf => absurd hf (by decide), h.rowD.mod hm fun _ _ _ hf => absurd hf (by decide), app_rest hA h.rowU h.rowH hne, by rw [List.replicate_succ']; exact hA.own, fun x hx => Nat.lt_of_lt_of_le (h.ltH x hx) hm.size, app_lt hA (by omega), fun x y hx hy => (app_apart hA h.ltH hne y x hy hx).symm⟩
/-- A new robot on its way. -/
structure RRN (w : World) (W r q : Nat) (size : Int) (k m : Nat) (aV : Option Addr) (cV : Nat) (aD : Option Addr) (cD : Nat) (aH : Option Addr) (cH : Nat) (aU : Option Addr) (cU : Nat) : Prop where
  low : W ≤ r
  obj : w.heap[r]? = some (.cells #[.pointer (some ⟨q, 0, none⟩), .slice aV k cV, .slice aD m cD, .slice aH m cH, .slice aU m cU, .int .i64 0, .int .i64 0] 74 (0, 0))
  rows : RRows w W size k m m m aV cV aD cD aH cH aU cU
theorem RRN.ext {r q m : Nat} (h : RRN w W r q size k m aV cV aD cD aH cH aU cU) (hb : Below w.heap.size w w') : RRN w' W r q size k m aV cV aD cD aH cH aU cU := ⟨h.low, (hb.block r (heap_lt h.obj)).trans h.obj, h.rows.ext hb⟩
theorem RRN.appV {r q m : Nat} {a' : Option Addr} {c' : Nat} (h : RRN w W r q size k m aV cV aD cD aH cH aU cU) (hA : AppR w w' W 45 2 aV k cV a' (k + 1) c' (flt TapeV.cells (List.replicate k (tv0 size)) ++ (tv0 size).cells)) :
    RRN (w'.setCell ⟨r, 1, none⟩ (.slice a' (k + 1) c')) W r q size (k + 1) m a' c' aD cD aH cH aU cU ∧ (∃ v, w'.cell? ⟨r, 1, none⟩ = some v) ∧ w'.frozen? ⟨r, 1, none⟩ = false ∧ Below W w (w'.setCell ⟨r, 1, none⟩ (.slice a' (k + 1) c')) := by
  have hm : Mod (fun _ T => T = 45) w w' := hA.mod _ fun _ _ _ _ => rfl
  have hobj := hm.keep h.obj (by decide)
  have hr : RRows w' W size (k + 1) m m m a' c' aD cD aH cH aU cU := ⟨by rw [flt_rep_succ]; exact hA.own, h.rows.rowD.mod hm fun _ _ _ hf => absurd hf (by decide), h.rows.rowH.mod hm fun _ _ _ hf => absurd hf (by decide), h.rows.rowU.mod hm fun _ _ _ hf => absurd hf (by decide), fun x hx => Nat.lt_of_lt_of_le (h.rows.ltH x hx) hm.size, fun x hx => Nat.lt_of_lt_of_le (h.rows.ltU x hx) hm.size, h.rows.hu⟩
  exact ⟨⟨h.low, heap_setCell_same w' r 1 _ _ _ hobj, hr.set hobj _ _⟩, ⟨_, cell_of_row _ _ 1 _ _ _ hobj⟩, frozen_of_row _ _ _ _ _ hobj, hA.below.setCell (p := ⟨r, 1, none⟩) h.low _⟩

/-- What stays while three rows grow, and then their slices are stored: as long as the first slice is as it was, the object is. -/
structure PhT (r N : Nat) (old : Value) (w w' : World) : Prop where
  size : w.heap.size ≤ w'.heap.size
  new : ∀ b, N ≤ b → b < w.heap.size → w'.heap[b]? = w.heap[b]?
  obj : r < w.heap.size → w'.cell? ⟨r, 2, none⟩ = some old → w.cell? ⟨r, 2, none⟩ = some old ∧ w'.heap[r]? = w.heap[r]?
  ok : r < w.heap.size → ∀ j v, w.cell? ⟨r, j, none⟩ = some v → ∃ v', w'.cell? ⟨r, j, none⟩ = some v'
theorem PhT.rel (r N : Nat) (old : Value) : Trel (PhT r N old) :=
  ⟨fun h k => ⟨Nat.le_trans h.size k.size, fun b h1 h2 => (k.new b h1 (Nat.lt_of_lt_of_le h2 h.size)).trans (h.new b h1 h2), fun hr ho => by
      have h1 := k.obj (Nat.lt_of_lt_of_le hr h.size) ho
      have h2 := h.obj hr h1.1
      exact ⟨h2.1, h1.2.trans h2.2⟩, fun hr j v hv => by
      obtain ⟨v1, h1⟩ := h.ok hr j v hv
      exact k.ok (Nat.lt_of_lt_of_le hr h.size) j v1 h1⟩,
   fun h => ⟨h.size, fun b _ hl => h.block b hl, fun hr ho => ⟨(World.cell?_of_block (h.block r hr)).symm.trans ho, h.block r hr⟩, fun hr j v hv => ⟨v, (World.cell?_of_block (h.block r hr)).trans hv⟩⟩⟩
theorem PhT.load {r N : Nat} {old v : Value} {w0 w1 : World} (ht : PhT r N old w0 w1) (hlr : r < w0.heap.size) {j : Nat} (hc : w0.cell? ⟨r, j, none⟩ = some v) : ∃ v', w1.cell? ⟨r, j, none⟩ = some v' ∧ (r < w1.heap.size ∧ (w1.cell? ⟨r, 2, none⟩ = some old → v' = v)) := by
  obtain ⟨v', hv'⟩ := ht.ok hlr j v hc
  refine ⟨v', hv', Nat.lt_of_lt_of_le hlr ht.size, fun h2 => ?_⟩
  have := (World.cell?_of_block (w := w0) (a := ⟨r, j, none⟩) (ht.obj hlr h2).2).trans hc
  rw [hv'] at this
  exact Option.some.inj this
theorem PhT.app {r N : Nat} {old : Value} {x : Obj} {T : TypeId} {e n c m c' : Nat} {a a' : Option Addr} {xs xs0 : List Value} (ho : w.heap[r]? = some x) (ho' : w'.heap[r]? = some x) (hA : AppR w w' W T e a n c a' m c' xs) (h0 : Own w W T e a n c xs0) (hlt : ∀ g, a = some ⟨g, 0, none⟩ → (n = 0 ∧ c = 0) ∨ g < N) : PhT r N old w w' := by
  refine ⟨hA.below.size, fun b hb hl => hA.rest b hl ?_, fun _ h => ⟨(World.cell?_of_block (ho'.trans ho.symm)).symm.trans h, ho'.trans ho.symm⟩, fun _ j v hv => ⟨v, (World.cell?_of_block (ho'.trans ho.symm)).trans hv⟩⟩
  obtain ⟨_, h1 | ⟨g', cur', ha', _⟩⟩ := h0
  · exact .inl h1
  · rcases hlt g' ha' with h | h
    · exact .inl h
    · refine .inr fun o hoo => ?_
      rw [ha'] at hoo
      simp only [Option.some.injEq, Addr.mk.injEq, and_true] at hoo
      omega
theorem PhT.store {r N : Nat} {old : Value} {cs : Array Value} {T : TypeId} {j : Nat} {v : Value} (hN : r < N) (ho : w.heap[r]? = some (.cells cs T (0, 0))) (hn : (cs.setIfInBounds j v)[2]? ≠ some old) : PhT r N old w (w.setCell ⟨r, j, none⟩ v) := by
  have hg := heap_setCell_same w r j cs T v ho
  refine ⟨Nat.le_of_eq (World.size_setCell _ _ _).symm, fun b hb _ => setCell_ne b (by omega), fun _ h => ?_, fun _ i u hu => ?_⟩
  · rw [cell_of_row _ r 2 _ _ _ hg] at h
    exact absurd h hn
  · rw [cell_of_row _ r i _ _ _ ho] at hu
    rw [cell_of_row _ r i _ _ _ hg]
    have hi := (Array.getElem?_eq_some_iff.1 hu).1
    exact ⟨(cs.setIfInBounds j v)[i]'(by simpa using hi), Array.getElem?_eq_getElem _⟩
theorem own_lt {T : TypeId} {e n c : Nat} {a : Option Addr} {xs : List Value} (h : Own w W T e a n c xs) : ∀ g, a = some ⟨g, 0, none⟩ → (n = 0 ∧ c = 0) ∨ g < w.heap.size := by
  rintro g rfl
  obtain ⟨_, h1 | ⟨g', cur', ha', _, hh, _⟩⟩ := h
  · exact .inl h1
  · simp only [Option.some.injEq, Addr.mk.injEq, and_self, and_true] at ha'
    subst ha'
    exact .inr (heap_lt hh)

theorem RRN.done {B : Nat} {Z : Nat → Prop} {r q m : Nat} {sz : Nat} (h : RRN w W r q (sz : Int) k m aV cV aD cD aH cH aU cU) (hB : B ≤ W) (hZ : ∀ b, W ≤ b → Z b) (D : Nat → Nat) {s : PS} (hp : RPow B w q s) (hv : 1 ≤ k ∧ k ≤ 8) (hs : 1 ≤ sz ∧ sz ≤ 400) (hd : 1 ≤ m ∧ m ≤ 4) : RRobP B Z w r q (RS.new k sz m) D s := by
  have hbv : ∀ (i : Nat) (x : BayV), (List.replicate m bv0)[i]? = some x → x = bv0 := fun i x hx => List.eq_of_mem_replicate (List.mem_of_getElem? hx)
  have htv : ∀ x ∈ List.replicate k (tv0 (sz : Int)), x = tv0 sz := fun x hx => List.eq_of_mem_replicate hx
  have hgood := (rnew_ok k sz m hv hs hd).good
  refine ⟨⟨⟨aV, cV, aD, cD, aH, cH, aU, cU, List.replicate k (tv0 sz), List.replicate m bv0⟩, ⟨Nat.le_trans hB h.low, ?_, ?_, ?_, ?_, ?_, ?_, ?_, h.rows.hu, ?_, fun x hx => ?_, fun v hv2 _ => ?_, fun i x hx hv2 => ?_, fun i j x y hx _ hv2 => ?_⟩, fun i x hx hv2 => ?_⟩, rnew_ok k sz m hv hs hd, hp⟩
  · simp only [List.length_replicate]; exact h.obj
  · simp [RS.new, bv0]
  · simp [RS.new]
  · simp only [List.length_replicate]; exact h.rows.rowV.mono hB
  · simp only [List.length_replicate, List.map_replicate]; exact h.rows.rowD.mono hB
  · simp only [List.length_replicate, List.map_replicate]; exact h.rows.rowH.mono hB
  · simp only [List.length_replicate, List.map_replicate]; exact h.rows.rowU.mono hB
  · simp only [List.length_replicate]; exact h.rows.rowV.rowIn fun b hb _ => hZ b hb
  · obtain rfl := htv x hx
    refine ⟨⟨?_, Nat.le_refl _, ?_⟩, ?_⟩
    · exact ⟨OwnM.nil _ _ _, rfl, rfl⟩
    · exact ⟨(fun g hg => by cases hg), (fun y hy => by cases hy)⟩
    · have := hgood (tv0 (sz : Int)).M (by show (⟨(sz : Int), []⟩ : Med) ∈ List.replicate k _; exact List.mem_replicate.2 ⟨by omega, rfl⟩)
      exact this
  · have hv3 : v < k := by simpa [RS.new] using hv2
    exact ⟨tv0 sz, by rw [List.getElem?_replicate, if_pos hv3], by simp [RS.new, hv3, tv0]⟩
  · rw [hbv i x hx] at hv2; exact absurd hv2 (by decide)
  · rw [hbv i x hx] at hv2; exact absurd hv2 (by decide)
  · rw [hbv i x hx] at hv2; exact absurd hv2 (by decide)

theorem rrn_below {r : Nat} {T1 T2 T3 : TypeId} {n1 n2 n3 d1 d2 d3 m1 m2 m3 d1' d2' d3' : Nat} {b1 b2 b3 b1' b2' b3' : Option Addr} {l1 l2 l3 : List Value} {v4 v5 v6 : Value} {w0 w1 w1x w2 w2x w3 w3x w4 w5 w6 wF : World} (hr : W ≤ r) (hW : W ≤ w0.heap.size)
    (g1 : Below w0.heap.size w0 w1) (hA1 : AppR w1 w1x W T1 1 b1 n1 d1 b1' m1 d1' l1) (g2 : Below w1x.heap.size w1x w2) (hA2 : AppR w2 w2x W T2 1 b2 n2 d2 b2' m2 d2' l2) (g3 : Below w2x.heap.size w2x w3) (hA3 : AppR w3 w3x W T3 1 b3 n3 d3 b3' m3 d3' l3)
    (g4 : Below w3x.heap.size w3x w4) (g5 : Below (w4.setCell ⟨r, 2, none⟩ v4).heap.size (w4.setCell ⟨r, 2, none⟩ v4) w5) (g6 : Below (w5.setCell ⟨r, 3, none⟩ v5).heap.size (w5.setCell ⟨r, 3, none⟩ v5) w6) (gF : Below (w6.setCell ⟨r, 4, none⟩ v6).heap.size (w6.setCell ⟨r, 4, none⟩ v6) wF) : Below W w0 wF := by
  have h1 := (g1.mono hW).trans hA1.below
  have h2 := (h1.trans (g2.mono (Nat.le_trans hW h1.size))).trans hA2.below
  have h3 := (h2.trans (g3.mono (Nat.le_trans hW h2.size))).trans hA3.below
  have h4 := (h3.trans (g4.mono (Nat.le_trans hW h3.size))).setCell (p := ⟨r, 2, none⟩) hr v4
  have h5 := (h4.trans (g5.mono (Nat.le_trans hW h4.size))).setCell (p := ⟨r, 3, none⟩) hr v5
  have h6 := (h5.trans (g6.mono (Nat.le_trans hW h5.size))).setCell (p := ⟨r, 4, none⟩) hr v6
  exact h6.trans (gF.mono (Nat.le_trans hW h6.size))
set_option maxRecDepth 100000 in
set_option maxHeartbeats 8000000 in
theorem rrob_new {B : Nat} {Z : Nat → Prop} {q : Nat} {s : PS} (D : Nat → Nat) (vols sz drives : Nat) (w : World) (hu : Up B Z w) (hp : RPow B w q s) (hv : 1 ≤ vols ∧ vols ≤ 8) (hs : 1 ≤ sz ∧ sz ≤ 400) (hd : 1 ≤ drives ∧ drives ≤ 4) :
    Calls Try.prog 11 #[.pointer (some ⟨q, 0, none⟩), .int .i64 vols, .int .i64 sz, .int .i64 drives] w fun e w' => ∃ r, e = .returned (.pointer (some ⟨r, 0, none⟩)) ∧ RRobP B Z w' r q (RS.new vols sz drives) D s ∧ Below w.heap.size w w' := by
  obtain ⟨i0, hi, hz0, hz1, hz2⟩ := info_parts infoMed
  obtain ⟨i1, hj, hy0, hy1, hy2⟩ := info_parts infoPD
  obtain ⟨i2, hki, hx0, hx1, hx2⟩ := info_parts infoIntR
  have HU := Lib.hid hu
  have HP := Lib.hid hp
  obtain ⟨W, hW⟩ : ∃ W, W = w.heap.size := ⟨_, rfl⟩
  have h0 : RRN (w.alloc (.cells #[.pointer (some ⟨q, 0, none⟩), .slice none 0 0, .slice none 0 0, .slice none 0 0, .slice none 0 0, .int .i64 0, .int .i64 0] 74)) W w.heap.size q sz 0 0 none 0 none 0 none 0 none 0 :=
    ⟨by omega, heap_alloc_new w _, ⟨Own.nil _ _ _ _ _, Own.nil _ _ _ _ _, Own.nil _ _ _ _ _, Own.nil _ _ _ _ _, by simp, by simp, by simp⟩⟩
  have hb0 := ext_alloc w (.cells #[.pointer (some ⟨q, 0, none⟩), .slice none 0 0, .slice none 0 0, .slice none 0 0, .slice none 0 0, .int .i64 0, .int .i64 0] 74)
  obtain ⟨r, hr⟩ : ∃ r, r = w.heap.size := ⟨_, rfl⟩
  rw [← hr] at h0
  rw [← hW] at hb0
  have H0 := Lib.hid h0
  have HB0 := Lib.hid hb0
  have HW := Lib.hid hW
  have Hr := Lib.hid hr
  clear h0 hb0 hu hp hW
  go_enter Try.func11, Try.ntmps11
  go_wp2_with fail
  rw [← Hr.out]
  clear hr
  generalize w.alloc (.cells #[.pointer (some ⟨q, 0, none⟩), .slice none 0 0, .slice none 0 0, .slice none 0 0, .slice none 0 0, .int .i64 0, .int .i64 0] 74) = wA at *
  go_loopw [10] (fun i wr => ∃ (k : Nat) (aV : Option Addr) (cV : Nat) (wx : World), wx = wr ∧ k ≤ vols ∧ i = .int .i64 (k : Int) ∧ RRN wx W r q sz k 0 aV cV none 0 none 0 none 0 ∧ Below W w wx) (fun i _ => vols - (intOf i).toNat)
  case atStart => exact ⟨0, none, 0, _, rfl, by omega, rfl, H0.out, HB0.out⟩
  case round =>
    obtain ⟨k, aV, cV, wx, hwx, hk, rfl, hR, hB⟩ := hrel
    subst hwx
    clear H0 HB0
    have HR := Lib.hid hR
    have HB := Lib.hid hB
    have c1 := cell_of_row _ _ 1 _ _ _ hR.obj
    have c2 := cell_of_row _ _ 2 _ _ _ hR.obj
    have hlr := heap_lt hR.obj
    clear hR hB
    by_cases hlt : k < vols
    · have hba := ext_alloc wx (.cells #[.int .i64 sz, .slice none 0 0] 45)
      have HR1 := Lib.hid (HR.out.ext hba)
      have HB1 := Lib.hid (HB.out.trans (hba.mono (by have := HB.out.size; have := HW.out; omega)))
      have HS1 : W ≤ (wx.alloc (.cells #[.int .i64 sz, .slice none 0 0] 45)).heap.size := by have := HB1.out.size; have := HW.out; omega
      have HO := Lib.hid HR1.out.rows.rowV
      have hsrc : Src (wx.alloc (.cells #[.int .i64 sz, .slice none 0 0] 45)) (some ⟨wx.heap.size, 0, none⟩) (tv0 sz).cells := src_new wx _ _
      clear hba
      go_wp2_with (refine wpList_appm rfl (.tmp 24) (.tmp 27) 70 rfl W 45 i0 (.agg #[.int .i64 0, .slice none 0 0]) 2 32 Try.underlying70 hi hz0 hz1 hz2 rfl (by decide) aV k cV (flt TapeV.cells (List.replicate k (tv0 sz))) rfl HO.out (some ⟨wx.heap.size, 0, none⟩) 1 1 (tv0 sz).cells rfl rfl hsrc (TapeV.one _) (by unfold maxLen; omega) (by omega) HS1 ?_
                   intro a4 c4 w4 hA4
                   have hR4 := HR1.out.appV hA4
                   obtain ⟨hR5, ⟨u5, hu5⟩, hf5, hb5⟩ := hR4
                   have HR5 := Lib.hid hR5
                   have HB5 := Lib.hid (HB1.out.trans hb5)
                   have hl4 : r < w4.heap.size := cell_lt hu5
                   clear hR5 hb5 hA4)
      go_roundw
      case rel => exact ⟨k + 1, a4, c4, _, rfl, by omega, by go_num, HR5.out, HB5.out⟩
      case measure => simp [intOf]; omega
    · obtain rfl : vols = k := by omega
      clear c1 c2 hlr
      go_wp2_with fail
      go_loopw [11] (fun i wr => ∃ (m : Nat) (aD : Option Addr) (cD : Nat) (aH : Option Addr) (cH : Nat) (aU : Option Addr) (cU : Nat) (wx : World), wx = wr ∧ m ≤ drives ∧ i = .int .i64 (m : Int) ∧ RRN wx W r q sz vols m aV cV aD cD aH cH aU cU ∧ Below W w wx) (fun i _ => drives - (intOf i).toNat)
      case atStart => exact ⟨0, none, 0, none, 0, none, 0, _, rfl, by omega, rfl, HR.out, HB.out⟩
      case round =>
        obtain ⟨m, aD, cD, aH, cH, aU, cU, wy, hwy, hm, rfl, hR, hB⟩ := hrel
        subst hwy
        clear HR HB
        have HR := Lib.hid hR
        have HB := Lib.hid hB
        have hob := hR.obj
        have c2 := cell_of_row _ _ 2 _ _ _ hR.obj
        have c3 := cell_of_row _ _ 3 _ _ _ hR.obj
        have c4 := cell_of_row _ _ 4 _ _ _ hR.obj
        have hlr := heap_lt hR.obj
        have hWy : W ≤ wy.heap.size := by have := hB.size; have := HW.out; omega
        have hltD := own_lt hR.rows.rowD
        have hltH := own_lt hR.rows.rowH
        have hltU := own_lt hR.rows.rowU
        clear hR hB
        by_cases hlt : m < drives
        · go_wp2_with fail
          refine wp_region_chainL (by kernel_rfl) [8, 14, 20, 23, 26, 29] (PhT.rel r wy.heap.size (.slice aD m cD)) [SpT.eq (.pointer (some ⟨r, 0, none⟩)), SpT.eq (.pointer (some ⟨r, 0, none⟩)), SpT.eq (.pointer (some ⟨r, 0, none⟩)), SpT.eq (.pointer (some ⟨r, 0, none⟩)), SpT.eq (.pointer (some ⟨r, 0, none⟩)), SpT.eq (.pointer (some ⟨r, 2, none⟩)), ⟨fun w v => r < w.heap.size ∧ (w.cell? ⟨r, 2, none⟩ = some (.slice aD m cD) → v = .slice aD m cD), fun _ _ _ h ht => ⟨Nat.lt_of_lt_of_le h.1 ht.size, fun h2 => h.2 (ht.obj h.1 h2).1⟩⟩, ⟨fun w' v => ∃ g, v = .slice (some ⟨g, 0, none⟩) 1 1 ∧ wy.heap.size ≤ g ∧ w'.heap[g]? = some (.cells #[.pointer none] 55), fun _ _ _ ⟨g, h, hg, hc⟩ ht => ⟨g, h, hg, (ht.new g hg (heap_lt hc)).trans hc⟩⟩, SpT.top, SpT.eq (.pointer (some ⟨r, 0, none⟩)), SpT.eq (.pointer (some ⟨r, 0, none⟩)), SpT.eq (.pointer (some ⟨r, 3, none⟩)), ⟨fun w v => r < w.heap.size ∧ (w.cell? ⟨r, 2, none⟩ = some (.slice aD m cD) → v = .slice aH m cH), fun _ _ _ h ht => ⟨Nat.lt_of_lt_of_le h.1 ht.size, fun h2 => h.2 (ht.obj h.1 h2).1⟩⟩, ⟨fun w' v => ∃ g, v = .slice (some ⟨g, 0, none⟩) 1 1 ∧ wy.heap.size ≤ g ∧ w'.heap[g]? = some (.cells #[.int .i64 (-1)] 3), fun _ _ _ ⟨g, h, hg, hc⟩ ht => ⟨g, h, hg, (ht.new g hg (heap_lt hc)).trans hc⟩⟩, SpT.top, SpT.eq (.pointer (some ⟨r, 0, none⟩)), SpT.eq (.pointer (some ⟨r, 0, none⟩)), SpT.eq (.pointer (some ⟨r, 4, none⟩)), ⟨fun w v => r < w.heap.size ∧ (w.cell? ⟨r, 2, none⟩ = some (.slice aD m cD) → v = .slice aU m cU), fun _ _ _ h ht => ⟨Nat.lt_of_lt_of_le h.1 ht.size, fun h2 => h.2 (ht.obj h.1 h2).1⟩⟩, ⟨fun w' v => ∃ g, v = .slice (some ⟨g, 0, none⟩) 1 1 ∧ wy.heap.size ≤ g ∧ w'.heap[g]? = some (.cells #[.int .i64 0] 3), fun _ _ _ ⟨g, h, hg, hc⟩ ht => ⟨g, h, hg, (ht.new g hg (heap_lt hc)).trans hc⟩⟩, SpT.top, SpT.eq (.pointer (some ⟨r, 0, none⟩)), SpT.eq (.pointer (some ⟨r, 2, none⟩)), SpT.top, SpT.eq (.pointer (some ⟨r, 0, none⟩)), SpT.eq (.pointer (some ⟨r, 3, none⟩)), SpT.top, SpT.eq (.pointer (some ⟨r, 0, none⟩)), SpT.eq (.pointer (some ⟨r, 4, none⟩)), SpT.top] (by kernel_rfl) (by kernel_rfl) (by kernel_rfl) (by kernel_rfl) ?_ ?_
          · refine stepsL_free rfl ?_ (stepsL_free rfl ?_ (stepsL_free rfl ?_ (stepsL_free rfl ?_ (stepsL_free rfl ?_ (stepsL_free rfl ?_ (stepsL_free rfl ?_ (stepsL_free rfl ?_ (stepsL_chain rfl (stepsL_free rfl ?_ (stepsL_free rfl ?_ (stepsL_free rfl ?_ (stepsL_free rfl ?_ (stepsL_free rfl ?_ (stepsL_chain rfl (stepsL_free rfl ?_ (stepsL_free rfl ?_ (stepsL_free rfl ?_ (stepsL_free rfl ?_ (stepsL_free rfl ?_ (stepsL_chain rfl (stepsL_free rfl ?_ (stepsL_free rfl ?_ (stepsL_chain rfl (stepsL_free rfl ?_ (stepsL_free rfl ?_ (stepsL_chain rfl (stepsL_free rfl ?_ (stepsL_free rfl ?_ (stepsL_chain rfl (stepsL_nil))))))))))))))))))))))))))))))
            · intro ρ w' E
              have e9 : ρ (.tmp 9) = .pointer (some ⟨r, 0, none⟩) := E.out 9 rfl
              refine step_plain rfl ?_
              exact op_move (.inl rfl) e9 ⟨Below.refl _ _, rfl⟩
            · intro ρ w' E
              have e9 : ρ (.tmp 9) = .pointer (some ⟨r, 0, none⟩) := E.out 9 rfl
              refine step_plain rfl ?_
              exact op_move (.inl rfl) e9 ⟨Below.refl _ _, rfl⟩
            · intro ρ w' E
              have e9 : ρ (.tmp 9) = .pointer (some ⟨r, 0, none⟩) := E.out 9 rfl
              refine step_plain rfl ?_
              exact op_move (.inl rfl) e9 ⟨Below.refl _ _, rfl⟩
            · intro ρ w' E
              have e9 : ρ (.tmp 9) = .pointer (some ⟨r, 0, none⟩) := E.out 9 rfl
              refine step_plain rfl ?_
              exact op_move (.inl rfl) e9 ⟨Below.refl _ _, rfl⟩
            · intro ρ w' E
              have e39 : ρ (.tmp 39) = .pointer (some ⟨r, 0, none⟩) := E.pre 3 rfl rfl
              refine step_plain rfl ?_
              refine op_val (v := .pointer (some ⟨r, 0, none⟩)) (w' := w') ?_ ⟨Below.refl _ _, rfl⟩
              have hcon := E.con
              clear E
              go_simp
            · intro ρ w' E
              have e40 : ρ (.tmp 40) = .pointer (some ⟨r, 0, none⟩) := E.pre 4 rfl rfl
              refine step_plain rfl ?_
              refine op_val (v := .pointer (some ⟨r, 2, none⟩)) (w' := w') ?_ ⟨Below.refl _ _, rfl⟩
              have hcon := E.con
              clear E
              go_simp
            · intro ρ w' E
              have e41 : ρ (.tmp 41) = .pointer (some ⟨r, 2, none⟩) := E.pre 5 rfl rfl
              refine step_plain rfl ?_
              obtain ⟨v', hv', hval⟩ := E.t.load hlr (j := 2) c2
              refine op_val (v := v') (w' := w') ?_ ⟨Below.refl _ _, hval⟩
              have hcon := E.con
              clear E c2 c3 c4 hval
              go_simp
            · intro ρ w' E
              refine step_plain rfl ?_
              refine op_val (v := .slice (some ⟨w'.heap.size, 0, none⟩) 1 1) (w' := w'.alloc (.cells #[.pointer none] 55)) (by have hcon := E.con; clear E c2 c3 c4; go_simp) ⟨ext_alloc _ _, w'.heap.size, rfl, E.t.size, heap_alloc_new _ _⟩
            · intro ρ w' E
              have e9 : ρ (.tmp 9) = .pointer (some ⟨r, 0, none⟩) := E.out 9 rfl
              refine step_plain rfl ?_
              exact op_move (.inl rfl) e9 ⟨Below.refl _ _, rfl⟩
            · intro ρ w' E
              have e45 : ρ (.tmp 45) = .pointer (some ⟨r, 0, none⟩) := E.pre 9 rfl rfl
              refine step_plain rfl ?_
              refine op_val (v := .pointer (some ⟨r, 0, none⟩)) (w' := w') ?_ ⟨Below.refl _ _, rfl⟩
              have hcon := E.con
              clear E
              go_simp
            · intro ρ w' E
              have e46 : ρ (.tmp 46) = .pointer (some ⟨r, 0, none⟩) := E.pre 10 rfl rfl
              refine step_plain rfl ?_
              refine op_val (v := .pointer (some ⟨r, 3, none⟩)) (w' := w') ?_ ⟨Below.refl _ _, rfl⟩
              have hcon := E.con
              clear E
              go_simp
            · intro ρ w' E
              have e47 : ρ (.tmp 47) = .pointer (some ⟨r, 3, none⟩) := E.pre 11 rfl rfl
              refine step_plain rfl ?_
              obtain ⟨v', hv', hval⟩ := E.t.load hlr (j := 3) c3
              refine op_val (v := v') (w' := w') ?_ ⟨Below.refl _ _, hval⟩
              have hcon := E.con
              clear E c2 c3 c4 hval
              go_simp
            · intro ρ w' E
              refine step_plain rfl ?_
              refine op_val (v := .slice (some ⟨w'.heap.size, 0, none⟩) 1 1) (w' := w'.alloc (.cells #[.int .i64 (-1)] 3)) (by have hcon := E.con; clear E c2 c3 c4; go_simp) ⟨ext_alloc _ _, w'.heap.size, rfl, E.t.size, heap_alloc_new _ _⟩
            · intro ρ w' E
              have e9 : ρ (.tmp 9) = .pointer (some ⟨r, 0, none⟩) := E.out 9 rfl
              refine step_plain rfl ?_
              exact op_move (.inl rfl) e9 ⟨Below.refl _ _, rfl⟩
            · intro ρ w' E
              have e51 : ρ (.tmp 51) = .pointer (some ⟨r, 0, none⟩) := E.pre 15 rfl rfl
              refine step_plain rfl ?_
              refine op_val (v := .pointer (some ⟨r, 0, none⟩)) (w' := w') ?_ ⟨Below.refl _ _, rfl⟩
              have hcon := E.con
              clear E
              go_simp
            · intro ρ w' E
              have e52 : ρ (.tmp 52) = .pointer (some ⟨r, 0, none⟩) := E.pre 16 rfl rfl
              refine step_plain rfl ?_
              refine op_val (v := .pointer (some ⟨r, 4, none⟩)) (w' := w') ?_ ⟨Below.refl _ _, rfl⟩
              have hcon := E.con
              clear E
              go_simp
            · intro ρ w' E
              have e53 : ρ (.tmp 53) = .pointer (some ⟨r, 4, none⟩) := E.pre 17 rfl rfl
              refine step_plain rfl ?_
              obtain ⟨v', hv', hval⟩ := E.t.load hlr (j := 4) c4
              refine op_val (v := v') (w' := w') ?_ ⟨Below.refl _ _, hval⟩
              have hcon := E.con
              clear E c2 c3 c4 hval
              go_simp
            · intro ρ w' E
              refine step_plain rfl ?_
              refine op_val (v := .slice (some ⟨w'.heap.size, 0, none⟩) 1 1) (w' := w'.alloc (.cells #[.int .i64 0] 3)) (by have hcon := E.con; clear E c2 c3 c4; go_simp) ⟨ext_alloc _ _, w'.heap.size, rfl, E.t.size, heap_alloc_new _ _⟩
            · intro ρ w' E
              have e36 : ρ (.tmp 36) = .pointer (some ⟨r, 0, none⟩) := E.pre 0 rfl rfl
              refine step_plain rfl ?_
              refine op_val (v := .pointer (some ⟨r, 0, none⟩)) (w' := w') ?_ ⟨Below.refl _ _, rfl⟩
              have hcon := E.con
              clear E
              go_simp
            · intro ρ w' E
              have e57 : ρ (.tmp 57) = .pointer (some ⟨r, 0, none⟩) := E.pre 21 rfl rfl
              refine step_plain rfl ?_
              refine op_val (v := .pointer (some ⟨r, 2, none⟩)) (w' := w') ?_ ⟨Below.refl _ _, rfl⟩
              have hcon := E.con
              clear E
              go_simp
            · intro ρ w' E
              have e37 : ρ (.tmp 37) = .pointer (some ⟨r, 0, none⟩) := E.pre 1 rfl rfl
              refine step_plain rfl ?_
              refine op_val (v := .pointer (some ⟨r, 0, none⟩)) (w' := w') ?_ ⟨Below.refl _ _, rfl⟩
              have hcon := E.con
              clear E
              go_simp
            · intro ρ w' E
              have e59 : ρ (.tmp 59) = .pointer (some ⟨r, 0, none⟩) := E.pre 24 rfl rfl
              refine step_plain rfl ?_
              refine op_val (v := .pointer (some ⟨r, 3, none⟩)) (w' := w') ?_ ⟨Below.refl _ _, rfl⟩
              have hcon := E.con
              clear E
              go_simp
            · intro ρ w' E
              have e38 : ρ (.tmp 38) = .pointer (some ⟨r, 0, none⟩) := E.pre 2 rfl rfl
              refine step_plain rfl ?_
              refine op_val (v := .pointer (some ⟨r, 0, none⟩)) (w' := w') ?_ ⟨Below.refl _ _, rfl⟩
              have hcon := E.con
              clear E
              go_simp
            · intro ρ w' E
              have e61 : ρ (.tmp 61) = .pointer (some ⟨r, 0, none⟩) := E.pre 27 rfl rfl
              refine step_plain rfl ?_
              refine op_val (v := .pointer (some ⟨r, 4, none⟩)) (w' := w') ?_ ⟨Below.refl _ _, rfl⟩
              have hcon := E.con
              clear E
              go_simp
          · intro ρ1 w1c G1 E1
            have p42 : (fun w v => r < w.heap.size ∧ (w.cell? ⟨r, 2, none⟩ = some (.slice aD m cD) → v = .slice aD m cD)) w1c (ρ1 (.tmp 42)) := E1.pre 6 rfl rfl
            have p43 : (fun w' v => ∃ g, v = .slice (some ⟨g, 0, none⟩) 1 1 ∧ wy.heap.size ≤ g ∧ w'.heap[g]? = some (.cells #[.pointer none] 55)) w1c (ρ1 (.tmp 43)) := E1.pre 7 rfl rfl
            refine step_plain rfl ?_
            have hob1 := (G1.block r hlr).trans hob
            have hR1 := (HR.out.rows).ext G1
            have s42 := p42.2 (cell_of_row _ _ 2 _ _ _ hob1)
            obtain ⟨g1, e43, hg1, hc1⟩ := p43
            refine op_appm (s := .tmp 42) (x := .tmp 43) (t := 71) rfl W 55 i1 (.pointer none) 1 8 Try.underlying71 hj hy0 hy1 hy2 rfl (by decide) aD m cD (List.replicate m (.pointer none)) s42 (hR1.rowD) (some ⟨g1, 0, none⟩) 1 1 [.pointer none] e43 rfl (Or.inr ⟨g1, 0, _, _, _, rfl, hc1, rfl⟩) (by simp [Value.oneCell']) (by unfold maxLen; omega) (by omega) (Nat.le_trans hWy (G1.size)) ?_
            intro a1x c1x w1x hA1
            have hob1x := (hA1.mod (fun _ T => T = 55) fun _ _ _ _ => rfl).keep hob1 (by decide)
            have hsz1 : wy.heap.size ≤ w1x.heap.size := Nat.le_trans (G1.size) hA1.below.size
            have hR1x := hR1.appD hA1
            refine ⟨PhT.app hob1 hob1x hA1 hR1.rowD hltD, ?_⟩
            intro ρ2 w2c G2 E2
            have p48 : (fun w v => r < w.heap.size ∧ (w.cell? ⟨r, 2, none⟩ = some (.slice aD m cD) → v = .slice aH m cH)) w2c (ρ2 (.tmp 48)) := E2.pre 12 rfl rfl
            have p49 : (fun w' v => ∃ g, v = .slice (some ⟨g, 0, none⟩) 1 1 ∧ wy.heap.size ≤ g ∧ w'.heap[g]? = some (.cells #[.int .i64 (-1)] 3)) w2c (ρ2 (.tmp 49)) := E2.pre 13 rfl rfl
            refine step_plain rfl ?_
            have hob2 := (G2.block r (heap_lt hob1x)).trans hob1x
            have hR2 := hR1x.ext G2
            have s48 := p48.2 (cell_of_row _ _ 2 _ _ _ hob2)
            obtain ⟨g2, e49, hg2, hc2⟩ := p49
            refine op_appm (s := .tmp 48) (x := .tmp 49) (t := 72) rfl W 3 i2 (.int .i64 0) 1 8 Try.underlying72 hki hx0 hx1 hx2 rfl (by decide) aH m cH (List.replicate m (.int .i64 (-1))) s48 (hR2.rowH) (some ⟨g2, 0, none⟩) 1 1 [.int .i64 (-1)] e49 rfl (Or.inr ⟨g2, 0, _, _, _, rfl, hc2, rfl⟩) (by simp [Value.oneCell']) (by unfold maxLen; omega) (by omega) (Nat.le_trans hWy (Nat.le_trans hsz1 G2.size)) ?_
            intro a2x c2x w2x hA2
            have hob2x := (hA2.mod (fun _ T => T = 3) fun _ _ _ _ => rfl).keep hob2 (by decide)
            have hsz2 : wy.heap.size ≤ w2x.heap.size := Nat.le_trans (Nat.le_trans hsz1 G2.size) hA2.below.size
            have hR2x := hR2.appH hA2
            refine ⟨PhT.app hob2 hob2x hA2 hR2.rowH hltH, ?_⟩
            intro ρ3 w3c G3 E3
            have p54 : (fun w v => r < w.heap.size ∧ (w.cell? ⟨r, 2, none⟩ = some (.slice aD m cD) → v = .slice aU m cU)) w3c (ρ3 (.tmp 54)) := E3.pre 18 rfl rfl
            have p55 : (fun w' v => ∃ g, v = .slice (some ⟨g, 0, none⟩) 1 1 ∧ wy.heap.size ≤ g ∧ w'.heap[g]? = some (.cells #[.int .i64 0] 3)) w3c (ρ3 (.tmp 55)) := E3.pre 19 rfl rfl
            refine step_plain rfl ?_
            have hob3 := (G3.block r (heap_lt hob2x)).trans hob2x
            have hR3 := hR2x.ext G3
            have s54 := p54.2 (cell_of_row _ _ 2 _ _ _ hob3)
            obtain ⟨g3, e55, hg3, hc3⟩ := p55
            refine op_appm (s := .tmp 54) (x := .tmp 55) (t := 72) rfl W 3 i2 (.int .i64 0) 1 8 Try.underlying72 hki hx0 hx1 hx2 rfl (by decide) aU m cU (List.replicate m (.int .i64 0)) s54 (hR3.rowU) (some ⟨g3, 0, none⟩) 1 1 [.int .i64 0] e55 rfl (Or.inr ⟨g3, 0, _, _, _, rfl, hc3, rfl⟩) (by simp [Value.oneCell']) (by unfold maxLen; omega) (by omega) (Nat.le_trans hWy (Nat.le_trans hsz2 G3.size)) ?_
            intro a3x c3x w3x hA3
            have hob3x := (hA3.mod (fun _ T => T = 3) fun _ _ _ _ => rfl).keep hob3 (by decide)
            have hsz3 : wy.heap.size ≤ w3x.heap.size := Nat.le_trans (Nat.le_trans hsz2 G3.size) hA3.below.size
            have hR3x := hR3.appU hA3
            refine ⟨PhT.app hob3 hob3x hA3 hR3.rowU hltU, ?_⟩
            intro ρ4 w4c G4 E4
            have e58 : ρ4 (.tmp 58) = .pointer (some ⟨r, 2, none⟩) := E4.pre 22 rfl rfl
            have e44 : ρ4 (.tmp 44) = .slice a1x (m + 1) c1x := E4.chn 8 44 rfl rfl rfl
            refine step_plain rfl ?_
            have hob4 := (G4.block r (heap_lt hob3x)).trans hob3x
            have hR4 := hR3x.ext G4
            refine op_store rfl e58 e44 rfl (cell_of_row _ _ 2 _ _ _ hob4) (frozen_of_row _ _ _ _ _ hob4) (by kernel_rfl) ⟨PhT.store hlr hob4 (by simp), ?_⟩
            have hob4x := heap_setCell_same w4c r 2 _ _ (.slice a1x (m + 1) c1x) hob4
            have hR4x := hR4.set hob4 2 (.slice a1x (m + 1) c1x)
            intro ρ5 w5c G5 E5
            have e60 : ρ5 (.tmp 60) = .pointer (some ⟨r, 3, none⟩) := E5.pre 25 rfl rfl
            have e50 : ρ5 (.tmp 50) = .slice a2x (m + 1) c2x := E5.chn 14 50 rfl rfl rfl
            refine step_plain rfl ?_
            have hob5 := (G5.block r (heap_lt hob4x)).trans hob4x
            have hR5 := hR4x.ext G5
            refine op_store rfl e60 e50 rfl (cell_of_row _ _ 3 _ _ _ hob5) (frozen_of_row _ _ _ _ _ hob5) (by kernel_rfl) ⟨PhT.store hlr hob5 (by simp), ?_⟩
            have hob5x := heap_setCell_same w5c r 3 _ _ (.slice a2x (m + 1) c2x) hob5
            have hR5x := hR5.set hob5 3 (.slice a2x (m + 1) c2x)
            intro ρ6 w6c G6 E6
            have e62 : ρ6 (.tmp 62) = .pointer (some ⟨r, 4, none⟩) := E6.pre 28 rfl rfl
            have e56 : ρ6 (.tmp 56) = .slice a3x (m + 1) c3x := E6.chn 20 56 rfl rfl rfl
            refine step_plain rfl ?_
            have hob6 := (G6.block r (heap_lt hob5x)).trans hob5x
            have hR6 := hR5x.ext G6
            refine op_store rfl e62 e56 rfl (cell_of_row _ _ 4 _ _ _ hob6) (frozen_of_row _ _ _ _ _ hob6) (by kernel_rfl) ⟨trivial, ?_⟩
            have hob6x := heap_setCell_same w6c r 4 _ _ (.slice a3x (m + 1) c3x) hob6
            have hR6x := hR6.set hob6 4 (.slice a3x (m + 1) c3x)
            intro σ wF GF hκ
            simp only [upd, updL, dstsOf', elemB, List.filterMap_cons, List.filterMap_nil, Nat.reduceAdd, Nat.reduceBEq, Bool.or_false, Bool.false_or, Bool.or_true, Bool.true_or, cond_true, cond_false, Nat.zero_add]
            have HRF : Hid (RRN wF W r q sz vols (m + 1) aV cV a1x c1x a2x c2x a3x c3x) := Lib.hid (RRN.ext ⟨HR.out.low, hob6x, hR6x⟩ GF)
            have HBF : Hid (Below W w wF) := Lib.hid (HB.out.trans (rrn_below HR.out.low hWy G1 hA1 G2 hA2 G3 hA3 G4 G5 G6 GF))
            clear HR HB c2 c3 c4 hlr hltD hltH hltU hWy hκ GF G1 G2 G3 G4 G5 G6 E1 E2 E3 E4 E5 E6 hA1 hA2 hA3 hR1 hR2 hR3 hR4 hR5 hR6 hR1x hR2x hR3x hR4x hR5x hR6x hob hob1 hob2 hob3 hob4 hob5 hob6 hob1x hob2x hob3x hob4x hob5x hob6x hsz1 hsz2 hsz3 p42 p48 p54 s42 s48 s54 e43 e49 e55 e44 e50 e56 e58 e60 e62 hg1 hg2 hg3 hc1 hc2 hc3
            go_wp2_with fail
            go_roundw
            case rel => exact ⟨m + 1, _, _, _, _, _, _, _, rfl, by omega, by go_num, HRF.out, HBF.out⟩
            case measure => simp [intOf]; omega
        · obtain rfl : drives = m := by omega
          clear c2 c3 c4 hob
          go_wp2
          go_ret
          have hb := HB.out
          rw [HW.out] at hb
          exact ⟨r, rfl, HR.out.done (by rw [HW.out]; exact HU.out.le) (fun b hb => HU.out.up b (by rw [← HW.out]; exact hb)) D (HP.out.ext hb) hv hs hd, hb⟩
end Go.Proofs.Ytmaagkdehdmhlaa
