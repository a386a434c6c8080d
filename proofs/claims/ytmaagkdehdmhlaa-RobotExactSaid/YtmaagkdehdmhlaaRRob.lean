/- The page's robot as it lies. Its tapes are never written in place. -/
import Derived.Test.YtmaagkdehdmhlaaRob
import Derived.Test.YtmaagkdehdmhlaaRobIn
import Derived.Test.YtmaagkdehdmhlaaRobotExactPartS
import Derived.Test.YtmaagkdehdmhlaaRobPut
namespace Go.Proofs.Ytmaagkdehdmhlaa
open Go.RowKit

theorem set_same {α : Type} {l : List α} {i : Nat} {x : α} (h : l[i]? = some x) : l.set i x = l := by
  apply List.ext_getElem?
  intro j
  rw [List.getElem?_set]
  have hi := (List.getElem?_eq_some_iff.1 h).1
  by_cases hij : i = j
  · subst hij; rw [if_pos rfl, if_pos hi, h]
  · rw [if_neg hij]
/-- A layout of the page's robot: its rows, its tapes, its drives. -/
structure RRV where
  aV : Option Addr
  cV : Nat
  aD : Option Addr
  cD : Nat
  aH : Option Addr
  cH : Nat
  aU : Option Addr
  cU : Nat
  ts : List TapeV
  bs : List BayV
def BayV.held (x : BayV) : Value := .int .i64 x.b.vol
def BayV.used (x : BayV) : Value := .int .i64 x.b.asked
/-- The page's robot, of the power in block q, is S; a tape of a volume that a drive holds is any right one. -/
structure RRbL (B : Nat) (Z : Nat → Prop) (w : World) (r q : Nat) (S : RS) (V : RRV) : Prop where
  low : B ≤ r
  obj : w.heap[r]? = some (.cells #[.pointer (some ⟨q, 0, none⟩), .slice V.aV V.ts.length V.cV, .slice V.aD V.bs.length V.cD, .slice V.aH V.bs.length V.cH, .slice V.aU V.bs.length V.cU, .int .i64 S.asked, .int .i64 S.mounts] 74 (0, 0))
  bays : S.bays = V.bs.map BayV.b
  nts : V.ts.length = S.vols.length
  rowV : Own w B 45 2 V.aV V.ts.length V.cV (flt TapeV.cells V.ts)
  rowD : Own w B 55 1 V.aD V.bs.length V.cD (V.bs.map BayV.ptr)
  rowH : Own w B 3 1 V.aH V.bs.length V.cH (V.bs.map BayV.held)
  rowU : Own w B 3 1 V.aU V.bs.length V.cU (V.bs.map BayV.used)
  hu : ∀ x y, V.aH = some ⟨x, 0, none⟩ → V.aU = some ⟨y, 0, none⟩ → x ≠ y
  inV : RowIn Z V.aV V.ts.length V.cV
  tape : ∀ x ∈ V.ts, TapeIn B Z w x ∧ x.M.ok = true ∧ x.M.cap = S.size
  vol : ∀ v : Nat, v < S.vols.length → findV v S.bays = none → ∃ x, V.ts[v]? = some x ∧ S.vols[v]? = some x.M
  drv : ∀ (i : Nat) (x : BayV), V.bs[i]? = some x → 0 ≤ x.b.vol → ∃ a k c cs, RDr B w x.d q x.b.M x.b.at_ a k c cs ∧ RowsIn Z a k c cs
  one : ∀ (i j : Nat) (x y : BayV), V.bs[i]? = some x → V.bs[j]? = some y → 0 ≤ x.b.vol → 0 ≤ y.b.vol → x.d = y.d → i = j
def RRobP (B : Nat) (Z : Nat → Prop) (w : World) (r q : Nat) (S : RS) (D : Nat → Nat) (s : PS) : Prop :=
  (∃ V, RRbL B Z w r q S V ∧ ∀ (i : Nat) (x : BayV), V.bs[i]? = some x → 0 ≤ x.b.vol → x.d = D i) ∧ S.ok ∧ RPow B w q s
def RQT : List TypeId := [84, 74, 63, 55, 3]
/-- What its methods may write. -/
abbrev RRF (B : Nat) (Z : Nat → Prop) : Nat → TypeId → Prop := fun b T => B ≤ b ∧ (T ∈ RQT ∨ Z b ∧ T = 45)

variable {B : Nat} {Z Z' : Nat → Prop} {w w' : World} {r q : Nat} {S : RS} {V : RRV} {D : Nat → Nat} {s : PS}
theorem rdr_far {F : Nat → TypeId → Prop} {rd : Nat} {M : Med} {at_ : Int} {a : Option Addr} {k c : Nat} {cs : List CellV} (h : RDr B w rd q M at_ a k c cs) (hz : RowsIn Z a k c cs) (hm : Mod F w w') (hD : ¬ F rd 63)
    (hF : ∀ b T, b < w.heap.size → F b T → (T = 42 ∨ T = 5) → ¬ Z b) : RDr B w' rd q M at_ a k c cs :=
  ⟨h.low, hm.keep h.obj hD, h.r.far hz hm hF, h.cap⟩
/-- Others write. -/
theorem RRbL.far {F : Nat → TypeId → Prop} (h : RRbL B Z w r q S V) (hm : Mod F w w') (hF : ∀ b T, b < w.heap.size → F b T → T ∉ RQT ∧ (T = 45 ∨ T = 42 ∨ T = 5 → ¬ Z b)) (hZ : ∀ b, B ≤ b → b < w.heap.size → Z b → Z' b) : RRbL B Z' w' r q S V := by
  have hno : ∀ T, T ∈ RQT → ∀ b, b < w.heap.size → ¬ F b T := fun T hT b hb hf => (hF b T hb hf).1 hT
  have hnz : ∀ b T, b < w.heap.size → F b T → (T = 42 ∨ T = 5) → ¬ Z b := fun b T hb hf hT => (hF b T hb hf).2 (hT.elim (fun h => .inr (.inl h)) fun h => .inr (.inr h))
  refine ⟨h.low, hm.keep h.obj (hno _ (by decide) _ (heap_lt h.obj)), h.bays, h.nts, h.rowV.far h.inV hm (fun b hb hf => (hF b _ hb hf).2 (.inl rfl)), ?_, ?_, ?_, h.hu, h.rowV.rowInAnd h.inV hZ, fun x hx => ⟨(h.tape x hx).1.far hm hnz hZ, (h.tape x hx).2⟩, h.vol, fun i x hx hv => ?_, h.one⟩
  · exact h.rowD.mod hm fun g _ hl => hno _ (by decide) g hl
  · exact h.rowH.mod hm fun g _ hl => hno _ (by decide) g hl
  · exact h.rowU.mod hm fun g _ hl => hno _ (by decide) g hl
  · obtain ⟨a, k, c, cs, hd, hz⟩ := h.drv i x hx hv
    exact ⟨a, k, c, cs, rdr_far hd hz hm (hno _ (by decide) _ (heap_lt hd.obj)) hnz, hz.rek hd.r hZ⟩
theorem RRbL.ext (h : RRbL B Z w r q S V) (hb : Below w.heap.size w w') : RRbL B Z w' r q S V := h.far (bmod hb fun _ _ => False) (fun _ _ _ hf => hf.elim) fun _ _ _ h => h
theorem RRobP.far {F : Nat → TypeId → Prop} (h : RRobP B Z w r q S D s) (hm : Mod F w w') (hF : ∀ b T, b < w.heap.size → F b T → T ∉ RQT ∧ (T = 45 ∨ T = 42 ∨ T = 5 → ¬ Z b)) (hZ : ∀ b, B ≤ b → b < w.heap.size → Z b → Z' b) (hp : ∀ b T, F b T → T ≠ 84 ∧ T ≠ 4) : RRobP B Z' w' r q S D s := by
  obtain ⟨⟨V, h1, h2⟩, h3, h4⟩ := h
  exact ⟨⟨V, h1.far hm hF hZ, h2⟩, h3, h4.mod hm hp⟩
theorem RRobP.ext (h : RRobP B Z w r q S D s) (hb : Below w.heap.size w w') : RRobP B Z w' r q S D s := h.far (bmod hb fun _ _ => False) (fun _ _ _ hf => hf.elim) (fun _ _ _ h => h) fun _ _ hf => hf.elim
theorem RRobP.rek (h : RRobP B Z w r q S D s) (hZ : ∀ b, B ≤ b → b < w.heap.size → Z b → Z' b) : RRobP B Z' w r q S D s := h.far (Mod.refl (fun _ _ => False) w) (fun _ _ _ hf => hf.elim) hZ fun _ _ hf => hf.elim
theorem RRobP.good (h : RRobP B Z w r q S D s) : S.ok := h.2.1
theorem RRobP.pow (h : RRobP B Z w r q S D s) : RPow B w q s := h.2.2
theorem RRobP.low (h : RRobP B Z w r q S D s) : B ≤ w.heap.size := by
  obtain ⟨⟨V, h1, h2⟩, h3, h4⟩ := h
  exact Nat.le_of_lt (Nat.lt_of_le_of_lt h1.low (heap_lt h1.obj))
theorem RRbL.len (h : RRbL B Z w r q S V) : V.bs.length = S.bays.length := by rw [h.bays, List.length_map]
theorem RRbL.cells (h : RRbL B Z w r q S V) : w.cell? ⟨r, 0, none⟩ = some (.pointer (some ⟨q, 0, none⟩)) ∧ w.cell? ⟨r, 1, none⟩ = some (.slice V.aV S.vols.length V.cV) ∧ w.cell? ⟨r, 2, none⟩ = some (.slice V.aD S.bays.length V.cD) ∧ w.cell? ⟨r, 3, none⟩ = some (.slice V.aH S.bays.length V.cH) ∧ w.cell? ⟨r, 4, none⟩ = some (.slice V.aU S.bays.length V.cU) ∧ w.cell? ⟨r, 5, none⟩ = some (.int .i64 S.asked) ∧ w.cell? ⟨r, 6, none⟩ = some (.int .i64 S.mounts) ∧ (∀ j, w.frozen? ⟨r, j, none⟩ = false) ∧ r < w.heap.size := by
  have ho := h.obj
  rw [h.len, h.nts] at ho
  refine ⟨?_, ?_, ?_, ?_, ?_, ?_, ?_, fun j => frozen_of_row w r j _ _ ho, heap_lt ho⟩ <;> (rw [cell_of_row w r _ _ _ _ ho]; rfl)
/-- What stands in the rows of drives. -/
theorem RRbL.at (h : RRbL B Z w r q S V) {i : Nat} {b : Bay} (hb : S.bays[i]? = some b) : ∃ gD gH gU y, V.aD = some ⟨gD, 0, none⟩ ∧ V.aH = some ⟨gH, 0, none⟩ ∧ V.aU = some ⟨gU, 0, none⟩ ∧ gD < w.heap.size ∧ gH < w.heap.size ∧ gU < w.heap.size ∧ V.bs[i]? = some y ∧ y.b = b
    ∧ w.cell? ⟨gD, i, none⟩ = some y.ptr ∧ w.cell? ⟨gH, i, none⟩ = some (.int .i64 b.vol) ∧ w.cell? ⟨gU, i, none⟩ = some (.int .i64 b.asked) ∧ (∀ j, w.frozen? ⟨gD, j, none⟩ = false) ∧ (∀ j, w.frozen? ⟨gH, j, none⟩ = false) ∧ (∀ j, w.frozen? ⟨gU, j, none⟩ = false) ∧ gH ≠ gU := by
  have hi := (List.getElem?_eq_some_iff.1 hb).1
  have hl := h.len
  have hi2 : i < V.bs.length := by omega
  obtain ⟨gD, eD, _, lD, aD, fD⟩ := h.rowD.at hi2
  obtain ⟨gH, eH, _, lH, aH, fH⟩ := h.rowH.at hi2
  obtain ⟨gU, eU, _, lU, aU, fU⟩ := h.rowU.at hi2
  have hy : V.bs[i].b = b := by
    rw [h.bays, List.getElem?_map, List.getElem?_eq_getElem hi2] at hb
    simpa using hb
  refine ⟨gD, gH, gU, V.bs[i], eD, eH, eU, lD, lH, lU, List.getElem?_eq_getElem hi2, hy, ?_, ?_, ?_, fD, fH, fU, h.hu _ _ eH eU⟩
  · have := aD i (by simpa using hi2); simpa using this
  · have := aH i (by simpa using hi2); simpa [BayV.held, hy] using this
  · have := aU i (by simpa using hi2); simpa [BayV.used, hy] using this
/-- A volume's tape in its row. -/
theorem RRbL.tapeAt (h : RRbL B Z w r q S V) {v : Nat} (hv : v < S.vols.length) : ∃ gV x, V.aV = some ⟨gV, 0, none⟩ ∧ gV < w.heap.size ∧ V.ts[v]? = some x ∧ w.cell? ⟨gV, v * 2, none⟩ = some (.int .i64 x.M.cap) ∧ w.cell? ⟨gV, v * 2 + 1, none⟩ = some (.slice x.a x.k x.c) ∧ TapeIn B Z w x ∧ x.M.ok = true ∧ x.M.cap = S.size ∧ (findV v S.bays = none → S.vols[v]? = some x.M) := by
  have hv2 : v < V.ts.length := by rw [h.nts]; exact hv
  obtain ⟨gV, eV, _, lV, hat, _⟩ := h.rowV.elem TapeV.len (by decide) hv2
  have ht := h.tape _ (List.getElem_mem hv2)
  refine ⟨gV, V.ts[v], eV, lV, List.getElem?_eq_getElem hv2, ?_, ?_, ht.1, ht.2.1, ht.2.2, fun hf => ?_⟩
  · have := hat 0 _ rfl; exact this
  · exact hat 1 _ rfl
  · obtain ⟨x, h1, h2⟩ := h.vol v hv hf
    rw [List.getElem?_eq_getElem hv2] at h1
    cases h1
    exact h2
/-- The drive that a bay holds. -/
theorem RRobP.drv (h : RRobP B Z w r q S D s) {i : Nat} {b : Bay} (hb : S.bays[i]? = some b) (hv : 0 ≤ b.vol) : RDrvP B Z w (D i) q b.M b.at_ s := by
  obtain ⟨⟨V, h1, h2⟩, h3, h4⟩ := h
  obtain ⟨_, _, _, y, _, _, _, _, _, _, hy, rfl, _⟩ := h1.at hb
  obtain ⟨a, k, c, cs, hd, hz⟩ := h1.drv i y hy hv
  rw [h2 i y hy hv] at hd
  exact ⟨⟨a, k, c, cs, hd, hz⟩, h4⟩
theorem RVF.rrf {rd : Nat} (h : Mod (RVF B rd) w w') : Mod (RRF B Z) w w' := h.mono fun b T _ hf => ⟨hf.1, .inl (by rcases hf.2 with rfl | ⟨_, rfl⟩ <;> decide)⟩
theorem RPF.rrf (h : Mod (RPF B) w w') : Mod (RRF B Z) w w' := h.mono fun b T _ hf => ⟨hf.1, .inl (by rw [hf.2]; decide)⟩
/-- A drive of the robot's has become another one. -/
theorem RRobP.driveAt {i : Nat} {b : Bay} (h : RRobP B Z w r q S D s) (hi : S.bays[i]? = some b) (hv : 0 ≤ b.vol) {M' : Med} {at' : Int} {s' : PS} (hd : RDrvP B Z w' (D i) q M' at' s') (hM : Mod (RVF B (D i)) w w') (hg : DGood M' at' ∧ M'.cap = S.size) : RRobP B Z w' r q (S.drive i M' at') D s' := by
  obtain ⟨⟨a', k', c', cs', hd', hz'⟩, hp'⟩ := hd
  obtain ⟨⟨V, h1, h2⟩, h3, h4⟩ := h
  have hz2 := hz'
  have hno : ∀ b T, RVF B (D i) b T → T = 84 ∨ b = D i ∧ T = 63 := fun b T hf => hf.2
  have hcell : ∀ b T, b < w.heap.size → RVF B (D i) b T → (T = 42 ∨ T = 5) → ¬ Z b := fun b T _ hf hT => by
    rcases hno b T hf with rfl | ⟨_, rfl⟩ <;> exact absurd hT (by decide)
  have hty : ∀ T, T ≠ 84 → T ≠ 63 → ∀ b, ¬ RVF B (D i) b T := fun T h1 h2 b hf => by
    rcases hno b T hf with h | ⟨_, h⟩
    · exact h1 h
    · exact h2 h
  obtain ⟨_, _, _, y, _, _, _, _, _, _, hy, hyb, _⟩ := h1.at hi
  have hyd := h2 i y hy (by rw [hyb]; exact hv)
  have hsd : S.drive i M' at' = { S with bays := S.bays.set i { b with M := M', at_ := at' } } := by
    unfold RS.drive; rw [modify_get hi]
  have hfv : ∀ u : Int, findV u (S.bays.set i { b with M := M', at_ := at' }) = none → findV u S.bays = none := by
    intro u hf
    refine findV_none_of fun b' hb' he => ?_
    obtain ⟨j, hj, rfl⟩ := List.mem_iff_getElem.1 hb'
    by_cases hij : i = j
    · subst hij
      have hbj : S.bays[i] = b := by rw [List.getElem?_eq_getElem hj] at hi; exact Option.some.inj hi
      refine findV_none hf { b with M := M', at_ := at' } ?_ (by rw [← he, hbj])
      exact List.mem_iff_getElem.2 ⟨i, by simpa using hj, by simp⟩
    · refine findV_none hf S.bays[j] ?_ he
      exact List.mem_iff_getElem.2 ⟨j, by simpa using hj, by simp [hij]⟩
  have hil : i < V.bs.length := (List.getElem?_eq_some_iff.1 hy).1
  refine ⟨⟨{ V with bs := V.bs.set i ⟨{ b with M := M', at_ := at' }, y.d⟩ }, ?_, fun j x hx hxv => ?_⟩, RS.drive_ok h3 hi hg, hp'⟩
  · rw [hsd]
    have hmapP : (V.bs.set i ⟨{ b with M := M', at_ := at' }, y.d⟩).map BayV.ptr = V.bs.map BayV.ptr := by
      rw [List.map_set]
      refine set_same ?_
      rw [List.getElem?_map, hy]
      simp [BayV.ptr, hyb]
    have hmapH : (V.bs.set i ⟨{ b with M := M', at_ := at' }, y.d⟩).map BayV.held = V.bs.map BayV.held := by
      rw [List.map_set]
      refine set_same ?_
      rw [List.getElem?_map, hy]
      simp [BayV.held, hyb]
    have hmapU : (V.bs.set i ⟨{ b with M := M', at_ := at' }, y.d⟩).map BayV.used = V.bs.map BayV.used := by
      rw [List.map_set]
      refine set_same ?_
      rw [List.getElem?_map, hy]
      simp [BayV.used, hyb]
    refine ⟨h1.low, ?_, by rw [List.map_set, ← h1.bays], h1.nts, h1.rowV.mod hM fun g _ _ => hty _ (by decide) (by decide) g, ?_, ?_, ?_, h1.hu, h1.inV, fun x hx => ⟨(h1.tape x hx).1.far hM hcell fun _ _ _ h => h, (h1.tape x hx).2⟩, fun v hv hf => h1.vol v hv (hfv v hf), fun j x hx hxv => ?_, fun j l x x2 hx hx2 hv1 hv2 he => ?_⟩
    · simp only [List.length_set]
      exact hM.keep h1.obj (hty _ (by decide) (by decide) r)
    · rw [hmapP, List.length_set]; exact h1.rowD.mod hM fun g _ _ => hty _ (by decide) (by decide) g
    · rw [hmapH, List.length_set]; exact h1.rowH.mod hM fun g _ _ => hty _ (by decide) (by decide) g
    · rw [hmapU, List.length_set]; exact h1.rowU.mod hM fun g _ _ => hty _ (by decide) (by decide) g
    · rw [List.getElem?_set] at hx
      by_cases hij : i = j
      · subst hij
        rw [if_pos rfl, if_pos hil] at hx
        obtain rfl := Option.some.inj hx
        exact ⟨a', k', c', cs', by rw [hyd]; exact hd', hz2⟩
      · rw [if_neg hij] at hx
        obtain ⟨a, k, c, cs, hd, hz⟩ := h1.drv j x hx hxv
        refine ⟨a, k, c, cs, rdr_far hd hz hM (fun hf => ?_) hcell, hz⟩
        rcases hno _ _ hf with h | ⟨h, _⟩
        · revert h; decide
        · exact hij (h1.one i j y x hy hx (by rw [hyb]; exact hv) hxv (by rw [hyd, h]))
    · have key : ∀ (j : Nat) (x : BayV), (V.bs.set i ⟨{ b with M := M', at_ := at' }, y.d⟩)[j]? = some x → 0 ≤ x.b.vol → ∃ z, V.bs[j]? = some z ∧ z.d = x.d ∧ 0 ≤ z.b.vol := by
        intro j x hx hxv
        rw [List.getElem?_set] at hx
        by_cases hij : i = j
        · subst hij
          rw [if_pos rfl, if_pos hil] at hx
          obtain rfl := Option.some.inj hx
          exact ⟨y, hy, rfl, by rw [hyb]; exact hv⟩
        · rw [if_neg hij] at hx
          exact ⟨x, hx, rfl, hxv⟩
      obtain ⟨z1, a1, b1, c1⟩ := key j x hx hv1
      obtain ⟨z2, a2, b2, c2⟩ := key l x2 hx2 hv2
      exact h1.one j l z1 z2 a1 a2 c1 c2 (by rw [b1, b2, he])
  · rw [List.getElem?_set] at hx
    by_cases hij : i = j
    · subst hij
      rw [if_pos rfl, if_pos hil] at hx
      obtain rfl := Option.some.inj hx
      exact hyd
    · rw [if_neg hij] at hx
      exact h2 j x hx hxv
/-- A drive of the robot's does something. -/
theorem RRobP.drive {i : Nat} {b : Bay} (h : RRobP B Z w r q S D s) (hu : Up B Z w) (hi : S.bays[i]? = some b) (hv : 0 ≤ b.vol) {P : Program} {f : FuncId} {args : Array Value} {X : Ending → World → Prop} {M' : Med} {at' : Int} {s' : PS}
    (op : RDrvP B Z w (D i) q b.M b.at_ s → Calls P f args w fun e w' => X e w' ∧ RDrvP B (fun b => Z b ∨ w.heap.size ≤ b ∧ b < w'.heap.size) w' (D i) q M' at' s' ∧ Mod (RVF B (D i)) w w') (hg : DGood M' at' ∧ M'.cap = S.size) :
    Calls P f args w fun e w' => X e w' ∧ RRobP B Z w' r q (S.drive i M' at') D s' ∧ Mod (RRF B Z) w w' := by
  refine (op (h.drv hi hv)).mono ?_
  rintro e w' ⟨hX, ⟨⟨a', k', c', cs', hd', hz'⟩, hp'⟩, hM⟩
  exact ⟨hX, h.driveAt hi hv ⟨⟨a', k', c', cs', hd', hz'.mono fun b hb => hb.elim id fun h => hu.up b h.1⟩, hp'⟩ hM hg, RVF.rrf hM⟩
end Go.Proofs.Ytmaagkdehdmhlaa
