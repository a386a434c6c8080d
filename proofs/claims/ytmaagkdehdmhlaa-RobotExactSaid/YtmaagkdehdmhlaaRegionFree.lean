/- A region that draws its order and that falls into phases, but for some early operations (fe) that wait for none of the others and whose values stay, whatever the others write (T). -/
import Derived.Test.YtmaagkdehdmhlaaRegionPhase
import Derived.Test.YtmaagkdehdmhlaaRegionChain
namespace Go.Proofs.Ytmaagkdehdmhlaa
open Go.RowKit

/-- What an early step may use. -/
structure EnvE {T : World → World → Prop} (ops : List Oper) (fe : List Nat) (se : List (SpT T)) (a : Act) (w w' : World) (o : Oper) (ρ : Operand → Value) : Prop where
  t : T w w'
  pre : ∀ j, o.after.toList.any (fun e => e.on == j && Region.binds .any e) = true → stAt se j w' (ρ (.tmp (dstN ops.toArray j)))
  out : ∀ t, elemB t (dstsOf' ops) = false → ρ (.tmp t) = a.tmps.getD t undef
  con : ∀ v, ρ (.const v) = v
  fn : ∀ f, ρ (.func f) = .func (.func f) #[] #[]
def StepsE (P : Program) {T : World → World → Prop} (ops : List Oper) (fe : List Nat) (se : List (SpT T)) (a : Act) (w : World) : List Oper → Nat → Prop
  | [], _ => True
  | o :: os, i => (bif elemB i fe then (∀ ρ w', EnvE ops fe se a w w' o ρ → StepOk P ops.toArray o ρ w' (fun v w'' => Below w'.heap.size w' w'' ∧ stAt se i w'' v)) else True) ∧ StepsE P ops fe se a w os (i + 1)
/-- What a step of a phase may use. -/
structure EnvH {T : World → World → Prop} (ops : List Oper) (fe : List Nat) (se : List (SpT T)) (sl : List Sp) (a : Act) (b : Nat) (σ0 : Nat → Value) (w w0 w' : World) (o : Oper) (ρ : Operand → Value) : Prop where
  t : T w w'
  below : Below w0.heap.size w0 w'
  pre : ∀ j, Nat.ble b j = true → elemB j fe = false → o.after.toList.any (fun e => e.on == j && Region.binds .any e) = true → spAt sl (j - b) w' (ρ (.tmp (dstN ops.toArray j)))
  early : ∀ j, elemB j fe = true → o.after.toList.any (fun e => e.on == j && Region.binds .any e) = true → stAt se j w' (ρ (.tmp (dstN ops.toArray j)))
  old : ∀ j d, Nat.blt j b = true → elemB j fe = false → (ops[j]?).bind (·.dst) = some d → ρ (.tmp d) = σ0 d
  out : ∀ t, elemB t (dstsOf' ops) = false → ρ (.tmp t) = a.tmps.getD t undef
  con : ∀ v, ρ (.const v) = v
  fn : ∀ f, ρ (.func f) = .func (.func f) #[] #[]
def StepsH (P : Program) {T : World → World → Prop} (ops : List Oper) (fe : List Nat) (se : List (SpT T)) (sl : List Sp) (a : Act) (b : Nat) (σ0 : Nat → Value) (w w0 : World) : List Oper → Nat → Prop
  | [], _ => True
  | o :: os, i => (bif elemB (b + i) fe then True else (∀ ρ w', EnvH ops fe se sl a b σ0 w w0 w' o ρ → StepOk P ops.toArray o ρ w' (fun v w'' => Below w'.heap.size w' w'' ∧ spAt sl i w'' v))) ∧ StepsH P ops fe se sl a b σ0 w w0 os (i + 1)
section
variable {P : Program} {T : World → World → Prop} {ops : List Oper} {fe : List Nat} {se : List (SpT T)} {sl : List Sp} {a : Act} {b : Nat} {σ0 : Nat → Value} {w w0 : World}
theorem stepsE_nil {i : Nat} : StepsE P ops fe se a w [] i := trivial
theorem stepsE_no {i : Nat} {o : Oper} {os : List Oper} (he : elemB i fe = false) (hs : StepsE P ops fe se a w os (i + 1)) : StepsE P ops fe se a w (o :: os) i := ⟨by rw [he]; trivial, hs⟩
theorem stepsE_yes {i : Nat} {o : Oper} {os : List Oper} (he : elemB i fe = true) (h : ∀ ρ w', EnvE ops fe se a w w' o ρ → StepOk P ops.toArray o ρ w' (fun v w'' => Below w'.heap.size w' w'' ∧ stAt se i w'' v)) (hs : StepsE P ops fe se a w os (i + 1)) : StepsE P ops fe se a w (o :: os) i := ⟨by rw [he]; exact h, hs⟩
theorem stepsE_at : ∀ (os : List Oper) (i : Nat), StepsE P ops fe se a w os i → ∀ (j : Nat) (o : Oper), os[j]? = some o → elemB (i + j) fe = true → ∀ ρ w', EnvE ops fe se a w w' o ρ → StepOk P ops.toArray o ρ w' (fun v w'' => Below w'.heap.size w' w'' ∧ stAt se (i + j) w'' v)
  | [], _, _, j, o, hj, _ => by simp at hj
  | o' :: os, i, h, j, o, hj, he => by
    cases j with
    | zero =>
      simp at hj; subst hj
      have h1 := h.1
      rw [Nat.add_zero] at he ⊢
      rw [he] at h1
      exact h1
    | succ j =>
      have := stepsE_at os (i + 1) h.2 j o (by simpa using hj) (by rw [show i + 1 + j = i + (j + 1) by omega]; exact he)
      rwa [show i + 1 + j = i + (j + 1) by omega] at this
theorem stepsH_nil {i : Nat} : StepsH P ops fe se sl a b σ0 w w0 [] i := trivial
theorem stepsH_skip {i : Nat} {o : Oper} {os : List Oper} (he : elemB (b + i) fe = true) (hs : StepsH P ops fe se sl a b σ0 w w0 os (i + 1)) : StepsH P ops fe se sl a b σ0 w w0 (o :: os) i := ⟨by rw [he]; trivial, hs⟩
theorem stepsH_cons {i : Nat} {o : Oper} {os : List Oper} (he : elemB (b + i) fe = false) (h : ∀ ρ w', EnvH ops fe se sl a b σ0 w w0 w' o ρ → StepOk P ops.toArray o ρ w' (fun v w'' => Below w'.heap.size w' w'' ∧ spAt sl i w'' v)) (hs : StepsH P ops fe se sl a b σ0 w w0 os (i + 1)) : StepsH P ops fe se sl a b σ0 w w0 (o :: os) i := ⟨by rw [he]; exact h, hs⟩
theorem stepsH_at : ∀ (os : List Oper) (i : Nat), StepsH P ops fe se sl a b σ0 w w0 os i → ∀ (j : Nat) (o : Oper), os[j]? = some o → elemB (b + (i + j)) fe = false → ∀ ρ w', EnvH ops fe se sl a b σ0 w w0 w' o ρ → StepOk P ops.toArray o ρ w' (fun v w'' => Below w'.heap.size w' w'' ∧ spAt sl (i + j) w'' v)
  | [], _, _, j, o, hj, _ => by simp at hj
  | o' :: os, i, h, j, o, hj, he => by
    cases j with
    | zero =>
      simp at hj; subst hj
      have h1 := h.1
      rw [Nat.add_zero] at he ⊢
      rw [he] at h1
      exact h1
    | succ j =>
      have := stepsH_at os (i + 1) h.2 j o (by simpa using hj) (by rw [show i + 1 + j = i + (j + 1) by omega]; exact he)
      rwa [show i + 1 + j = i + (j + 1) by omega] at this
end
/-- What is known at a bar, and in the end. -/
structure Known {T : World → World → Prop} (ops : List Oper) (fe : List Nat) (se : List (SpT T)) (sl : List Sp) (b x : Nat) (σ0 : Nat → Value) (w w0 w' : World) (σ : Nat → Value) : Prop where
  t : T w w'
  below : Below w0.heap.size w0 w'
  old : ∀ j d, Nat.blt j b = true → elemB j fe = false → (ops[j]?).bind (·.dst) = some d → σ d = σ0 d
  val : ∀ j, Nat.ble b j = true → Nat.blt j x = true → elemB j fe = false → spAt sl (j - b) w' (σ (dstN ops.toArray j))
/-- From a phase's beginning on. -/
def StageH (P : Program) {T : World → World → Prop} (ops : List Oper) (fe : List Nat) (se : List (SpT T)) (a : Act) (w : World) (Q : Exit → Act → World → Prop) : List Nat → Nat → (Nat → Value) → World → Prop
  | [], b, σ0, w0 => ∃ sl : List Sp, StepsH P ops fe se sl a b σ0 w w0 (ops.drop b) 0 ∧ ∀ σ w', Known ops fe se sl b ops.length σ0 w w0 w' σ → (∀ j, elemB j fe = true → stAt se j w' (σ (dstN ops.toArray j))) → Q .normal (upd a (dstsOf' ops) σ) w'
  | x :: xs, b, σ0, w0 => ∃ sl : List Sp, StepsH P ops fe se sl a b σ0 w w0 ((ops.take x).drop b) 0 ∧ ∃ o, ops[x]? = some o ∧ ∀ σ ρ w', EnvH ops fe se sl a b σ0 w w0 w' o ρ → Known ops fe se sl b x σ0 w w0 w' σ →
      StepOk P ops.toArray o ρ w' (fun v w'' => T w' w'' ∧ StageH P ops fe se a w Q xs (x + 1) (putσ σ o.dst v) w'')
theorem stageH_last {P : Program} {T : World → World → Prop} {ops : List Oper} {fe : List Nat} {se : List (SpT T)} {a : Act} {w : World} {Q : Exit → Act → World → Prop} {b : Nat} {σ0 : Nat → Value} {w0 : World} (sl : List Sp) (h1 : StepsH P ops fe se sl a b σ0 w w0 (ops.drop b) 0)
    (h2 : ∀ σ w', Known ops fe se sl b ops.length σ0 w w0 w' σ → (∀ j, elemB j fe = true → stAt se j w' (σ (dstN ops.toArray j))) → Q .normal (upd a (dstsOf' ops) σ) w') : StageH P ops fe se a w Q [] b σ0 w0 := ⟨sl, h1, h2⟩
theorem stageH_more {P : Program} {T : World → World → Prop} {ops : List Oper} {fe : List Nat} {se : List (SpT T)} {a : Act} {w : World} {Q : Exit → Act → World → Prop} {b x : Nat} {xs : List Nat} {σ0 : Nat → Value} {w0 : World} (sl : List Sp) {o : Oper} (ho : ops[x]? = some o) (h1 : StepsH P ops fe se sl a b σ0 w w0 ((ops.take x).drop b) 0)
    (h2 : ∀ σ ρ w', EnvH ops fe se sl a b σ0 w w0 w' o ρ → Known ops fe se sl b x σ0 w w0 w' σ → StepOk P ops.toArray o ρ w' (fun v w'' => T w' w'' ∧ StageH P ops fe se a w Q xs (x + 1) (putσ σ o.dst v) w'')) : StageH P ops fe se a w Q (x :: xs) b σ0 w0 := ⟨sl, h1, o, ho, h2⟩

def phaseAtF (ops : List Oper) (fe : List Nat) (b x : Nat) : Bool :=
  decide (b ≤ x) && decide (x < ops.length) && !elemB x fe && ((List.range x).all fun j => decide (j < b) || elemB j fe || (List.range (x + 1)).any fun j' => decide (j < j') && !elemB j' fe && edgeB ops j' j) &&
  ((List.range ops.length).all fun i => decide (i ≤ x) || elemB i fe || (List.range ops.length).any fun j => decide (x ≤ j) && !elemB j fe && edgeB ops i j)
def grpF (ops : List Oper) (fe : List Nat) (b e : Nat) : Bool := (List.range e).all fun j => decide (j < b) || elemB j fe || ((ops[j]?).bind (·.dst)).isSome
def phasesF (ops : List Oper) (fe : List Nat) : List Nat → Nat → Bool
  | [], b => decide (b ≤ ops.length) && grpF ops fe b ops.length
  | x :: xs, b => (phaseAtF ops fe b x && grpF ops fe b x) && phasesF ops fe xs (x + 1)
/-- The early ones wait for early ones alone; each has a slot. -/
def earlyOk (ops : List Oper) (fe : List Nat) : Bool := fe.all fun i => match ops[i]? with
  | some o => o.dst.isSome && o.after.toList.all fun e => !Region.binds .any e || elemB e.on fe
  | none => false

def TailH (P : Program) {T : World → World → Prop} (l : List Oper) (fe : List Nat) (se : List (SpT T)) (a : Act) (w : World) (Q : Exit → Act → World → Prop) (b : Nat) (σ0 : Nat → Value) (w0 : World) (sl : List Sp) : List Nat → Prop
  | [] => ∀ σ w', Known l fe se sl b l.length σ0 w w0 w' σ → (∀ j, elemB j fe = true → stAt se j w' (σ (dstN l.toArray j))) → Q .normal (upd a (dstsOf' l) σ) w'
  | x :: xs => ∃ o, l[x]? = some o ∧ ∀ σ ρ w', EnvH l fe se sl a b σ0 w w0 w' o ρ → Known l fe se sl b x σ0 w w0 w' σ → StepOk P l.toArray o ρ w' (fun v w'' => T w' w'' ∧ StageH P l fe se a w Q xs (x + 1) (putσ σ o.dst v) w'')
/-- What holds between two operations. -/
structure JH (P : Program) {T : World → World → Prop} (l : List Oper) (fe : List Nat) (se : List (SpT T)) (a : Act) (w : World) (Q : Exit → Act → World → Prop) (L : Nat → Bool) (σ : Nat → Value) (w' : World) (xs : List Nat) (b : Nat) (σ0 : Nat → Value) (w0 : World) (sl : List Sp) : Prop where
  chk : phasesF l fe xs b = true
  pre : ∀ i, i < b → elemB i fe = false → L i = true
  post : ∀ i, phaseEnd l xs ≤ i → elemB i fe = false → L i = false
  t : T w w'
  below : Below w0.heap.size w0 w'
  old : ∀ j d, Nat.blt j b = true → elemB j fe = false → (l[j]?).bind (·.dst) = some d → σ d = σ0 d
  val : ∀ j o, l[j]? = some o → b ≤ j → elemB j fe = false → L j = true → spAt sl (j - b) w' (σ (dstN l.toArray j))
  early : ∀ j o, l[j]? = some o → elemB j fe = true → L j = true → stAt se j w' (σ (dstN l.toArray j))
  steps : StepsH P l fe se sl a b σ0 w w0 ((l.take (phaseEnd l xs)).drop b) 0
  tail : TailH P l fe se a w Q b σ0 w0 sl xs
theorem jh_of {P : Program} {T : World → World → Prop} {l : List Oper} {fe : List Nat} {se : List (SpT T)} {a : Act} {w : World} {Q : Exit → Act → World → Prop} {L : Nat → Bool} {σ : Nat → Value} {w0 w' : World} {xs : List Nat} {b : Nat} (h : StageH P l fe se a w Q xs b σ w0) (hb : Below w0.heap.size w0 w') (ht : T w w') (hc : phasesF l fe xs b = true)
    (h1 : ∀ i, i < b → elemB i fe = false → L i = true) (h2 : ∀ i, b ≤ i → elemB i fe = false → L i = false) (he : ∀ j o, l[j]? = some o → elemB j fe = true → L j = true → stAt se j w' (σ (dstN l.toArray j))) : ∃ sl, JH P l fe se a w Q L σ w' xs b σ w0 sl := by
  cases xs with
  | nil =>
    obtain ⟨sl, hs, htl⟩ := h
    have hbl : b ≤ l.length := by simp only [phasesF, Bool.and_eq_true, decide_eq_true_eq] at hc; exact hc.1
    exact ⟨sl, hc, h1, fun i hi => h2 i (Nat.le_trans hbl hi), ht, hb, fun _ _ _ _ _ => rfl, fun j o _ hj hf hL => (by rw [h2 j hj hf] at hL; cases hL), he, by unfold phaseEnd; rw [List.headD_nil, List.take_length]; exact hs, htl⟩
  | cons x xs =>
    obtain ⟨sl, hs, htl⟩ := h
    have hbl : b ≤ x := by
      simp only [phasesF, phaseAtF, Bool.and_eq_true, decide_eq_true_eq] at hc
      exact hc.1.1.1.1.1.1
    exact ⟨sl, hc, h1, fun i hi => h2 i (Nat.le_trans hbl hi), ht, hb, fun _ _ _ _ _ => rfl, fun j o _ hj hf hL => (by rw [h2 j hj hf] at hL; cases hL), he, hs, htl⟩

theorem wp_region_free {P : Program} {id : Nat} {l : List Oper} {Q : Exit → Act → World → Prop} {a : Act} {w : World} (hm : P.follows .mixedOrders = true) (fe xs : List Nat) {T : World → World → Prop} (hT : Trel T) (se : List (SpT T)) (hok : regionOk3 l a.tmps.size = true) (hph : phasesF l fe xs 0 = true) (hfe : earlyOk l fe = true)
    (hse : StepsE P l fe se a w l 0) (h : StageH P l fe se a w Q xs 0 (fun t => a.tmps.getD t undef) w) : (Code.region id l.toArray true).wp P Q a w := by
  have hok' := hok
  simp only [regionOk3, Bool.and_eq_true, List.all_eq_true, decide_eq_true_eq] at hok'
  obtain ⟨⟨⟨hlt, hnd⟩, hedge⟩, hgrd⟩ := hok'
  have hinj : ∀ (i j : Nat) (oi oj : Oper) (d : Nat), l[i]? = some oi → l[j]? = some oj → oi.dst = some d → oj.dst = some d → i = j := dst_inj (nodupB_spec hnd)
  have hed : ∀ (i : Nat) (o : Oper), l[i]? = some o → ∀ e ∈ o.after, Region.binds .any e = true → e.on < i := by
    intro i o hi e he hb
    have := hedge (o, i) (by rw [List.mem_zipIdx_iff_getElem?]; simpa using hi) e (by simpa using he)
    simpa [hb] using this
  have hev : ∀ (σ : Nat → Value) (d : Nat), d ∈ dstsOf' l → (upd a (dstsOf' l) σ).eval (.tmp d) = σ d := fun σ d hd => by
    rw [upd_eval, if_pos (hlt d hd), if_pos ((elemB_iff _ _).2 hd)]
  have hout : ∀ (σ : Nat → Value) t, elemB t (dstsOf' l) = false → (upd a (dstsOf' l) σ).eval (.tmp t) = a.tmps.getD t undef := fun σ t ht => by
    rw [upd_eval]
    split
    · rw [if_neg (by rw [ht]; simp)]
    · rename_i h
      simp [Array.getD_eq_getD_getElem?, Array.getElem?_eq_none (Nat.not_lt.1 h)]
  have hdn : ∀ j o d, l[j]? = some o → o.dst = some d → dstN l.toArray j = d ∧ d ∈ dstsOf' l := fun j o d hj hd => ⟨by simp [dstN, hj, hd], List.mem_filterMap.2 ⟨o, List.mem_of_getElem? hj, hd⟩⟩
  have hfed : ∀ j o, l[j]? = some o → elemB j fe = true → (∃ d, o.dst = some d) ∧ ∀ e ∈ o.after, Region.binds .any e = true → elemB e.on fe = true := fun j o hj he => by
    have := List.all_eq_true.1 hfe j ((elemB_iff _ _).1 he)
    rw [hj] at this
    simp only [Bool.and_eq_true, List.all_eq_true] at this
    refine ⟨Option.isSome_iff_exists.1 this.1, fun e hee hb => ?_⟩
    have := this.2 e (by simpa using hee)
    simpa [hb] using this
  have hgr : ∀ {xs : List Nat} {b : Nat}, phasesF l fe xs b = true → ∀ j oj, b ≤ j → j < phaseEnd l xs → elemB j fe = false → l[j]? = some oj → ∃ d, oj.dst = some d := by
    intro xs b hc j oj hbj hje hjf hj
    have hg : grpF l fe b (phaseEnd l xs) = true := by
      cases xs with
      | nil => simp only [phasesF, Bool.and_eq_true] at hc; exact hc.2
      | cons x xs => simp only [phasesF, Bool.and_eq_true] at hc; exact hc.1.2
    have := List.all_eq_true.1 hg j (List.mem_range.2 hje)
    simp only [Bool.or_eq_true, decide_eq_true_eq, hj, Option.bind_some, hjf, Bool.false_eq_true, or_false] at this
    exact Option.isSome_iff_exists.1 (this.resolve_left (by omega))
  refine wp_region_inv hm (fun L σ w' => (∀ i o, l[i]? = some o → L i = true → ∀ e ∈ o.after, Region.binds .any e = true → L e.on = true) ∧ ∃ xs b σ0 w0 sl, JH P l fe se a w Q L σ w' xs b σ0 w0 sl) hok ?_ ?_ ?_
  · obtain ⟨sl, hj⟩ := jh_of (L := fun _ => false) (w' := { w with drawn := w.drawn + 1 }) h ⟨rfl, rfl, rfl, Nat.le_refl _, fun _ _ => rfl⟩ (hT.of ⟨rfl, rfl, rfl, Nat.le_refl _, fun _ _ => rfl⟩) hph (fun i hi => by omega) (fun _ _ _ => rfl) (fun _ _ _ _ h => by cases h)
    exact ⟨fun _ _ _ h => (by cases h), _, _, _, _, sl, hj⟩
  · rintro i o hi L σ w' hLi hdone ⟨hcl, xs, b, σ0, w0, sl, J⟩
    have hil : i < l.length := (List.getElem?_eq_some_iff.1 hi).1
    have hclosed : ∀ j oj, l[j]? = some oj → updL1 L i j = true → ∀ e ∈ oj.after, Region.binds .any e = true → updL1 L i e.on = true := by
      intro j oj hj hLj e he hbd
      simp only [updL1, Bool.or_eq_true, beq_iff_eq] at hLj ⊢
      by_cases hji : j = i
      · subst hji
        rw [hi] at hj; cases hj
        exact .inl (hdone e he hbd)
      · exact .inl (hcl j oj hj (hLj.resolve_right hji) e he hbd)
    have hpe : ∀ j, elemB j fe = true → o.after.toList.any (fun e => e.on == j && Region.binds .any e) = true → stAt se j w' ((upd a (dstsOf' l) σ).eval (.tmp (dstN l.toArray j))) := fun j hjf hj => by
      obtain ⟨e, he, hej⟩ := List.any_eq_true.1 hj
      simp only [Bool.and_eq_true, beq_iff_eq] at hej
      obtain ⟨rfl, hbd⟩ := hej
      have he' : e ∈ o.after := by simpa using he
      have hei := hed i o hi e he' hbd
      have hj' := List.getElem?_eq_getElem (show e.on < l.length by omega)
      obtain ⟨⟨d, hd⟩, _⟩ := hfed e.on _ hj' hjf
      obtain ⟨h5, h6⟩ := hdn e.on _ d hj' hd
      have := J.early e.on _ hj' hjf (hdone e he' hbd)
      rw [h5] at this ⊢
      rw [hev σ d h6]
      exact this
    cases hif : elemB i fe with
    | true =>
      obtain ⟨⟨di, hdi⟩, hafter⟩ := hfed i o hi hif
      obtain ⟨h5, _⟩ := hdn i o di hi hdi
      have hst := stepsE_at l 0 hse i o hi (by rw [Nat.zero_add]; exact hif) (upd a (dstsOf' l) σ).eval w' ⟨J.t, fun j hj => by
        refine hpe j ?_ hj
        obtain ⟨e, he, hej⟩ := List.any_eq_true.1 hj
        simp only [Bool.and_eq_true, beq_iff_eq] at hej
        obtain ⟨rfl, hbd⟩ := hej
        exact hafter e (by simpa using he) hbd, hout σ, fun _ => rfl, fun _ => rfl⟩
      rw [Nat.zero_add] at hst
      have hne : ∀ j oj d, l[j]? = some oj → oj.dst = some d → j ≠ i → d ≠ di := fun j oj d hj hd hji h => hji (hinj j i oj o d hj hi hd (by rw [hdi, h]))
      refine stepOk_mono hst fun v w'' ⟨hB, hv⟩ => ⟨hclosed, xs, b, σ0, w0, sl, ⟨J.chk, fun j hj hjf => by simp [updL1, J.pre j hj hjf], fun j hj hjf => ?_, hT.trans J.t (hT.of hB), bthen J.below hB (Nat.le_refl _), fun j d hj hjf hd => ?_, fun j oj hoj hbj hjf hLj => ?_, fun j oj hoj hjf hLj => ?_, J.steps, J.tail⟩⟩
      · have h1 := J.post j hj hjf
        simp only [updL1, h1, Bool.false_or, beq_eq_false_iff_ne, ne_eq]
        rintro rfl
        rw [hif] at hjf; cases hjf
      · obtain ⟨oj, hoj, hdj⟩ := Option.bind_eq_some_iff.1 hd
        have hji : j ≠ i := by rintro rfl; rw [hif] at hjf; cases hjf
        rw [hdi]
        simp only [putσ, if_neg (hne j oj d hoj hdj hji)]
        exact J.old j d hj hjf hd
      · have hji : j ≠ i := by rintro rfl; rw [hif] at hjf; cases hjf
        have hLj' : L j = true := by
          simp only [updL1, Bool.or_eq_true, beq_iff_eq] at hLj
          exact hLj.resolve_right hji
        have hje : j < phaseEnd l xs := by
          rcases Nat.lt_or_ge j (phaseEnd l xs) with h1 | h1
          · exact h1
          · rw [J.post _ h1 hjf] at hLj'; cases hLj'
        obtain ⟨dj, hdj⟩ := hgr J.chk j oj hbj hje hjf hoj
        obtain ⟨h7, _⟩ := hdn j oj dj hoj hdj
        have hsv := spAt_st sl (j - b) w' w'' _ (J.val j oj hoj hbj hjf hLj') hB
        rw [h7] at hsv ⊢
        rw [hdi]
        simpa [putσ, hne j oj dj hoj hdj hji] using hsv
      · by_cases hji : j = i
        · subst hji
          rw [h5, hdi]
          simpa [putσ] using hv
        · have hLj' : L j = true := by
            simp only [updL1, Bool.or_eq_true, beq_iff_eq] at hLj
            exact hLj.resolve_right hji
          obtain ⟨⟨dj, hdj⟩, _⟩ := hfed j oj hoj hjf
          obtain ⟨h7, _⟩ := hdn j oj dj hoj hdj
          have hsv := stAt_st se j w' w'' _ (J.early j oj hoj hjf hLj') (hT.of hB)
          rw [h7] at hsv ⊢
          rw [hdi]
          simpa [putσ, hne j oj dj hoj hdj hji] using hsv
    | false =>
      have hbi : b ≤ i := by
        rcases Nat.lt_or_ge i b with h1 | h1
        · rw [J.pre i h1 hif] at hLi; cases hLi
        · exact h1
      have henv : EnvH l fe se sl a b σ0 w w0 w' o (upd a (dstsOf' l) σ).eval := by
        refine ⟨J.t, J.below, fun j hbj hjf hj => ?_, hpe, fun j d hj hjf hd => ?_, hout σ, fun _ => rfl, fun _ => rfl⟩
        · obtain ⟨e, he, hej⟩ := List.any_eq_true.1 hj
          simp only [Bool.and_eq_true, beq_iff_eq] at hej
          obtain ⟨rfl, hbd⟩ := hej
          have he' : e ∈ o.after := by simpa using he
          have hLe := hdone e he' hbd
          have hei := hed i o hi e he' hbd
          have hbj' : b ≤ e.on := Nat.le_of_ble_eq_true hbj
          have hje : e.on < phaseEnd l xs := by
            rcases Nat.lt_or_ge e.on (phaseEnd l xs) with h1 | h1
            · exact h1
            · rw [J.post _ h1 hjf] at hLe; cases hLe
          have hj' := List.getElem?_eq_getElem (show e.on < l.length by omega)
          obtain ⟨d, hd⟩ := hgr J.chk e.on _ hbj' hje hjf hj'
          obtain ⟨h5, h6⟩ := hdn e.on _ d hj' hd
          have hv := J.val e.on _ hj' hbj' hjf hLe
          rw [h5] at hv ⊢
          rw [hev σ d h6]
          exact hv
        · have hd' := J.old j d hj hjf hd
          obtain ⟨oj, hoj, hdj⟩ := Option.bind_eq_some_iff.1 hd
          rw [hev σ d (List.mem_filterMap.2 ⟨oj, List.mem_of_getElem? hoj, hdj⟩)]
          exact hd'
      by_cases hie : i < phaseEnd l xs
      · have hst := stepsH_at _ 0 J.steps (i - b) o (by rw [List.getElem?_drop, show b + (i - b) = i by omega, List.getElem?_take, if_pos hie]; exact hi) (by rw [Nat.zero_add, show b + (i - b) = i by omega]; exact hif) _ w' henv
        rw [Nat.zero_add] at hst
        obtain ⟨di, hdi⟩ := hgr J.chk i o hbi hie hif hi
        obtain ⟨h5, _⟩ := hdn i o di hi hdi
        have hne : ∀ j oj d, l[j]? = some oj → oj.dst = some d → j ≠ i → d ≠ di := fun j oj d hj hd hji h => hji (hinj j i oj o d hj hi hd (by rw [hdi, h]))
        refine stepOk_mono hst fun v w'' ⟨hB, hv⟩ => ⟨hclosed, xs, b, σ0, w0, sl, ⟨J.chk, fun j hj hjf => by simp [updL1, J.pre j hj hjf], fun j hj hjf => ?_, hT.trans J.t (hT.of hB), bthen J.below hB (Nat.le_refl _), fun j d hj hjf hd => ?_, fun j oj hoj hbj hjf hLj => ?_, fun j oj hoj hjf hLj => ?_, J.steps, J.tail⟩⟩
        · have h1 := J.post j hj hjf
          simp only [updL1, h1, Bool.false_or, beq_eq_false_iff_ne, ne_eq]
          omega
        · obtain ⟨oj, hoj, hdj⟩ := Option.bind_eq_some_iff.1 hd
          have hji : j ≠ i := by have : j < b := Nat.le_of_ble_eq_true hj; omega
          rw [hdi]
          simp only [putσ, if_neg (hne j oj d hoj hdj hji)]
          exact J.old j d hj hjf hd
        · by_cases hji : j = i
          · subst hji
            rw [h5, hdi]
            simpa [putσ] using hv
          · have hLj' : L j = true := by
              simp only [updL1, Bool.or_eq_true, beq_iff_eq] at hLj
              exact hLj.resolve_right hji
            have hje : j < phaseEnd l xs := by
              rcases Nat.lt_or_ge j (phaseEnd l xs) with h1 | h1
              · exact h1
              · rw [J.post _ h1 hjf] at hLj'; cases hLj'
            obtain ⟨dj, hdj⟩ := hgr J.chk j oj hbj hje hjf hoj
            obtain ⟨h7, _⟩ := hdn j oj dj hoj hdj
            have hsv := spAt_st sl (j - b) w' w'' _ (J.val j oj hoj hbj hjf hLj') hB
            rw [h7] at hsv ⊢
            rw [hdi]
            simpa [putσ, hne j oj dj hoj hdj hji] using hsv
        · have hji : j ≠ i := by rintro rfl; rw [hif] at hjf; cases hjf
          have hLj' : L j = true := by
            simp only [updL1, Bool.or_eq_true, beq_iff_eq] at hLj
            exact hLj.resolve_right hji
          obtain ⟨⟨dj, hdj⟩, _⟩ := hfed j oj hoj hjf
          obtain ⟨h7, _⟩ := hdn j oj dj hoj hdj
          have hsv := stAt_st se j w' w'' _ (J.early j oj hoj hjf hLj') (hT.of hB)
          rw [h7] at hsv ⊢
          rw [hdi]
          simpa [putσ, hne j oj dj hoj hdj hji] using hsv
      · cases xs with
        | nil => exact absurd hil (by unfold phaseEnd at hie; simpa using hie)
        | cons x xs =>
          have hie : x ≤ i := by unfold phaseEnd at hie; simpa using hie
          have hc := J.chk
          simp only [phasesF, phaseAtF, Bool.and_eq_true, decide_eq_true_eq, List.all_eq_true, List.mem_range, Bool.or_eq_true, List.any_eq_true, Bool.not_eq_true'] at hc
          obtain ⟨⟨⟨⟨⟨⟨hbx, hxl⟩, hxf⟩, hck1⟩, hck2⟩, _⟩, hrest⟩ := hc
          have hix : i = x := by
            rcases Nat.eq_or_lt_of_le hie with h1 | h1
            · exact h1.symm
            · rcases hck2 i hil with (h2 | h2) | ⟨j, _, ⟨hxj, hjf⟩, hej⟩
              · omega
              · rw [hif] at h2; cases h2
              · obtain ⟨o', ho', e, he, hbd, rfl⟩ := edgeB_spec hej
                rw [hi] at ho'; cases ho'
                have h3 := hdone e he hbd
                rw [J.post e.on hxj hjf] at h3
                cases h3
          subst hix
          have hall : ∀ k j, i - j ≤ k → b ≤ j → j < i → elemB j fe = false → L j = true := by
            intro k
            induction k with
            | zero => intro j h1 h2 h3; omega
            | succ k ih =>
              intro j h1 h2 h3 hjf
              rcases hck1 j h3 with (h4 | h4) | ⟨j', hj', ⟨hjj, hjf'⟩, hej⟩
              · omega
              · rw [hjf] at h4; cases h4
              · obtain ⟨o', ho', e, he, hbd, rfl⟩ := edgeB_spec hej
                by_cases hji : j' = i
                · subst hji
                  rw [hi] at ho'; cases ho'
                  exact hdone e he hbd
                · exact hcl j' o' ho' (ih j' (by omega) (by omega) (by omega) hjf') e he hbd
          obtain ⟨o', ho', htl⟩ := J.tail
          rw [hi] at ho'; cases ho'
          refine stepOk_mono (htl σ _ w' henv ⟨J.t, J.below, J.old, fun j hbj hjx hjf => ?_⟩) fun v w'' ⟨hTT, hS⟩ => ⟨hclosed, ?_⟩
          · have hbj' := Nat.le_of_ble_eq_true hbj
            have hjx' : j < i := Nat.le_of_ble_eq_true hjx
            exact J.val j _ (List.getElem?_eq_getElem (by omega)) hbj' hjf (hall _ j (Nat.le_refl _) hbj' hjx' hjf)
          · obtain ⟨sl', hJ'⟩ := jh_of (L := updL1 L i) (w' := w'') hS (Below.refl _ _) (hT.trans J.t hTT) hrest (fun j hj hjf => by
              simp only [updL1, Bool.or_eq_true, beq_iff_eq]
              by_cases hji : j = i
              · exact .inr hji
              · left
                by_cases hjb : j < b
                · exact J.pre j hjb hjf
                · exact hall _ j (Nat.le_refl _) (by omega) (by omega) hjf) (fun j hj hjf => by
              have h1 := J.post j (by unfold phaseEnd; rw [List.headD_cons]; omega) hjf
              simp only [updL1, h1, Bool.false_or, beq_eq_false_iff_ne, ne_eq]
              omega) (fun j oj hoj hjf hLj => by
              have hji : j ≠ i := by rintro rfl; rw [hif] at hjf; cases hjf
              have hLj' : L j = true := by
                simp only [updL1, Bool.or_eq_true, beq_iff_eq] at hLj
                exact hLj.resolve_right hji
              obtain ⟨⟨dj, hdj⟩, _⟩ := hfed j oj hoj hjf
              obtain ⟨h7, _⟩ := hdn j oj dj hoj hdj
              have hsv := stAt_st se j w' w'' _ (J.early j oj hoj hjf hLj') hTT
              rw [h7] at hsv ⊢
              cases hdo : o.dst with
              | none => simpa [putσ] using hsv
              | some di =>
                have hne : dj ≠ di := fun h => hji (hinj j i oj o dj hoj hi hdj (by rw [hdo, h]))
                simpa [putσ, hne] using hsv)
            exact ⟨_, _, _, _, sl', hJ'⟩
  · rintro L σ w' hall ⟨hcl, xs, b, σ0, w0, sl, J⟩
    cases xs with
    | cons x xs =>
      have hc := J.chk
      simp only [phasesF, phaseAtF, Bool.and_eq_true, decide_eq_true_eq, Bool.not_eq_true'] at hc
      have h1 := J.post x (by unfold phaseEnd; exact Nat.le_refl _) hc.1.1.1.1.2
      rw [hall x hc.1.1.1.1.1.2] at h1
      cases h1
    | nil =>
      refine J.tail σ w' ⟨J.t, J.below, J.old, fun j hbj hjl hjf => ?_⟩ fun j hjf => ?_
      · have hjl' : j < l.length := Nat.le_of_ble_eq_true hjl
        exact J.val j _ (List.getElem?_eq_getElem hjl') (Nat.le_of_ble_eq_true hbj) hjf (hall j hjl')
      · have hm := List.all_eq_true.1 hfe j ((elemB_iff _ _).1 hjf)
        cases hj : l[j]? with
        | none => rw [hj] at hm; cases hm
        | some oj => exact J.early j oj hj hjf (hall j (List.getElem?_eq_some_iff.1 hj).1)
end Go.Proofs.Ytmaagkdehdmhlaa
