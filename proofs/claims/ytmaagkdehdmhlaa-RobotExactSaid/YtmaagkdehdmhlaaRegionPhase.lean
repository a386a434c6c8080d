/- A region that draws its order and that falls into phases: all that stands ahead of an operation of 'xs' is done ahead of it, all that stands behind it is done behind it; within a phase all operations only add to memory. -/
import Derived.Test.YtmaagkdehdmhlaaRobotExactPartD
namespace Go.Proofs.Ytmaagkdehdmhlaa
open Go.RowKit

/-- What a step of a phase may use. -/
structure EnvG (ops : List Oper) (sl : List Sp) (a : Act) (b : Nat) (σ0 : Nat → Value) (w0 w' : World) (o : Oper) (ρ : Operand → Value) : Prop where
  below : Below w0.heap.size w0 w'
  pre : ∀ j, Nat.ble b j = true → o.after.toList.any (fun e => e.on == j && Region.binds .any e) = true → spAt sl (j - b) w' (ρ (.tmp (dstN ops.toArray j)))
  old : ∀ j d, Nat.blt j b = true → (ops[j]?).bind (·.dst) = some d → ρ (.tmp d) = σ0 d
  out : ∀ t, elemB t (dstsOf' ops) = false → ρ (.tmp t) = a.tmps.getD t undef
  con : ∀ v, ρ (.const v) = v
  fn : ∀ f, ρ (.func f) = .func (.func f) #[] #[]
def StepsG (P : Program) (ops : List Oper) (sl : List Sp) (a : Act) (b : Nat) (σ0 : Nat → Value) (w0 : World) : List Oper → Nat → Prop
  | [], _ => True
  | o :: os, i => (∀ ρ w', EnvG ops sl a b σ0 w0 w' o ρ → StepOk P ops.toArray o ρ w' (fun v w'' => Below w'.heap.size w' w'' ∧ spAt sl i w'' v)) ∧ StepsG P ops sl a b σ0 w0 os (i + 1)
section
variable {P : Program} {ops : List Oper} {sl : List Sp} {a : Act} {b : Nat} {σ0 : Nat → Value} {w0 : World}
theorem stepsG_nil {i : Nat} : StepsG P ops sl a b σ0 w0 [] i := trivial
theorem stepsG_cons {i : Nat} {o : Oper} {os : List Oper} (h : ∀ ρ w', EnvG ops sl a b σ0 w0 w' o ρ → StepOk P ops.toArray o ρ w' (fun v w'' => Below w'.heap.size w' w'' ∧ spAt sl i w'' v)) (hs : StepsG P ops sl a b σ0 w0 os (i + 1)) : StepsG P ops sl a b σ0 w0 (o :: os) i := ⟨h, hs⟩
theorem stepsG_at : ∀ (os : List Oper) (i : Nat), StepsG P ops sl a b σ0 w0 os i → ∀ (j : Nat) (o : Oper), os[j]? = some o → ∀ ρ w', EnvG ops sl a b σ0 w0 w' o ρ → StepOk P ops.toArray o ρ w' (fun v w'' => Below w'.heap.size w' w'' ∧ spAt sl (i + j) w'' v)
  | [], _, _, j, o, hj => by simp at hj
  | o' :: os, i, h, j, o, hj => by
    cases j with
    | zero => simp at hj; subst hj; exact h.1
    | succ j =>
      have := stepsG_at os (i + 1) h.2 j o (by simpa using hj)
      rwa [show i + 1 + j = i + (j + 1) by omega] at this
end
/-- From a phase's beginning on. -/
def Stage (P : Program) (ops : List Oper) (a : Act) (Q : Exit → Act → World → Prop) : List Nat → Nat → (Nat → Value) → World → Prop
  | [], b, σ0, w0 => ∃ sl : List Sp, StepsG P ops sl a b σ0 w0 (ops.drop b) 0 ∧ ∀ σ w', Below w0.heap.size w0 w' → (∀ j d, Nat.blt j b = true → (ops[j]?).bind (·.dst) = some d → σ d = σ0 d) → (∀ j, Nat.ble b j = true → Nat.blt j ops.length = true → spAt sl (j - b) w' (σ (dstN ops.toArray j))) → Q .normal (upd a (dstsOf' ops) σ) w'
  | x :: xs, b, σ0, w0 => ∃ sl : List Sp, StepsG P ops sl a b σ0 w0 ((ops.take x).drop b) 0 ∧ ∃ o, ops[x]? = some o ∧ ∀ σ ρ w', EnvG ops sl a b σ0 w0 w' o ρ → (∀ j d, Nat.blt j b = true → (ops[j]?).bind (·.dst) = some d → σ d = σ0 d) → (∀ j, Nat.ble b j = true → Nat.blt j x = true → spAt sl (j - b) w' (σ (dstN ops.toArray j))) →
      StepOk P ops.toArray o ρ w' (fun v w'' => Stage P ops a Q xs (x + 1) (putσ σ o.dst v) w'')
theorem stage_last {P : Program} {ops : List Oper} {a : Act} {Q : Exit → Act → World → Prop} {b : Nat} {σ0 : Nat → Value} {w0 : World} (sl : List Sp) (h1 : StepsG P ops sl a b σ0 w0 (ops.drop b) 0)
    (h2 : ∀ σ w', Below w0.heap.size w0 w' → (∀ j d, Nat.blt j b = true → (ops[j]?).bind (·.dst) = some d → σ d = σ0 d) → (∀ j, Nat.ble b j = true → Nat.blt j ops.length = true → spAt sl (j - b) w' (σ (dstN ops.toArray j))) → Q .normal (upd a (dstsOf' ops) σ) w') : Stage P ops a Q [] b σ0 w0 := ⟨sl, h1, h2⟩
theorem stage_more {P : Program} {ops : List Oper} {a : Act} {Q : Exit → Act → World → Prop} {b x : Nat} {xs : List Nat} {σ0 : Nat → Value} {w0 : World} (sl : List Sp) {o : Oper} (ho : ops[x]? = some o) (h1 : StepsG P ops sl a b σ0 w0 ((ops.take x).drop b) 0)
    (h2 : ∀ σ ρ w', EnvG ops sl a b σ0 w0 w' o ρ → (∀ j d, Nat.blt j b = true → (ops[j]?).bind (·.dst) = some d → σ d = σ0 d) → (∀ j, Nat.ble b j = true → Nat.blt j x = true → spAt sl (j - b) w' (σ (dstN ops.toArray j))) → StepOk P ops.toArray o ρ w' (fun v w'' => Stage P ops a Q xs (x + 1) (putσ σ o.dst v) w'')) : Stage P ops a Q (x :: xs) b σ0 w0 := ⟨sl, h1, o, ho, h2⟩

def edgeB (ops : List Oper) (i j : Nat) : Bool := match ops[i]? with
  | some o => o.after.toList.any fun e => e.on == j && Region.binds .any e
  | none => false
/-- All from b to x is done ahead of x; all behind x is done behind it. -/
def phaseAt (ops : List Oper) (b x : Nat) : Bool :=
  decide (b ≤ x) && decide (x < ops.length) && ((List.range x).all fun j => decide (j < b) || (List.range (x + 1)).any fun j' => decide (j < j') && edgeB ops j' j) &&
  ((List.range ops.length).all fun i => decide (i ≤ x) || (List.range ops.length).any fun j => decide (x ≤ j) && edgeB ops i j)
def grpB (ops : List Oper) (b e : Nat) : Bool := (List.range e).all fun j => decide (j < b) || ((ops[j]?).bind (·.dst)).isSome
def phasesB (ops : List Oper) : List Nat → Nat → Bool
  | [], b => decide (b ≤ ops.length) && grpB ops b ops.length
  | x :: xs, b => (phaseAt ops b x && grpB ops b x) && phasesB ops xs (x + 1)
def phaseEnd (ops : List Oper) (xs : List Nat) : Nat := xs.headD ops.length

def TailG (P : Program) (l : List Oper) (a : Act) (Q : Exit → Act → World → Prop) (b : Nat) (σ0 : Nat → Value) (w0 : World) (sl : List Sp) : List Nat → Prop
  | [] => ∀ σ w', Below w0.heap.size w0 w' → (∀ j d, Nat.blt j b = true → (l[j]?).bind (·.dst) = some d → σ d = σ0 d) → (∀ j, Nat.ble b j = true → Nat.blt j l.length = true → spAt sl (j - b) w' (σ (dstN l.toArray j))) → Q .normal (upd a (dstsOf' l) σ) w'
  | x :: xs => ∃ o, l[x]? = some o ∧ ∀ σ ρ w', EnvG l sl a b σ0 w0 w' o ρ → (∀ j d, Nat.blt j b = true → (l[j]?).bind (·.dst) = some d → σ d = σ0 d) → (∀ j, Nat.ble b j = true → Nat.blt j x = true → spAt sl (j - b) w' (σ (dstN l.toArray j))) →
        StepOk P l.toArray o ρ w' (fun v w'' => Stage P l a Q xs (x + 1) (putσ σ o.dst v) w'')
/-- What holds between two operations. -/
structure JP (P : Program) (l : List Oper) (a : Act) (Q : Exit → Act → World → Prop) (L : Nat → Bool) (σ : Nat → Value) (w' : World) (xs : List Nat) (b : Nat) (σ0 : Nat → Value) (w0 : World) (sl : List Sp) : Prop where
  chk : phasesB l xs b = true
  pre : ∀ i, i < b → L i = true
  post : ∀ i, phaseEnd l xs ≤ i → L i = false
  below : Below w0.heap.size w0 w'
  old : ∀ j d, Nat.blt j b = true → (l[j]?).bind (·.dst) = some d → σ d = σ0 d
  val : ∀ j o, l[j]? = some o → b ≤ j → L j = true → spAt sl (j - b) w' (σ (dstN l.toArray j))
  steps : StepsG P l sl a b σ0 w0 ((l.take (phaseEnd l xs)).drop b) 0
  tail : TailG P l a Q b σ0 w0 sl xs
theorem jp_of {P : Program} {l : List Oper} {a : Act} {Q : Exit → Act → World → Prop} {L : Nat → Bool} {σ : Nat → Value} {w0 w' : World} {xs : List Nat} {b : Nat} (h : Stage P l a Q xs b σ w0) (hb : Below w0.heap.size w0 w') (hc : phasesB l xs b = true) (h1 : ∀ i, i < b → L i = true) (h2 : ∀ i, b ≤ i → L i = false) : ∃ sl, JP P l a Q L σ w' xs b σ w0 sl := by
  cases xs with
  | nil =>
    obtain ⟨sl, hs, ht⟩ := h
    have hbl : b ≤ l.length := by simp only [phasesB, Bool.and_eq_true, decide_eq_true_eq] at hc; exact hc.1
    exact ⟨sl, hc, h1, fun i hi => h2 i (Nat.le_trans hbl hi), hb, fun _ _ _ _ => rfl, fun j o _ hj hL => (by rw [h2 j hj] at hL; cases hL), by unfold phaseEnd; rw [List.headD_nil, List.take_length]; exact hs, ht⟩
  | cons x xs =>
    obtain ⟨sl, hs, ht⟩ := h
    have hbl : b ≤ x := by
      simp only [phasesB, phaseAt, Bool.and_eq_true, decide_eq_true_eq] at hc
      exact hc.1.1.1.1.1
    exact ⟨sl, hc, h1, fun i hi => h2 i (Nat.le_trans hbl hi), hb, fun _ _ _ _ => rfl, fun j o _ hj hL => (by rw [h2 j hj] at hL; cases hL), hs, ht⟩

theorem dst_inj : ∀ {l : List Oper}, (dstsOf' l).Nodup → ∀ (i j : Nat) (oi oj : Oper) (d : Nat), l[i]? = some oi → l[j]? = some oj → oi.dst = some d → oj.dst = some d → i = j := by
  intro l hnd'
  induction l with
  | nil => intro i j oi oj d hi; simp at hi
  | cons o l ih =>
    intro i j oi oj d hi hj hdi hdj
    have hmem : ∀ (k : Nat) (ok : Oper), l[k]? = some ok → ok.dst = some d → d ∈ dstsOf' l := fun k ok hk he => List.mem_filterMap.2 ⟨ok, List.mem_of_getElem? hk, he⟩
    have hcons : o.dst = some d → d ∉ dstsOf' l := by
      intro ho
      have : dstsOf' (o :: l) = d :: dstsOf' l := by simp [dstsOf', ho]
      rw [this, List.nodup_cons] at hnd'
      exact hnd'.1
    have htail : (dstsOf' l).Nodup := by
      have h2 : dstsOf' (o :: l) = (match o.dst with | some x => [x] | none => []) ++ dstsOf' l := by
        cases ho : o.dst <;> simp [dstsOf', ho]
      rw [h2] at hnd'
      exact (List.nodup_append.1 hnd').2.1
    cases i with
    | zero =>
      cases j with
      | zero => rfl
      | succ j =>
        simp at hi hj; subst hi
        exact absurd (hmem j oj hj hdj) (hcons hdi)
    | succ i =>
      cases j with
      | zero =>
        simp at hi hj; subst hj
        exact absurd (hmem i oi hi hdi) (hcons hdj)
      | succ j =>
        simp at hi hj
        rw [ih htail i j oi oj d hi hj hdi hdj]
theorem edgeB_spec {l : List Oper} {i j : Nat} (h : edgeB l i j = true) : ∃ o, l[i]? = some o ∧ ∃ e ∈ o.after, Region.binds .any e = true ∧ e.on = j := by
  unfold edgeB at h
  cases ho : l[i]? with
  | none => rw [ho] at h; cases h
  | some o =>
    rw [ho] at h
    obtain ⟨e, he, hej⟩ := List.any_eq_true.1 h
    simp only [Bool.and_eq_true, beq_iff_eq] at hej
    exact ⟨o, rfl, e, by simpa using he, hej.2, hej.1⟩

theorem wp_region_phase {P : Program} {id : Nat} {l : List Oper} {Q : Exit → Act → World → Prop} {a : Act} {w : World} (hm : P.follows .mixedOrders = true) (xs : List Nat) (hok : regionOk3 l a.tmps.size = true) (hph : phasesB l xs 0 = true)
    (h : Stage P l a Q xs 0 (fun t => a.tmps.getD t undef) w) : (Code.region id l.toArray true).wp P Q a w := by
  have hok' := hok
  simp only [regionOk3, Bool.and_eq_true, List.all_eq_true, decide_eq_true_eq] at hok'
  obtain ⟨⟨⟨hlt, hnd⟩, hedge⟩, hgrd⟩ := hok'
  have hinj : ∀ (i j : Nat) (oi oj : Oper) (d : Nat), l[i]? = some oi → l[j]? = some oj → oi.dst = some d → oj.dst = some d → i = j := dst_inj (nodupB_spec hnd)
  have hed : ∀ (i : Nat) (o : Oper), l[i]? = some o → ∀ e ∈ o.after, Region.binds .any e = true → e.on < i := by
    intro i o hi e he hb
    have := hedge (o, i) (by rw [List.mem_zipIdx_iff_getElem?]; simpa using hi) e (by simpa using he)
    simpa [hb] using this
  have hev : ∀ (σ : Nat → Value) (d : Nat), d ∈ dstsOf' l → (upd a (dstsOf' l) σ).eval (.tmp d) = σ d := fun σ d hd => by
    rw [upd_eval, if_pos (hlt d hd), if_pos ((elemB_iff _ _).2 hd)]
  have hgr : ∀ {xs : List Nat} {b : Nat}, phasesB l xs b = true → ∀ j oj, b ≤ j → j < phaseEnd l xs → l[j]? = some oj → ∃ d, oj.dst = some d := by
    intro xs b hc j oj hbj hje hj
    have hg : grpB l b (phaseEnd l xs) = true := by
      cases xs with
      | nil => simp only [phasesB, Bool.and_eq_true] at hc; exact hc.2
      | cons x xs => simp only [phasesB, Bool.and_eq_true] at hc; exact hc.1.2
    have := List.all_eq_true.1 hg j (List.mem_range.2 hje)
    simp only [Bool.or_eq_true, decide_eq_true_eq, hj, Option.bind_some] at this
    exact Option.isSome_iff_exists.1 (this.resolve_left (by omega))
  refine wp_region_inv hm (fun L σ w' => (∀ i o, l[i]? = some o → L i = true → ∀ e ∈ o.after, Region.binds .any e = true → L e.on = true) ∧ ∃ xs b σ0 w0 sl, JP P l a Q L σ w' xs b σ0 w0 sl) hok ?_ ?_ ?_
  · obtain ⟨sl, hj⟩ := jp_of (L := fun _ => false) (w' := { w with drawn := w.drawn + 1 }) h ⟨rfl, rfl, rfl, Nat.le_refl _, fun _ _ => rfl⟩ hph (fun i hi => by omega) (fun _ _ => rfl)
    exact ⟨fun _ _ _ h => (by cases h), _, _, _, _, sl, hj⟩
  · rintro i o hi L σ w' hLi hdone ⟨hcl, xs, b, σ0, w0, sl, J⟩
    have hil : i < l.length := (List.getElem?_eq_some_iff.1 hi).1
    have hbi : b ≤ i := by
      rcases Nat.lt_or_ge i b with h1 | h1
      · rw [J.pre i h1] at hLi; cases hLi
      · exact h1
    have henv : EnvG l sl a b σ0 w0 w' o (upd a (dstsOf' l) σ).eval := by
      refine ⟨J.below, fun j hbj hj => ?_, fun j d hj hd => ?_, fun t ht => ?_, fun _ => rfl, fun _ => rfl⟩
      · obtain ⟨e, he, hej⟩ := List.any_eq_true.1 hj
        simp only [Bool.and_eq_true, beq_iff_eq] at hej
        obtain ⟨rfl, hbd⟩ := hej
        have he' : e ∈ o.after := by simpa using he
        have hLe := hdone e he' hbd
        have hei := hed i o hi e he' hbd
        have hbj' : b ≤ e.on := Nat.le_of_ble_eq_true hbj
        have hje : e.on < phaseEnd l xs := by
          rcases Nat.lt_or_ge e.on (phaseEnd l xs) with h1 | h1
          · exact h1
          · rw [J.post _ h1] at hLe; cases hLe
        have hj' := List.getElem?_eq_getElem (show e.on < l.length by omega)
        obtain ⟨d, hd⟩ := hgr J.chk e.on _ hbj' hje hj'
        have h5 : dstN l.toArray e.on = d := by simp [dstN, hj', hd]
        have h6 : d ∈ dstsOf' l := List.mem_filterMap.2 ⟨_, List.mem_of_getElem? hj', hd⟩
        have hv := J.val e.on _ hj' hbj' hLe
        rw [h5] at hv ⊢
        rw [hev σ d h6]
        exact hv
      · have hd' := J.old j d hj hd
        obtain ⟨oj, hoj, hdj⟩ := Option.bind_eq_some_iff.1 hd
        rw [hev σ d (List.mem_filterMap.2 ⟨oj, List.mem_of_getElem? hoj, hdj⟩)]
        exact hd'
      · rw [upd_eval]
        split
        · rw [if_neg (by rw [ht]; simp)]
        · rename_i h
          simp [Array.getD_eq_getD_getElem?, Array.getElem?_eq_none (Nat.not_lt.1 h)]
    have hclosed : ∀ j oj, l[j]? = some oj → updL1 L i j = true → ∀ e ∈ oj.after, Region.binds .any e = true → updL1 L i e.on = true := by
      intro j oj hj hLj e he hbd
      simp only [updL1, Bool.or_eq_true, beq_iff_eq] at hLj ⊢
      by_cases hji : j = i
      · subst hji
        rw [hi] at hj; cases hj
        exact .inl (hdone e he hbd)
      · exact .inl (hcl j oj hj (hLj.resolve_right hji) e he hbd)
    by_cases hie : i < phaseEnd l xs
    · have hst := stepsG_at _ 0 J.steps (i - b) o (by rw [List.getElem?_drop, show b + (i - b) = i by omega, List.getElem?_take, if_pos hie]; exact hi) _ w' henv
      rw [Nat.zero_add] at hst
      refine stepOk_mono hst fun v w'' ⟨hB, hv⟩ => ⟨hclosed, xs, b, σ0, w0, sl, ⟨J.chk, fun j hj => by simp [updL1, J.pre j hj], fun j hj => ?_, bthen J.below hB (Nat.le_refl _), fun j d hj hd => ?_, fun j oj hoj hbj hLj => ?_, J.steps, J.tail⟩⟩
      · have h1 := J.post j hj
        simp only [updL1, h1, Bool.false_or, beq_eq_false_iff_ne, ne_eq]
        omega
      · obtain ⟨di, hdi⟩ := hgr J.chk i o hbi hie hi
        obtain ⟨oj, hoj, hdj⟩ := Option.bind_eq_some_iff.1 hd
        have hne : d ≠ di := fun h => by
          have := hinj i j o oj d hi hoj (by rw [hdi, h]) hdj
          have := Nat.le_of_ble_eq_true hj
          omega
        rw [hdi]
        simp only [putσ, if_neg hne]
        exact J.old j d hj hd
      · obtain ⟨di, hdi⟩ := hgr J.chk i o hbi hie hi
        have hdn : dstN l.toArray i = di := by simp [dstN, hi, hdi]
        by_cases hji : j = i
        · subst hji
          rw [hdn, hdi]
          simpa [putσ] using hv
        · have hLj' : L j = true := by
            simp only [updL1, Bool.or_eq_true, beq_iff_eq] at hLj
            exact hLj.resolve_right hji
          have hje : j < phaseEnd l xs := by
            rcases Nat.lt_or_ge j (phaseEnd l xs) with h1 | h1
            · exact h1
            · rw [J.post _ h1] at hLj'; cases hLj'
          obtain ⟨dj, hdj⟩ := hgr J.chk j oj hbj hje hoj
          have hdnj : dstN l.toArray j = dj := by simp [dstN, hoj, hdj]
          have hne : dj ≠ di := fun h => hji (hinj j i oj o dj hoj hi hdj (by rw [hdi, h]))
          have hsv := spAt_st sl (j - b) w' w'' _ (J.val j oj hoj hbj hLj') hB
          rw [hdnj] at hsv ⊢
          rw [hdi]
          simpa [putσ, hne] using hsv
    · cases xs with
      | nil => exact absurd hil (by unfold phaseEnd at hie; simpa using hie)
      | cons x xs =>
        have hie : x ≤ i := by unfold phaseEnd at hie; simpa using hie
        have hc := J.chk
        simp only [phasesB, phaseAt, Bool.and_eq_true, decide_eq_true_eq, List.all_eq_true, List.mem_range, Bool.or_eq_true, List.any_eq_true] at hc
        obtain ⟨⟨⟨⟨⟨hbx, hxl⟩, hck1⟩, hck2⟩, _⟩, hrest⟩ := hc
        have hix : i = x := by
          rcases Nat.eq_or_lt_of_le hie with h1 | h1
          · exact h1.symm
          · rcases hck2 i hil with h2 | ⟨j, _, hxj, hej⟩
            · omega
            · obtain ⟨o', ho', e, he, hbd, rfl⟩ := edgeB_spec hej
              rw [hi] at ho'; cases ho'
              have h3 := hdone e he hbd
              rw [J.post e.on hxj] at h3
              cases h3
        subst hix
        have hall : ∀ k j, i - j ≤ k → b ≤ j → j < i → L j = true := by
          intro k
          induction k with
          | zero => intro j h1 h2 h3; omega
          | succ k ih =>
            intro j h1 h2 h3
            rcases hck1 j h3 with h4 | ⟨j', hj', hjj, hej⟩
            · omega
            · obtain ⟨o', ho', e, he, hbd, rfl⟩ := edgeB_spec hej
              by_cases hji : j' = i
              · subst hji
                rw [hi] at ho'; cases ho'
                exact hdone e he hbd
              · exact hcl j' o' ho' (ih j' (by omega) (by omega) (by omega)) e he hbd
        obtain ⟨o', ho', htl⟩ := J.tail
        rw [hi] at ho'; cases ho'
        refine stepOk_mono (htl σ _ w' henv J.old fun j hbj hjx => ?_) fun v w'' hS => ⟨hclosed, ?_⟩
        · have hbj' := Nat.le_of_ble_eq_true hbj
          have hjx' : j < i := Nat.le_of_ble_eq_true hjx
          exact J.val j _ (List.getElem?_eq_getElem (by omega)) hbj' (hall _ j (Nat.le_refl _) hbj' hjx')
        · obtain ⟨sl', hJ'⟩ := jp_of (L := updL1 L i) (w' := w'') hS (Below.refl _ _) hrest (fun j hj => by
            simp only [updL1, Bool.or_eq_true, beq_iff_eq]
            by_cases hji : j = i
            · exact .inr hji
            · left
              by_cases hjb : j < b
              · exact J.pre j hjb
              · exact hall _ j (Nat.le_refl _) (by omega) (by omega)) (fun j hj => by
            have h1 := J.post j (by unfold phaseEnd; rw [List.headD_cons]; omega)
            simp only [updL1, h1, Bool.false_or, beq_eq_false_iff_ne, ne_eq]
            omega)
          exact ⟨_, _, _, _, sl', hJ'⟩
  · rintro L σ w' hall ⟨hcl, xs, b, σ0, w0, sl, J⟩
    cases xs with
    | cons x xs =>
      have hc := J.chk
      simp only [phasesB, phaseAt, Bool.and_eq_true, decide_eq_true_eq] at hc
      have h1 := J.post x (by unfold phaseEnd; exact Nat.le_refl _)
      rw [hall x hc.1.1.1.1.2] at h1
      cases h1
    | nil =>
      exact J.tail σ w' J.below J.old fun j hbj hjl => by
        have hjl' : j < l.length := Nat.le_of_ble_eq_true hjl
        exact J.val j _ (List.getElem?_eq_getElem hjl') (Nat.le_of_ble_eq_true hbj) (hall j hjl')
end Go.Proofs.Ytmaagkdehdmhlaa
