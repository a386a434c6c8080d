/- A region that draws its order, whose operations (calls among them) only add to memory: what is said of each operation's value apart holds of all of them in the end, whatever the order. -/
import Derived.Test.YtmaagkdehdmhlaaBase
import Derived.Orders
namespace Go.Proofs.Ytmaagkdehdmhlaa
open Go.RowKit

def elemB : Nat → List Nat → Bool
  | _, [] => false
  | a, b :: bs => (a == b) || elemB a bs
theorem elemB_iff (a : Nat) (l : List Nat) : elemB a l = true ↔ a ∈ l := by
  induction l with
  | nil => simp [elemB]
  | cons b bs ih => simp [elemB, ih]
def updL : List Value → Nat → List Nat → (Nat → Value) → List Value
  | [], _, _, _ => []
  | v :: vs, t, ds, σ => (bif elemB t ds then σ t else v) :: updL vs (t + 1) ds σ
theorem updL_length (l : List Value) (t : Nat) (ds : List Nat) (σ : Nat → Value) : (updL l t ds σ).length = l.length := by
  induction l generalizing t with
  | nil => rfl
  | cons v vs ih => simp [updL, ih]
theorem updL_get (l : List Value) (t : Nat) (ds : List Nat) (σ : Nat → Value) (i : Nat) : (updL l t ds σ)[i]? = (l[i]?).map fun v => bif elemB (t + i) ds then σ (t + i) else v := by
  induction l generalizing t i with
  | nil => simp [updL]
  | cons v vs ih =>
    cases i with
    | zero => simp [updL]
    | succ i => simp only [updL, List.getElem?_cons_succ, ih]; rw [show t + 1 + i = t + (i + 1) by omega]
/-- The frame a with new values in the slots ds. -/
def upd (a : Act) (ds : List Nat) (σ : Nat → Value) : Act := ⟨(updL a.tmps.toList 0 ds σ).toArray, a.defers⟩

def dstsOf' (ops : List Oper) : List Nat := ops.filterMap (·.dst)
def dstN (ops : Array Oper) (i : Nat) : Nat := (((ops[i]?).bind (·.dst)).getD 0)

/-- What one operation comes to. -/
def OpOk (P : Program) (o : Oper) (ρ : Operand → Value) (w : World) (R : Value → World → Prop) : Prop :=
  match (execOp ρ o).run P w with
  | .ok (.value v) w' => R v w'
  | .ok .skip w' => R undef w'
  | .ok (.enter f args) w' => Calls P f args w' fun e w'' => ∃ v, e = .returned v ∧ R v w''
  | _ => False

def StepOk (P : Program) (ops : Array Oper) (o : Oper) (ρ : Operand → Value) (w : World) (R : Value → World → Prop) : Prop :=
  match o.guard with
  | none => OpOk P o ρ w R
  | some (g, want) => ∃ b, ρ (.tmp (dstN ops g)) = .bool b ∧ (bif b == want then OpOk P o ρ w R else R undef w)

def PreOk (ops : Array Oper) (S : Nat → World → Value → Prop) (w : World) (σ : Nat → Value) : List Edge → Prop
  | [] => True
  | e :: es => S e.on w (σ (dstN ops e.on)) ∧ PreOk ops S w σ es

def AllOk (ops : Array Oper) (S : Nat → World → Value → Prop) (w : World) (σ : Nat → Value) : List Oper → Nat → Prop
  | [], _ => True
  | _ :: os, i => S i w (σ (dstN ops i)) ∧ AllOk ops S w σ os (i + 1)

/-- The closed facts of a region: each operation has a slot of its own, within the frame; edges go back; a guard has an edge. -/
def nodupB : List Nat → Bool
  | [] => true
  | a :: l => !elemB a l && nodupB l
def regionOk (ops : List Oper) (n : Nat) : Bool :=
  ops.all (fun o => o.dst.isSome) && (dstsOf' ops).all (· < n) && nodupB (dstsOf' ops) && (ops.zipIdx.all fun (o, i) => o.after.toList.all fun e => e.on < i && Region.binds .any e) && (ops.zipIdx.all fun (o, i) => match o.guard with | none => true | some (g, _) => g < i)

theorem filt_le {p p' : Nat → Bool} (h : ∀ x, p' x = true → p x = true) (l : List Nat) : (l.filter p').length ≤ (l.filter p).length := by
  induction l with
  | nil => simp
  | cons a l ih =>
    simp only [List.filter_cons]
    cases h1 : p' a <;> cases h2 : p a <;> simp <;> first | omega | (have := h a h1; simp [h2] at this)
theorem filt_lt {p p' : Nat → Bool} (h : ∀ x, p' x = true → p x = true) {i : Nat} : ∀ (l : List Nat), i ∈ l → p i = true → p' i = false → (l.filter p').length < (l.filter p).length
  | [], hi, _, _ => by cases hi
  | a :: l, hi, h1, h2 => by
    simp only [List.filter_cons]
    rcases List.mem_cons.1 hi with rfl | hi
    · have := filt_le h l
      simp [h1, h2]; omega
    · have := filt_lt h l hi h1 h2
      cases h3 : p' a <;> cases h4 : p a <;> simp <;> first | omega | (have := h a h3; simp [h4] at this)

theorem upd_self (a : Act) (ds : List Nat) : upd a ds (fun t => a.tmps.getD t undef) = a := by
  obtain ⟨tmps, defers⟩ := a
  simp only [upd, Act.mk.injEq, and_true]
  apply Array.ext'
  apply List.ext_getElem?
  intro i
  rw [updL_get]
  cases h : tmps.toList[i]? with
  | none => simp
  | some v =>
    have : tmps[i]? = some v := by simpa using h
    cases hb : elemB (0 + i) ds <;> simp [this]

theorem upd_put (a : Act) (ds : List Nat) (σ : Nat → Value) (d : Nat) (v : Value) (hd : d ∈ ds) : (upd a ds σ).put (some d) v = upd a ds (fun t => if t = d then v else σ t) := by
  obtain ⟨tmps, defers⟩ := a
  simp only [upd, Act.put, Act.mk.injEq, and_true]
  apply Array.ext'
  apply List.ext_getElem?
  intro i
  rw [updL_get, Array.toList_setIfInBounds, List.getElem?_set, updL_get]
  by_cases hdi : d = i
  · subst hdi
    have hb : elemB d ds = true := (elemB_iff _ _).2 hd
    simp only [Nat.zero_add, hb, cond_true, if_true]
    rw [updL_length]
    cases h : tmps.toList[d]? with
    | none => rw [if_neg (by have := List.getElem?_eq_none_iff.1 h; omega)]; rfl
    | some u => rw [if_pos (List.getElem?_eq_some_iff.1 h).1]; rfl
  · rw [if_neg hdi]
    simp only [Nat.zero_add]
    rw [if_neg (fun h => hdi h.symm)]

theorem upd_eval (a : Act) (ds : List Nat) (σ : Nat → Value) (t : Nat) : (upd a ds σ).eval (.tmp t) = if t < a.tmps.size then (if elemB t ds then σ t else a.tmps.getD t undef) else undef := by
  obtain ⟨tmps, defers⟩ := a
  have h := updL_get tmps.toList 0 ds σ t
  simp only [Nat.zero_add] at h
  simp only [Act.eval, upd, Array.getD_eq_getD_getElem?, List.getElem?_toArray, h]
  by_cases ht : t < tmps.size
  · cases hb : elemB t ds <;> simp [ht]
  · simp [ht]

theorem nodupB_spec {l : List Nat} (h : nodupB l = true) : l.Nodup := by
  induction l with
  | nil => exact List.nodup_nil
  | cons a l ih =>
    simp only [nodupB, Bool.and_eq_true, Bool.not_eq_true'] at h
    refine List.nodup_cons.2 ⟨fun hm => ?_, ih h.2⟩
    rw [(elemB_iff a l).2 hm] at h
    simp at h

theorem filterMap_inj {l : List Oper} (hs : ∀ o ∈ l, o.dst.isSome = true) (h : (dstsOf' l).Nodup) : ∀ (i j : Nat) (oi oj : Oper), l[i]? = some oi → l[j]? = some oj → oi.dst = oj.dst → i = j := by
  induction l with
  | nil => intro i j oi oj hi; simp at hi
  | cons o l ih =>
    have ho := hs o (by simp)
    obtain ⟨d, hd⟩ := Option.isSome_iff_exists.1 ho
    have hds : dstsOf' (o :: l) = d :: dstsOf' l := by simp [dstsOf', hd]
    rw [hds, List.nodup_cons] at h
    have hmem : ∀ (k : Nat) (ok : Oper), l[k]? = some ok → ok.dst ≠ some d := fun k ok hk he => h.1 (List.mem_filterMap.2 ⟨ok, List.mem_of_getElem? hk, he⟩)
    intro i j oi oj hi hj he
    cases i with
    | zero =>
      cases j with
      | zero => rfl
      | succ j =>
        simp at hi hj
        subst hi
        exact absurd (he.symm.trans hd) (hmem j oj hj)
    | succ i =>
      cases j with
      | zero =>
        simp at hi hj
        subst hj
        exact absurd (he.trans hd) (hmem i oi hi)
      | succ j =>
        simp at hi hj
        rw [ih (fun o ho => hs o (by simp [ho])) h.2 i j oi oj hi hj he]

theorem allOk_of {ops : Array Oper} {S : Nat → World → Value → Prop} {w : World} {σ : Nat → Value} : ∀ (l : List Oper) (k : Nat), (∀ j, j < l.length → S (k + j) w (σ (dstN ops (k + j)))) → AllOk ops S w σ l k
  | [], _, _ => trivial
  | _ :: os, k, h => ⟨by simpa using h 0 (by simp), allOk_of os (k + 1) fun j hj => by
      have := h (j + 1) (by simp; omega)
      rwa [show k + (j + 1) = k + 1 + j by omega] at this⟩
theorem preOk_of {ops : Array Oper} {S : Nat → World → Value → Prop} {w : World} {σ : Nat → Value} : ∀ (l : List Edge), (∀ e ∈ l, S e.on w (σ (dstN ops e.on))) → PreOk ops S w σ l
  | [], _ => trivial
  | e :: es, h => ⟨h e (by simp), preOk_of es fun e' he => h e' (by simp [he])⟩

theorem yielded_eval (ops : Array Oper) (a : Act) (g : Nat) (b : Bool) (hd : ((ops[g]?).bind (·.dst)).isSome = true) (h : a.eval (.tmp (dstN ops g)) = .bool b) : yielded ops a.tmps g = some b := by
  obtain ⟨d, hd⟩ := Option.isSome_iff_exists.1 hd
  simp only [dstN, hd, Option.getD_some, Act.eval, Array.getD_eq_getD_getElem?] at h
  simp only [yielded, hd, Option.bind_some]
  cases hx : a.tmps[d]? with
  | none => simp [hx, undef] at h
  | some v => simp [hx] at h; simp [h]

theorem opOk_wp {P : Program} {o : Oper} {a : Act} {w : World} {R : Value → World → Prop} {K : Act → World → Prop} {Q : Exit → Act → World → Prop}
    (h : OpOk P o a.eval w R) (hK : ∀ v w', R v w' → K (a.put o.dst v) w') : o.wp P a w K Q := by
  unfold OpOk at h
  unfold Oper.wp
  generalize (execOp a.eval o).run P w = r at *
  cases r with
  | ok n w' =>
    cases n <;> simp only [Oper.upon] at h ⊢
    case value v => exact hK _ _ h
    case skip => exact hK _ _ h
    case enter f args => exact Calls.mono h fun e w'' ⟨v, he, hr⟩ => by subst he; exact hK _ _ hr
  | halt x w' => exact h.elim

/-- THE LAW. -/
theorem wp_region_ext {P : Program} {id : Nat} {l : List Oper} {Q : Exit → Act → World → Prop} {a : Act} {w : World} (hm : P.follows .mixedOrders = true) (S : Nat → World → Value → Prop)
    (hok : regionOk l a.tmps.size = true)
    (hstab : ∀ i w1 w2 v, Below w.heap.size w w1 → S i w1 v → Below w1.heap.size w1 w2 → S i w2 v)
    (hstep : ∀ (i : Nat) (o : Oper), l[i]? = some o → ∀ σ w', Below w.heap.size w w' → PreOk l.toArray S w' σ o.after.toList → StepOk P l.toArray o (upd a (dstsOf' l) σ).eval w' (fun v w'' => Below w'.heap.size w' w'' ∧ S i w'' v))
    (hfin : ∀ σ w', Below w.heap.size w w' → AllOk l.toArray S w' σ l 0 → Q .normal (upd a (dstsOf' l) σ) w') : (Code.region id l.toArray true).wp P Q a w := by
  simp only [regionOk, Bool.and_eq_true, List.all_eq_true, decide_eq_true_eq] at hok
  obtain ⟨⟨⟨⟨hsome, hlt⟩, hnd⟩, hedge⟩, hgrd⟩ := hok
  have hinj := filterMap_inj hsome (nodupB_spec hnd)
  have hdst : ∀ (i : Nat) (o : Oper), l[i]? = some o → ∃ d, o.dst = some d ∧ d ∈ dstsOf' l ∧ dstN l.toArray i = d := by
    intro i o hi
    have ho := hsome o (List.mem_of_getElem? hi)
    obtain ⟨d, hd⟩ := Option.isSome_iff_exists.1 ho
    exact ⟨d, hd, List.mem_filterMap.2 ⟨o, List.mem_of_getElem? hi, hd⟩, by simp [dstN, hi, hd]⟩
  have hed : ∀ (i : Nat) (o : Oper), l[i]? = some o → ∀ e ∈ o.after, e.on < i ∧ Region.binds .any e = true := by
    intro i o hi e he
    have := hedge (o, i) (by rw [List.mem_zipIdx_iff_getElem?]; simpa using hi) e (by simpa using he)
    exact this
  refine wp_region_any hm ?_
  have key : ∀ (fuel : Nat) (listed : Array Bool) (σ : Nat → Value) (w' : World), listed.size = l.length → ((List.range l.length).filter fun j => !listed.getD j true).length ≤ fuel →
      Below w.heap.size w w' → (∀ (j : Nat) (o : Oper), l[j]? = some o → listed.getD j false = true → S j w' (σ (dstN l.toArray j))) → wpAny P .any l.toArray Q fuel listed (upd a (dstsOf' l) σ) w' := by
    intro fuel
    induction fuel with
    | zero =>
      intro listed σ w' hsz hcnt hb hS
      have hall : ∀ j, j < l.length → listed.getD j true = true := by
        intro j hj
        cases hl : listed.getD j true with
        | true => rfl
        | false =>
          have : j ∈ (List.range l.length).filter fun j => !listed.getD j true := List.mem_filter.2 ⟨List.mem_range.2 hj, by rw [hl]; rfl⟩
          rw [List.eq_nil_of_length_eq_zero (Nat.le_zero.1 hcnt)] at this
          cases this
      refine ⟨?_, ?_⟩
      · apply List.eq_nil_iff_forall_not_mem.2
        intro j hj
        obtain ⟨h1, o, ho, _⟩ := mem_ready.1 hj
        have hjl : j < l.length := by have := (Array.getElem?_eq_some_iff.1 ho).1; simpa using this
        rw [hall j hjl] at h1
        cases h1
      · exact hfin σ w' hb (allOk_of l 0 fun j hj => by
          rw [Nat.zero_add]
          refine hS j _ (List.getElem?_eq_getElem hj) ?_
          have := hall j hj
          simp only [Array.getD_eq_getD_getElem?, Array.getElem?_eq_getElem (by omega : j < listed.size), Option.getD_some] at this ⊢
          exact this)
    | succ fuel ih =>
      intro listed σ w' hsz hcnt hb hS
      refine ⟨fun hr => ?_, fun i hi => ?_⟩
      · -- nothing is ready: all are listed
        have hall : ∀ n j, j ≤ n → j < l.length → listed.getD j true = true := by
          intro n
          induction n using Nat.strongRecOn with
          | _ n ihn =>
            intro j hjn hj
            cases hl : listed.getD j true with
            | true => rfl
            | false =>
              have : j ∈ Region.ready .any l.toArray listed := by
                refine mem_ready.2 ⟨hl, l[j], by simp [hj], fun e he _ => ?_⟩
                have h1 := (hed j l[j] (List.getElem?_eq_getElem hj) e he).1
                have h2 := ihn e.on (by omega) e.on (Nat.le_refl _) (by omega)
                simp only [Array.getD_eq_getD_getElem?, Array.getElem?_eq_getElem (by omega : e.on < listed.size), Option.getD_some] at h2 ⊢
                exact h2
              rw [hr] at this
              cases this
        exact hfin σ w' hb (allOk_of l 0 fun j hj => by
          rw [Nat.zero_add]
          refine hS j _ (List.getElem?_eq_getElem hj) ?_
          have := hall j j (Nat.le_refl _) hj
          simp only [Array.getD_eq_getD_getElem?, Array.getElem?_eq_getElem (by omega : j < listed.size), Option.getD_some] at this ⊢
          exact this)
      · obtain ⟨hun, o, ho, hall⟩ := mem_ready.1 hi
        have ho' : l[i]? = some o := by simpa using ho
        have hil : i < l.length := (List.getElem?_eq_some_iff.1 ho').1
        obtain ⟨d, hd, hdm, hdn⟩ := hdst i o ho'
        have hst := hstep i o ho' σ w' hb (preOk_of _ fun e he => by
          have he' : e ∈ o.after := by simpa using he
          have h1 := hed i o ho' e he'
          exact hS e.on l[e.on] (List.getElem?_eq_getElem (by omega)) (hall e he' h1.2))
        have next : ∀ v w'', Below w'.heap.size w' w'' → S i w'' v → wpAny P .any l.toArray Q fuel (listed.setIfInBounds i true) ((upd a (dstsOf' l) σ).put o.dst v) w'' := by
          intro v w'' hb2 hSi
          rw [hd, upd_put _ _ _ _ _ hdm]
          refine ih _ _ w'' (by simpa using hsz) ?_ (bthen hb hb2 (Nat.le_refl _)) ?_
          · refine Nat.lt_succ_iff.1 (Nat.lt_of_lt_of_le (filt_lt (i := i) (fun x hx => ?_) _ (List.mem_range.2 hil) (by rw [hun]; rfl) ?_) hcnt)
            · simp only [Array.getD_eq_getD_getElem?, Array.getElem?_setIfInBounds] at hx ⊢
              by_cases hxi : i = x
              · subst hxi; simp [hsz, hil] at hx
              · simpa [hxi] using hx
            · simp [hsz, hil]
          · intro j oj hj hlj
            obtain ⟨dj, hdj, hdjm, hdjn⟩ := hdst j oj hj
            by_cases hji : i = j
            · subst hji
              rw [hdn]
              simpa using hSi
            · have hne : dj ≠ d := fun h => hji (hinj i j o oj ho' hj (by rw [hd, hdj, h]))
              rw [hdjn]
              simp only [if_neg hne]
              rw [← hdjn]
              refine hstab j w' w'' _ hb (hS j oj hj ?_) hb2
              simpa [Array.getD_eq_getD_getElem?, Array.getElem?_setIfInBounds, hji] using hlj
        unfold wpOp
        simp only [ho]
        unfold StepOk at hst
        cases hg : o.guard with
        | none =>
          simp only [hg] at hst
          rw [if_pos (by simp [Region.wanted, hg])]
          exact .inl (opOk_wp hst fun v w'' ⟨h1, h2⟩ => next v w'' h1 h2)
        | some gw =>
          obtain ⟨g, want⟩ := gw
          simp only [hg] at hst
          obtain ⟨b, hev, hcase⟩ := hst
          have hgd : ((l.toArray[g]?).bind (·.dst)).isSome = true := by
            have hgi := hgrd (o, i) (by rw [List.mem_zipIdx_iff_getElem?]; simpa using ho')
            simp only [hg, decide_eq_true_eq] at hgi
            obtain ⟨dg, hdg, _⟩ := hdst g l[g] (List.getElem?_eq_getElem (by omega))
            simp [List.getElem?_eq_getElem (show g < l.length by omega), hdg]
          have hy := yielded_eval l.toArray _ g b hgd hev
          cases hbw : (b == want) with
          | true =>
            have : b = want := by simpa using hbw
            subst this
            rw [if_pos (by simp [Region.wanted, hg, hy])]
            simp only [hbw, cond_true] at hcase
            exact .inl (opOk_wp hcase fun v w'' ⟨h1, h2⟩ => next v w'' h1 h2)
          | false =>
            have : b ≠ want := by simpa using hbw
            rw [if_neg (by simp [Region.wanted, hg, hy, this])]
            simp only [hbw, cond_false] at hcase
            exact next undef w' hcase.1 hcase.2
  have h0 := key l.length (Array.replicate l.length false) (fun t => a.tmps.getD t undef) { w with drawn := w.drawn + 1 } (by simp) (by simpa using List.length_filter_le _ (List.range l.length))
    ⟨rfl, rfl, rfl, Nat.le_refl _, fun _ _ => rfl⟩ (fun j o hj hl => by
      simp only [Array.getD_eq_getD_getElem?, Array.getElem?_replicate] at hl
      split at hl <;> simp at hl)
  rw [upd_self] at h0
  simpa using h0

/-- What is said of one operation's value; it stays while memory only grows. -/
structure Sp where
  p : World → Value → Prop
  st : ∀ w1 w2 v, p w1 v → Below w1.heap.size w1 w2 → p w2 v
def Sp.eq (u : Value) : Sp := ⟨fun _ v => v = u, fun _ _ _ h _ => h⟩
def spAt (l : List Sp) (i : Nat) : World → Value → Prop :=
  match l[i]? with
  | some s => s.p
  | none => fun _ _ => True

/-- What a step may use: earlier operations' values by their index; slots from before the region; constants. -/
structure Env (ops : List Oper) (sl : List Sp) (a : Act) (w w' : World) (o : Oper) (ρ : Operand → Value) : Prop where
  below : Below w.heap.size w w'
  pre : ∀ j, o.after.toList.any (fun e => e.on == j) = true → spAt sl j w' (ρ (.tmp (dstN ops.toArray j)))
  out : ∀ t, elemB t (dstsOf' ops) = false → ρ (.tmp t) = a.tmps.getD t undef
  con : ∀ v, ρ (.const v) = v
  fn : ∀ f, ρ (.func f) = .func (.func f) #[] #[]

def StepsOk (P : Program) (ops : List Oper) (sl : List Sp) (a : Act) (w : World) : List Oper → Nat → Prop
  | [], _ => True
  | o :: os, i => (∀ ρ w', Env ops sl a w w' o ρ → StepOk P ops.toArray o ρ w' (fun v w'' => Below w'.heap.size w' w'' ∧ spAt sl i w'' v)) ∧ StepsOk P ops sl a w os (i + 1)
theorem stepsOk_nil {P : Program} {ops : List Oper} {sl : List Sp} {a : Act} {w : World} {i : Nat} : StepsOk P ops sl a w [] i := trivial
theorem stepsOk_cons {P : Program} {ops : List Oper} {sl : List Sp} {a : Act} {w : World} {i : Nat} {o : Oper} {os : List Oper}
    (h : ∀ ρ w', Env ops sl a w w' o ρ → StepOk P ops.toArray o ρ w' (fun v w'' => Below w'.heap.size w' w'' ∧ spAt sl i w'' v)) (hs : StepsOk P ops sl a w os (i + 1)) : StepsOk P ops sl a w (o :: os) i := ⟨h, hs⟩
theorem stepsOk_at {P : Program} {ops : List Oper} {sl : List Sp} {a : Act} {w : World} : ∀ (os : List Oper) (i : Nat), StepsOk P ops sl a w os i → ∀ (j : Nat) (o : Oper), os[j]? = some o →
    ∀ ρ w', Env ops sl a w w' o ρ → StepOk P ops.toArray o ρ w' (fun v w'' => Below w'.heap.size w' w'' ∧ spAt sl (i + j) w'' v)
  | [], _, _, j, o, hj => by simp at hj
  | o' :: os, i, h, j, o, hj => by
    cases j with
    | zero => simp at hj; subst hj; exact h.1
    | succ j =>
      have := stepsOk_at os (i + 1) h.2 j o (by simpa using hj)
      rwa [show i + 1 + j = i + (j + 1) by omega] at this

theorem preOk_mem {ops : Array Oper} {S : Nat → World → Value → Prop} {w : World} {σ : Nat → Value} : ∀ (l : List Edge), PreOk ops S w σ l → ∀ e ∈ l, S e.on w (σ (dstN ops e.on))
  | [], _, e, he => by cases he
  | e' :: es, h, e, he => by
    rcases List.mem_cons.1 he with rfl | he
    · exact h.1
    · exact preOk_mem es h.2 e he

theorem spAt_st (sl : List Sp) (i : Nat) (w1 w2 : World) (v : Value) (h : spAt sl i w1 v) (hb : Below w1.heap.size w1 w2) : spAt sl i w2 v := by
  unfold spAt at *
  cases hs : sl[i]? with
  | none => simp
  | some s => simp only [hs] at h ⊢; exact s.st _ _ _ h hb

theorem wp_region_sp {P : Program} {id : Nat} {l : List Oper} {Q : Exit → Act → World → Prop} {a : Act} {w : World} (hm : P.follows .mixedOrders = true) (sl : List Sp)
    (hok : regionOk l a.tmps.size = true) (hstep : StepsOk P l sl a w l 0)
    (hfin : ∀ σ w', Below w.heap.size w w' → AllOk l.toArray (spAt sl) w' σ l 0 → Q .normal (upd a (dstsOf' l) σ) w') : (Code.region id l.toArray true).wp P Q a w := by
  have hok' := hok
  simp only [regionOk, Bool.and_eq_true, List.all_eq_true, decide_eq_true_eq] at hok'
  obtain ⟨⟨⟨⟨hsome, hlt⟩, hnd⟩, hedge⟩, hgrd⟩ := hok'
  refine wp_region_ext hm (spAt sl) hok (fun i w1 w2 v _ h hb => spAt_st sl i w1 w2 v h hb) ?_ hfin
  intro i o hi σ w' hb hp
  have := stepsOk_at l 0 hstep i o hi (upd a (dstsOf' l) σ).eval w' ⟨hb, ?_, ?_, fun _ => rfl, fun _ => rfl⟩
  · rwa [Nat.zero_add] at this
  · intro j hj
    obtain ⟨e, he, hej⟩ := List.any_eq_true.1 hj
    have hej : e.on = j := by simpa using hej
    subst hej
    have h1 := preOk_mem _ hp e he
    have h2 := hedge (o, i) (by rw [List.mem_zipIdx_iff_getElem?]; simpa using hi) e he
    have h3 : i < l.length := (List.getElem?_eq_some_iff.1 hi).1
    have h4 : e.on < l.length := by have := h2.1; simp at this; omega
    obtain ⟨d, hd⟩ := Option.isSome_iff_exists.1 (hsome l[e.on] (List.getElem_mem h4))
    have h5 : dstN l.toArray e.on = d := by simp [dstN, List.getElem?_eq_getElem h4, hd]
    have h6 : d ∈ dstsOf' l := List.mem_filterMap.2 ⟨l[e.on], List.getElem_mem h4, hd⟩
    rw [h5] at h1 ⊢
    rw [upd_eval, if_pos (hlt d h6), if_pos ((elemB_iff _ _).2 h6)]
    exact h1
  · intro t ht
    rw [upd_eval]
    split
    · rw [if_neg (by rw [ht]; simp)]
    · rename_i h
      simp [Array.getD_eq_getD_getElem?, Array.getElem?_eq_none (Nat.not_lt.1 h)]

/- steps -/
section
variable {P : Program} {ops : Array Oper} {ρ : Operand → Value} {w : World} {R : Value → World → Prop}
theorem step_plain {o : Oper} (hg : o.guard = none) (h : OpOk P o ρ w R) : StepOk P ops o ρ w R := by
  unfold StepOk; rw [hg]; exact h
theorem step_yes {o : Oper} {g : Nat} {b : Bool} (hg : o.guard = some (g, b)) (hb : ρ (.tmp (dstN ops g)) = .bool b) (h : OpOk P o ρ w R) : StepOk P ops o ρ w R := by
  unfold StepOk; rw [hg]; exact ⟨b, hb, by simp [h]⟩
theorem step_no {o : Oper} {g : Nat} {b : Bool} (hg : o.guard = some (g, b)) (hb : ρ (.tmp (dstN ops g)) = .bool (!b)) (h : R undef w) : StepOk P ops o ρ w R := by
  unfold StepOk; rw [hg]; exact ⟨!b, hb, by cases b <;> simpa using h⟩
theorem op_move {o : Oper} {x : Operand} {v : Value} (ho : o.op = .move x ∨ o.op = .assign x) (hx : ρ x = v) (h : R v w) : OpOk P o ρ w R := by
  subst hx
  unfold OpOk execOp
  rcases ho with ho | ho <;> rw [ho] <;> exact h
theorem op_val {o : Oper} {v : Value} {w' : World} (hr : (execOp ρ o).run P w = .ok (.value v) w') (h : R v w') : OpOk P o ρ w R := by
  unfold OpOk; rw [hr]; exact h
theorem op_call {o : Oper} {f : FuncId} {args : Array Value} {w' : World} (hr : (execOp ρ o).run P w = .ok (.enter f args) w')
    (h : Calls P f args w' fun e w'' => ∃ v, e = .returned v ∧ R v w'') : OpOk P o ρ w R := by
  unfold OpOk; rw [hr]; exact h
theorem op_pick {o : Oper} {c x y : Operand} {b : Bool} {v : Value} (ho : o.op = .pick c x y) (hc : ρ c = .bool b) (hv : (if b then ρ x else ρ y) = v) (h : R v w) : OpOk P o ρ w R := by
  subst hv
  unfold OpOk execOp
  rw [ho]
  simp only [hc, asBool, Sem.run_bind, Sem.run_pure, Result.andThen_ok]
  cases b <;> exact h
end

end Go.Proofs.Ytmaagkdehdmhlaa
