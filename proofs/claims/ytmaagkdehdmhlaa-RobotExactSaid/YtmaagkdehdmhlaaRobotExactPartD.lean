/- Several texts of this claim, one behind the other: RegionInv, AppArg. -/
import Derived.Test.YtmaagkdehdmhlaaRegion
import Derived.Test.YtmaagkdehdmhlaaBase
/- A region that draws its order, whose operations may write: what is said of each operation's value stays under what all operations do (T); beside it an invariant of what was done (I). -/
namespace Go.Proofs.Ytmaagkdehdmhlaa
open Go.RowKit

def updL1 (L : Nat → Bool) (i : Nat) : Nat → Bool := fun j => L j || (j == i)
def putσ (σ : Nat → Value) (d : Option Nat) (v : Value) : Nat → Value := match d with
  | some d => fun t => if t = d then v else σ t
  | none => σ
def regionOk3 (ops : List Oper) (n : Nat) : Bool :=
  (dstsOf' ops).all (· < n) && nodupB (dstsOf' ops) && (ops.zipIdx.all fun (o, i) => o.after.toList.all fun e => !Region.binds .any e || decide (e.on < i)) && (ops.zipIdx.all fun (o, i) => match o.guard with | none => true | some (g, _) => g < i && (((ops[g]?).bind (·.dst)).isSome))

theorem upd_put' (a : Act) (ds : List Nat) (σ : Nat → Value) (d : Option Nat) (v : Value) (hd : ∀ x, d = some x → x ∈ ds) : (upd a ds σ).put d v = upd a ds (putσ σ d v) := by
  cases d with
  | none => rfl
  | some d => exact upd_put a ds σ d v (hd d rfl)

theorem wp_region_inv {P : Program} {id : Nat} {l : List Oper} {Q : Exit → Act → World → Prop} {a : Act} {w : World} (hm : P.follows .mixedOrders = true)
    (J : (Nat → Bool) → (Nat → Value) → World → Prop) (hok : regionOk3 l a.tmps.size = true)
    (h0 : J (fun _ => false) (fun t => a.tmps.getD t undef) { w with drawn := w.drawn + 1 })
    (hstep : ∀ (i : Nat) (o : Oper), l[i]? = some o → ∀ L σ w', L i = false → (∀ e ∈ o.after, Region.binds .any e = true → L e.on = true) → J L σ w' → StepOk P l.toArray o (upd a (dstsOf' l) σ).eval w' (fun v w'' => J (updL1 L i) (putσ σ o.dst v) w''))
    (hfin : ∀ L σ w', (∀ i, i < l.length → L i = true) → J L σ w' → Q .normal (upd a (dstsOf' l) σ) w') : (Code.region id l.toArray true).wp P Q a w := by
  simp only [regionOk3, Bool.and_eq_true, List.all_eq_true, decide_eq_true_eq] at hok
  obtain ⟨⟨⟨hlt, hnd⟩, hedge⟩, hgrd⟩ := hok
  have hed : ∀ (i : Nat) (o : Oper), l[i]? = some o → ∀ e ∈ o.after, Region.binds .any e = true → e.on < i := by
    intro i o hi e he hb
    have := hedge (o, i) (by rw [List.mem_zipIdx_iff_getElem?]; simpa using hi) e (by simpa using he)
    simpa [hb] using this
  refine wp_region_any hm ?_
  have key : ∀ (fuel : Nat) (listed : Array Bool) (L : Nat → Bool) (σ : Nat → Value) (w' : World), listed.size = l.length → (∀ j, L j = listed.getD j false) → ((List.range l.length).filter fun j => !listed.getD j true).length ≤ fuel →
      J L σ w' → wpAny P .any l.toArray Q fuel listed (upd a (dstsOf' l) σ) w' := by
    intro fuel
    induction fuel with
    | zero =>
      intro listed L σ w' hsz hL hcnt hJ
      have hall : ∀ j, j < l.length → listed.getD j true = true := by
        intro j hj
        cases hl : listed.getD j true with
        | true => rfl
        | false =>
          have : j ∈ (List.range l.length).filter fun j => !listed.getD j true := List.mem_filter.2 ⟨List.mem_range.2 hj, by rw [hl]; rfl⟩
          rw [List.eq_nil_of_length_eq_zero (Nat.le_zero.1 hcnt)] at this
          cases this
      refine ⟨?_, ?_⟩
      · apply List.eq_nil_iff_forall_not_mem.2
        intro j hj
        obtain ⟨h1, o, ho, _⟩ := mem_ready.1 hj
        have hjl : j < l.length := by have := (Array.getElem?_eq_some_iff.1 ho).1; simpa using this
        rw [hall j hjl] at h1
        cases h1
      · refine hfin L σ w' (fun j hj => ?_) hJ
        have := hall j hj
        rw [hL]
        simp only [Array.getD_eq_getD_getElem?, Array.getElem?_eq_getElem (by omega : j < listed.size), Option.getD_some] at this ⊢
        exact this
    | succ fuel ih =>
      intro listed L σ w' hsz hL hcnt hJ
      refine ⟨fun hr => ?_, fun i hi => ?_⟩
      · have hall : ∀ n j, j ≤ n → j < l.length → listed.getD j true = true := by
          intro n
          induction n using Nat.strongRecOn with
          | _ n ihn =>
            intro j hjn hj
            cases hl : listed.getD j true with
            | true => rfl
            | false =>
              have : j ∈ Region.ready .any l.toArray listed := by
                refine mem_ready.2 ⟨hl, l[j], by simp [hj], fun e he hbd => ?_⟩
                have h1 := hed j l[j] (List.getElem?_eq_getElem hj) e he hbd
                have h2 := ihn e.on (by omega) e.on (Nat.le_refl _) (by omega)
                simp only [Array.getD_eq_getD_getElem?, Array.getElem?_eq_getElem (by omega : e.on < listed.size), Option.getD_some] at h2 ⊢
                exact h2
              rw [hr] at this
              cases this
        refine hfin L σ w' (fun j hj => ?_) hJ
        have := hall j j (Nat.le_refl _) hj
        rw [hL]
        simp only [Array.getD_eq_getD_getElem?, Array.getElem?_eq_getElem (by omega : j < listed.size), Option.getD_some] at this ⊢
        exact this
      · obtain ⟨hun, o, ho, hall⟩ := mem_ready.1 hi
        have ho' : l[i]? = some o := by simpa using ho
        have hil : i < l.length := (List.getElem?_eq_some_iff.1 ho').1
        have hLi : L i = false := by
          rw [hL]
          simp only [Array.getD_eq_getD_getElem?, Array.getElem?_eq_getElem (by omega : i < listed.size), Option.getD_some] at hun ⊢
          exact hun
        have hst := hstep i o ho' L σ w' hLi (fun e he hbd => by rw [hL]; exact hall e he hbd) hJ
        have next : ∀ v w'', J (updL1 L i) (putσ σ o.dst v) w'' → wpAny P .any l.toArray Q fuel (listed.setIfInBounds i true) ((upd a (dstsOf' l) σ).put o.dst v) w'' := by
          intro v w'' hJ'
          rw [upd_put' a (dstsOf' l) σ o.dst v (fun d hd => List.mem_filterMap.2 ⟨o, List.mem_of_getElem? ho', hd⟩)]
          refine ih _ (updL1 L i) _ w'' (by simpa using hsz) (fun j => ?_) ?_ hJ'
          · simp only [updL1, hL, Array.getD_eq_getD_getElem?, Array.getElem?_setIfInBounds]
            by_cases hji : i = j
            · subst hji; simp [hsz, hil]
            · simp [hji, show ¬ j = i from fun h => hji h.symm]
          · refine Nat.lt_succ_iff.1 (Nat.lt_of_lt_of_le (filt_lt (i := i) (fun x hx => ?_) _ (List.mem_range.2 hil) (by rw [hun]; rfl) ?_) hcnt)
            · simp only [Array.getD_eq_getD_getElem?, Array.getElem?_setIfInBounds] at hx ⊢
              by_cases hxi : i = x
              · subst hxi; simp [hsz, hil] at hx
              · simpa [hxi] using hx
            · simp [hsz, hil]
        unfold wpOp
        simp only [ho]
        unfold StepOk at hst
        cases hg : o.guard with
        | none =>
          simp only [hg] at hst
          rw [if_pos (by simp [Region.wanted, hg])]
          exact .inl (opOk_wp hst fun v w'' h1 => next v w'' h1)
        | some gw =>
          obtain ⟨g, want⟩ := gw
          simp only [hg] at hst
          obtain ⟨b, hev, hcase⟩ := hst
          have hgd : ((l.toArray[g]?).bind (·.dst)).isSome = true := by
            have hgi := hgrd (o, i) (by rw [List.mem_zipIdx_iff_getElem?]; simpa using ho')
            simp only [hg, Bool.and_eq_true] at hgi
            simpa using hgi.2
          have hy := yielded_eval l.toArray _ g b hgd hev
          cases hbw : (b == want) with
          | true =>
            have : b = want := by simpa using hbw
            subst this
            rw [if_pos (by simp [Region.wanted, hg, hy])]
            simp only [hbw, cond_true] at hcase
            exact .inl (opOk_wp hcase fun v w'' h1 => next v w'' h1)
          | false =>
            have : b ≠ want := by simpa using hbw
            rw [if_neg (by simp [Region.wanted, hg, hy, this])]
            simp only [hbw, cond_false] at hcase
            exact next undef w' hcase
  have h1 := key l.length (Array.replicate l.length false) (fun _ => false) (fun t => a.tmps.getD t undef) { w with drawn := w.drawn + 1 } (by simp) (fun j => by
    simp only [Array.getD_eq_getD_getElem?, Array.getElem?_replicate]; split <;> rfl) (by simpa using List.length_filter_le _ (List.range l.length)) h0
  rw [upd_self] at h1
  exact h1

/-- What is said of one operation's value. -/
structure SpT (T : World → World → Prop) where
  p : World → Value → Prop
  st : ∀ w1 w2 v, p w1 v → T w1 w2 → p w2 v
def SpT.eq {T : World → World → Prop} (u : Value) : SpT T := ⟨fun _ v => v = u, fun _ _ _ h _ => h⟩
def SpT.top {T : World → World → Prop} : SpT T := ⟨fun _ _ => True, fun _ _ _ h _ => h⟩
def stAt {T : World → World → Prop} (l : List (SpT T)) (i : Nat) : World → Value → Prop :=
  match l[i]? with
  | some s => s.p
  | none => fun _ _ => True
theorem stAt_st {T : World → World → Prop} (sl : List (SpT T)) (i : Nat) (w1 w2 : World) (v : Value) (h : stAt sl i w1 v) (hb : T w1 w2) : stAt sl i w2 v := by
  unfold stAt at *
  cases hs : sl[i]? with
  | none => simp
  | some s => simp only [hs] at h ⊢; exact s.st _ _ _ h hb

/-- What a step may use. -/
structure EnvI (ops : List Oper) (S : Nat → World → Value → Prop) (I : (Nat → Bool) → (Nat → Value) → World → Prop) (a : Act) (L : Nat → Bool) (σ : Nat → Value) (w' : World) (i : Nat) (o : Oper) (ρ : Operand → Value) : Prop where
  inv : I L σ w'
  undone : L i = false
  done : ∀ j, o.after.toList.any (fun e => e.on == j && Region.binds .any e) = true → L j = true
  pre : ∀ j, o.after.toList.any (fun e => e.on == j && Region.binds .any e) = true → S j w' (ρ (.tmp (dstN ops.toArray j)))
  out : ∀ t, elemB t (dstsOf' ops) = false → ρ (.tmp t) = a.tmps.getD t undef
  slot : ∀ t, elemB t (dstsOf' ops) = true → ρ (.tmp t) = σ t
  con : ∀ v, ρ (.const v) = v
  fn : ∀ f, ρ (.func f) = .func (.func f) #[] #[]

def StepsI (P : Program) (ops : List Oper) (T : World → World → Prop) (S : Nat → World → Value → Prop) (I : (Nat → Bool) → (Nat → Value) → World → Prop) (a : Act) : List Oper → Nat → Prop
  | [], _ => True
  | o :: os, i => (∀ L σ ρ w', EnvI ops S I a L σ w' i o ρ → StepOk P ops.toArray o ρ w' (fun v w'' => T w' w'' ∧ S i w'' v ∧ I (updL1 L i) (putσ σ o.dst v) w'')) ∧ StepsI P ops T S I a os (i + 1)
theorem stepsI_nil {P : Program} {ops : List Oper} {T : World → World → Prop} {S : Nat → World → Value → Prop} {I : (Nat → Bool) → (Nat → Value) → World → Prop} {a : Act} {i : Nat} : StepsI P ops T S I a [] i := trivial
theorem stepsI_cons {P : Program} {ops : List Oper} {T : World → World → Prop} {S : Nat → World → Value → Prop} {I : (Nat → Bool) → (Nat → Value) → World → Prop} {a : Act} {i : Nat} {o : Oper} {os : List Oper}
    (h : ∀ L σ ρ w', EnvI ops S I a L σ w' i o ρ → StepOk P ops.toArray o ρ w' (fun v w'' => T w' w'' ∧ S i w'' v ∧ I (updL1 L i) (putσ σ o.dst v) w'')) (hs : StepsI P ops T S I a os (i + 1)) : StepsI P ops T S I a (o :: os) i := ⟨h, hs⟩
theorem stepsI_at {P : Program} {ops : List Oper} {T : World → World → Prop} {S : Nat → World → Value → Prop} {I : (Nat → Bool) → (Nat → Value) → World → Prop} {a : Act} : ∀ (os : List Oper) (i : Nat), StepsI P ops T S I a os i → ∀ (j : Nat) (o : Oper), os[j]? = some o →
    ∀ L σ ρ w', EnvI ops S I a L σ w' (i + j) o ρ → StepOk P ops.toArray o ρ w' (fun v w'' => T w' w'' ∧ S (i + j) w'' v ∧ I (updL1 L (i + j)) (putσ σ o.dst v) w'')
  | [], _, _, j, o, hj => by simp at hj
  | o' :: os, i, h, j, o, hj => by
    cases j with
    | zero => simp at hj; subst hj; exact h.1
    | succ j =>
      have := stepsI_at os (i + 1) h.2 j o (by simpa using hj)
      rwa [show i + 1 + j = i + (j + 1) by omega] at this

def topB (ops : List Oper) (n : Nat) : Bool := ops.zipIdx.all fun (o, i) => o.dst.isSome || decide (n ≤ i)

theorem stepOk_mono {P : Program} {ops : Array Oper} {o : Oper} {ρ : Operand → Value} {w : World} {R R' : Value → World → Prop} (h : StepOk P ops o ρ w R) (hR : ∀ v w', R v w' → R' v w') : StepOk P ops o ρ w R' := by
  have key : ∀ {R R' : Value → World → Prop}, (∀ v w', R v w' → R' v w') → OpOk P o ρ w R → OpOk P o ρ w R' := by
    intro R R' hR h
    unfold OpOk at *
    generalize (execOp ρ o).run P w = r at *
    cases r with
    | ok n w' =>
      cases n <;> simp only at h ⊢
      case value v => exact hR _ _ h
      case skip => exact hR _ _ h
      case enter f args => exact Calls.mono h fun e w'' ⟨v, he, hr⟩ => ⟨v, he, hR _ _ hr⟩
    | halt x w' => exact h.elim
  unfold StepOk at *
  cases hg : o.guard with
  | none =>
    simp only [hg] at h ⊢
    exact key hR h
  | some gw =>
    obtain ⟨g, want⟩ := gw
    simp only [hg] at h ⊢
    obtain ⟨b, hb, hc⟩ := h
    refine ⟨b, hb, ?_⟩
    cases hbw : (b == want) <;> simp only [hbw, cond_true, cond_false] at hc ⊢
    · exact hR _ _ hc
    · exact key hR hc

theorem wp_region_st {P : Program} {id : Nat} {l : List Oper} {Q : Exit → Act → World → Prop} {a : Act} {w : World} (hm : P.follows .mixedOrders = true) {T : World → World → Prop} (sl : List (SpT T))
    (I : (Nat → Bool) → (Nat → Value) → World → Prop) (hok : regionOk3 l a.tmps.size = true) (htop : ∀ i o, l[i]? = some o → o.dst = none → ∀ w v, stAt sl i w v)
    (h0 : I (fun _ => false) (fun t => a.tmps.getD t undef) { w with drawn := w.drawn + 1 })
    (hstep : StepsI P l T (stAt sl) I a l 0)
    (hfin : ∀ L σ w', (∀ i, i < l.length → L i = true) → AllOk l.toArray (stAt sl) w' σ l 0 → I L σ w' → Q .normal (upd a (dstsOf' l) σ) w') : (Code.region id l.toArray true).wp P Q a w := by
  have hok' := hok
  simp only [regionOk3, Bool.and_eq_true, List.all_eq_true, decide_eq_true_eq] at hok'
  obtain ⟨⟨⟨hlt, hnd⟩, hedge⟩, hgrd⟩ := hok'
  have hinj : ∀ (i j : Nat) (oi oj : Oper) (d : Nat), l[i]? = some oi → l[j]? = some oj → oi.dst = some d → oj.dst = some d → i = j := by
    have hnd' := nodupB_spec hnd
    clear hok hnd hedge hgrd hlt htop h0 hstep hfin
    induction l with
    | nil => intro i j oi oj d hi; simp at hi
    | cons o l ih =>
      intro i j oi oj d hi hj hdi hdj
      have hmem : ∀ (k : Nat) (ok : Oper), l[k]? = some ok → ok.dst = some d → d ∈ dstsOf' l := fun k ok hk he => List.mem_filterMap.2 ⟨ok, List.mem_of_getElem? hk, he⟩
      have hcons : o.dst = some d → d ∉ dstsOf' l := by
        intro ho
        have : dstsOf' (o :: l) = d :: dstsOf' l := by simp [dstsOf', ho]
        rw [this, List.nodup_cons] at hnd'
        exact hnd'.1
      have htail : (dstsOf' l).Nodup := by
        have h2 : dstsOf' (o :: l) = (match o.dst with | some x => [x] | none => []) ++ dstsOf' l := by
          cases ho : o.dst <;> simp [dstsOf', ho]
        rw [h2] at hnd'
        exact (List.nodup_append.1 hnd').2.1
      cases i with
      | zero =>
        cases j with
        | zero => rfl
        | succ j =>
          simp at hi hj; subst hi
          exact absurd (hmem j oj hj hdj) (hcons hdi)
      | succ i =>
        cases j with
        | zero =>
          simp at hi hj; subst hj
          exact absurd (hmem i oi hi hdi) (hcons hdj)
        | succ j =>
          simp at hi hj
          rw [ih htail i j oi oj d hi hj hdi hdj]
  refine wp_region_inv hm (fun L σ w' => (∀ j o, l[j]? = some o → L j = true → stAt sl j w' (σ (dstN l.toArray j))) ∧ I L σ w') hok ⟨fun j o _ h => (by cases h), h0⟩ ?_ ?_
  · intro i o hi L σ w' hLi hdone hJ
    obtain ⟨hS, hI⟩ := hJ
    have hst := stepsI_at l 0 hstep i o hi L σ (upd a (dstsOf' l) σ).eval w' ⟨hI, by rw [Nat.zero_add]; exact hLi, ?_, ?_, ?_, ?_, fun _ => rfl, fun _ => rfl⟩
    · rw [Nat.zero_add] at hst
      refine stepOk_mono hst fun v w'' ⟨hT, hSi, hI'⟩ => ⟨fun j oj hj hLj => ?_, hI'⟩
      by_cases hji : i = j
      · subst hji
        rw [hi] at hj; cases hj
        cases hd : o.dst with
        | none => exact htop i o hi hd _ _
        | some d =>
          have : dstN l.toArray i = d := by simp [dstN, hi, hd]
          rw [this]
          simpa [putσ] using hSi
      · have hLj' : L j = true := by
          simp only [updL1, Bool.or_eq_true, beq_iff_eq] at hLj
          rcases hLj with h | h
          · exact h
          · exact absurd h.symm hji
        have hSj := stAt_st sl j w' w'' _ (hS j oj hj hLj') hT
        cases hdj : oj.dst with
        | none => exact htop j oj hj hdj _ _
        | some dj =>
          have hnj : dstN l.toArray j = dj := by simp [dstN, hj, hdj]
          cases hd : o.dst with
          | none => simpa [putσ] using hSj
          | some d =>
            have hne : dj ≠ d := fun h => hji (hinj i j o oj d hi hj hd (by rw [hdj, h]))
            rw [hnj] at hSj ⊢
            simpa [putσ, hne] using hSj
    · intro j hj
      obtain ⟨e, he, hej⟩ := List.any_eq_true.1 hj
      simp only [Bool.and_eq_true, beq_iff_eq] at hej
      obtain ⟨rfl, hbd⟩ := hej
      exact hdone e (by simpa using he) hbd
    · intro j hj
      obtain ⟨e, he, hej⟩ := List.any_eq_true.1 hj
      simp only [Bool.and_eq_true, beq_iff_eq] at hej
      obtain ⟨rfl, hbd⟩ := hej
      have h2 := hedge (o, i) (by rw [List.mem_zipIdx_iff_getElem?]; simpa using hi) e he
      have h3 : i < l.length := (List.getElem?_eq_some_iff.1 hi).1
      have h4 : e.on < l.length := by simp [hbd] at h2; omega
      have h1 := hS e.on l[e.on] (List.getElem?_eq_getElem h4) (hdone e (by simpa using he) hbd)
      cases hd : l[e.on].dst with
      | none => exact htop e.on l[e.on] (List.getElem?_eq_getElem h4) hd _ _
      | some d =>
        have h5 : dstN l.toArray e.on = d := by simp [dstN, List.getElem?_eq_getElem h4, hd]
        have h6 : d ∈ dstsOf' l := List.mem_filterMap.2 ⟨l[e.on], List.getElem_mem h4, hd⟩
        rw [h5] at h1 ⊢
        rw [upd_eval, if_pos (hlt d h6), if_pos ((elemB_iff _ _).2 h6)]
        exact h1
    · intro t ht
      rw [upd_eval]
      split
      · rw [if_neg (by rw [ht]; simp)]
      · rename_i h
        simp [Array.getD_eq_getD_getElem?, Array.getElem?_eq_none (Nat.not_lt.1 h)]
    · intro t ht
      rw [upd_eval, if_pos (hlt t ((elemB_iff _ _).1 ht)), if_pos ht]
  · intro L σ w' hall hJ
    obtain ⟨hS, hI⟩ := hJ
    exact hfin L σ w' hall (allOk_of l 0 fun j hj => by
      rw [Nat.zero_add]
      exact hS j _ (List.getElem?_eq_getElem hj) (hall j hj)) hI
end Go.Proofs.Ytmaagkdehdmhlaa

/- 'append' to a slice that the call does not own, where it must grow. -/
namespace Go.Proofs.Ytmaagkdehdmhlaa
open Go.RowKit

theorem Src.add {w : World} {b o : Nat} {xs : List Value} (h : Src w (some ⟨b, o, none⟩) xs) : ∀ j u, xs[j]? = some u → w.cell? ((⟨b, o, none⟩ : Addr).add j) = some u := by
  intro j u hu
  have hj : j < xs.length := (List.getElem?_eq_some_iff.1 hu).1
  obtain ⟨b', o', ha, _, hat⟩ := h.at hj
  simp only [Option.some.injEq, Addr.mk.injEq] at ha
  obtain ⟨rfl, rfl, _⟩ := ha
  have := hat j hj
  rw [List.getElem?_eq_getElem hj] at hu
  rw [← Option.some.inj hu, ← this]
  congr 1
  unfold Addr.add; split <;> simp_all

theorem wpList_app_arg {P : Program} {w : World} {ops : Array Oper} {rest : List Oper} {o : Oper} {ac : Act} {Q : Exit → Act → World → Prop} (hgd : o.guard = none) (s x : Operand) (t : TypeId)
    (ho : o.op = .call { callee := .builtin .append, args := #[s, x], argTypes := #[t, t] })
    (e : TypeId) (i : TypeInfo) (z : Value) (k bytes : Nat) (ht : P.underlying t = some (.slice e)) (hi : P.info? e = some i) (hz : i.zero = some z)
    (hsize : i.size = k) (hby : i.bytes = bytes) (hzs : z.cells.size = k) (hsz : 0 < k)
    (b1 o1 : Nat) (n c : Nat) (xs : List Value) (hs : ac.eval s = .slice (some ⟨b1, o1, none⟩) n c) (hlo : xs.length = n * k) (hown : Src w (some ⟨b1, o1, none⟩) xs)
    (b2 o2 : Nat) (m c2 : Nat) (news : List Value) (hx : ac.eval x = .slice (some ⟨b2, o2, none⟩) m c2) (hl : news.length = m * k) (hsrc : Src w (some ⟨b2, o2, none⟩) news)
    (hg : c < n + m) (h63 : n + m ≤ maxLen) (hbytes : (n + m) * bytes ≤ 140737488355328)
    (h : ∀ a' c' w', Own w' w.heap.size e k a' (n + m) c' (xs ++ news) → Below w.heap.size w w' → wpList P ops Q rest (ac.put o.dst (.slice a' (n + m) c')) w') : wpList P ops Q (o :: rest) ac w := by
  obtain ⟨v', w', hr, h2, h3⟩ := run_append_arg_grows (P := P) w t o.type e i z k bytes ht hi hz hsize hby hzs hsz ⟨b1, o1, none⟩ n c xs hlo hown.add ⟨b2, o2, none⟩ m c2 news hl hsrc.add hg h63 hbytes
  have h3' : Below w.heap.size w w' := (Below.refl _ _).grown h3 (Nat.le_refl _) (fun k hk => by cases hk)
  have hv : ∃ a' c', v' = .slice a' (n + m) c' := by
    rcases h2.2 with ⟨hv, h0⟩ | ⟨g, cap, cur, hv, _⟩
    · omega
    · exact ⟨_, _, hv⟩
  obtain ⟨a', c', rfl⟩ := hv
  refine wpList_plain hgd fun K hK => ?_
  unfold Oper.wp execOp
  simp only [ho, resolve, invoke, builtin, Sem.run_bind, Sem.run_pure, Result.andThen_ok, List.map_toArray, List.map_cons, List.map_nil, hs, hx, hr]
  exact hK _ _ (h a' c' w' (own_of_row h2) h3')
end Go.Proofs.Ytmaagkdehdmhlaa
