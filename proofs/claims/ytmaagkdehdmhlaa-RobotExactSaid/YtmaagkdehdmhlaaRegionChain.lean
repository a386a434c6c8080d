/- A region that draws its order: some operations (the chain) come one behind the other; the others are free: they add to memory, or read. The chain is told step by step, what the free ones yield by what stays. -/
import Derived.Test.YtmaagkdehdmhlaaRobotExactPartD
namespace Go.Proofs.Ytmaagkdehdmhlaa
open Go.RowKit

/-- What stays: memory grows, the blocks of K are as they were. -/
structure Keeps (K : Nat → Prop) (w1 w2 : World) : Prop where
  size : w1.heap.size ≤ w2.heap.size
  block : ∀ b, K b → b < w1.heap.size → w2.heap[b]? = w1.heap[b]?
theorem Keeps.refl (K : Nat → Prop) (w : World) : Keeps K w w := ⟨Nat.le_refl _, fun _ _ _ => rfl⟩
theorem Keeps.trans {K : Nat → Prop} {a b c : World} (h : Keeps K a b) (k : Keeps K b c) : Keeps K a c :=
  ⟨Nat.le_trans h.size k.size, fun i hi hl => (k.block i hi (Nat.lt_of_lt_of_le hl h.size)).trans (h.block i hi hl)⟩
theorem Keeps.of {K : Nat → Prop} {a b : World} (h : Below a.heap.size a b) : Keeps K a b := ⟨h.size, fun i _ hl => h.block i hl⟩

/-- The same, of objects that K holds of. -/
structure KeepsO (K : Nat → Obj → Prop) (w1 w2 : World) : Prop where
  size : w1.heap.size ≤ w2.heap.size
  block : ∀ b o, w1.heap[b]? = some o → K b o → w2.heap[b]? = some o
theorem KeepsO.trans {K : Nat → Obj → Prop} {a b c : World} (h : KeepsO K a b) (k : KeepsO K b c) : KeepsO K a c :=
  ⟨Nat.le_trans h.size k.size, fun i o hi hK => k.block i o (h.block i o hi hK) hK⟩
theorem KeepsO.of {K : Nat → Obj → Prop} {a b : World} (h : Below a.heap.size a b) : KeepsO K a b := ⟨h.size, fun i o hi _ => by rw [h.block i (heap_lt hi)]; exact hi⟩

structure Trel (T : World → World → Prop) : Prop where
  trans : ∀ {a b c}, T a b → T b c → T a c
  of : ∀ {a b : World}, Below a.heap.size a b → T a b
theorem KeepsO.rel (K : Nat → Obj → Prop) : Trel (KeepsO K) := ⟨KeepsO.trans, KeepsO.of⟩
theorem Keeps.rel (K : Nat → Prop) : Trel (Keeps K) := ⟨Keeps.trans, Keeps.of⟩

def chainOf (l : List Oper) (ks : List Nat) : List (Nat × Oper) := (l.zipIdx.filter fun x => elemB x.2 ks).map fun x => (x.2, x.1)
/-- Each of the chain waits for the one ahead of it; free operations wait for free ones alone. -/
def chained : List (Nat × Oper) → Bool
  | [] => true
  | [_] => true
  | x :: y :: r => (y.2.after.toList.any fun e => e.on == x.1 && Region.binds .any e) && chained (y :: r)
def freeOk (l : List Oper) (ks : List Nat) : Bool := l.zipIdx.all fun x => elemB x.2 ks || (x.1.dst.isSome && x.1.after.toList.all fun e => !Region.binds .any e || !elemB e.on ks)

structure EnvF (ops : List Oper) (S : Nat → World → Value → Prop) (T : World → World → Prop) (a : Act) (w w' : World) (i : Nat) (o : Oper) (ρ : Operand → Value) : Prop where
  t : T w w'
  old : ∀ (j d : Nat), (ops[j]?).bind (·.dst) = some d → ((ops[j]?).map fun x => x.after.toList.any fun e => e.on == i && Region.binds .any e) = some true → ρ (.tmp d) = a.tmps.getD d undef
  pre : ∀ j, o.after.toList.any (fun e => e.on == j && Region.binds .any e) = true → S j w' (ρ (.tmp (dstN ops.toArray j)))
  out : ∀ t, elemB t (dstsOf' ops) = false → ρ (.tmp t) = a.tmps.getD t undef
  con : ∀ v, ρ (.const v) = v
  fn : ∀ f, ρ (.func f) = .func (.func f) #[] #[]
structure EnvC (ops : List Oper) (ks : List Nat) (S : Nat → World → Value → Prop) (T : World → World → Prop) (a : Act) (w : World) (κ : Nat → Value) (w' : World) (i : Nat) (o : Oper) (ρ : Operand → Value) : Prop where
  t : T w w'
  old : ∀ (j d : Nat), (ops[j]?).bind (·.dst) = some d → ((ops[j]?).map fun x => x.after.toList.any fun e => e.on == i && Region.binds .any e) = some true → ρ (.tmp d) = a.tmps.getD d undef
  pre : ∀ j, o.after.toList.any (fun e => e.on == j && Region.binds .any e) = true → elemB j ks = false → S j w' (ρ (.tmp (dstN ops.toArray j)))
  chn : ∀ j d, o.after.toList.any (fun e => e.on == j && Region.binds .any e) = true → elemB j ks = true → (ops[j]?).bind (·.dst) = some d → ρ (.tmp d) = κ d
  out : ∀ t, elemB t (dstsOf' ops) = false → ρ (.tmp t) = a.tmps.getD t undef
  con : ∀ v, ρ (.const v) = v
  fn : ∀ f, ρ (.func f) = .func (.func f) #[] #[]

def ChainOk (P : Program) (ops : List Oper) (ks : List Nat) (S : Nat → World → Value → Prop) (T : World → World → Prop) (Q : Exit → Act → World → Prop) (a : Act) (w : World) : List (Nat × Oper) → (Nat → Value) → World → Prop
  | [], κ, w1 => ∀ σ w', Below w1.heap.size w1 w' → T w w' → (∀ j d, elemB j ks = true → (ops[j]?).bind (·.dst) = some d → σ d = κ d) → Q .normal (upd a (dstsOf' ops) σ) w'
  | (i, o) :: r, κ, w1 => ∀ ρ w', Below w1.heap.size w1 w' → EnvC ops ks S T a w κ w' i o ρ → StepOk P ops.toArray o ρ w' (fun v w'' => T w' w'' ∧ ChainOk P ops ks S T Q a w r (putσ κ o.dst v) w'')

def StepsF (P : Program) (ops : List Oper) (ks : List Nat) (S : Nat → World → Value → Prop) (T : World → World → Prop) (a : Act) (w : World) : List Oper → Nat → Prop
  | [], _ => True
  | o :: os, i => (match elemB i ks with
      | true => True
      | false => ∀ ρ w', EnvF ops S T a w w' i o ρ → StepOk P ops.toArray o ρ w' (fun v w'' => Below w'.heap.size w' w'' ∧ S i w'' v)) ∧ StepsF P ops ks S T a w os (i + 1)
section
variable {P : Program} {ops : List Oper} {ks : List Nat} {S : Nat → World → Value → Prop} {T : World → World → Prop} {a : Act} {w : World}
theorem stepsF_nil {i : Nat} : StepsF P ops ks S T a w [] i := trivial
theorem stepsF_chain {i : Nat} {o : Oper} {os : List Oper} (h : elemB i ks = true) (hs : StepsF P ops ks S T a w os (i + 1)) : StepsF P ops ks S T a w (o :: os) i := ⟨by rw [h]; trivial, hs⟩
theorem stepsF_free {i : Nat} {o : Oper} {os : List Oper} (he : elemB i ks = false)
    (h : ∀ ρ w', EnvF ops S T a w w' i o ρ → StepOk P ops.toArray o ρ w' (fun v w'' => Below w'.heap.size w' w'' ∧ S i w'' v)) (hs : StepsF P ops ks S T a w os (i + 1)) : StepsF P ops ks S T a w (o :: os) i := ⟨by rw [he]; exact h, hs⟩
theorem stepsF_at : ∀ (os : List Oper) (i : Nat), StepsF P ops ks S T a w os i → ∀ (j : Nat) (o : Oper), os[j]? = some o → elemB (i + j) ks = false →
    ∀ ρ w', EnvF ops S T a w w' (i + j) o ρ → StepOk P ops.toArray o ρ w' (fun v w'' => Below w'.heap.size w' w'' ∧ S (i + j) w'' v)
  | [], _, _, j, o, hj => by simp at hj
  | o' :: os, i, h, j, o, hj => by
    cases j with
    | zero =>
      simp at hj; subst hj
      intro he
      have h1 := h.1
      rw [Nat.add_zero] at he ⊢
      rw [he] at h1
      exact h1
    | succ j =>
      intro he
      have := stepsF_at os (i + 1) h.2 j o (by simpa using hj) (by rwa [show i + 1 + j = i + (j + 1) by omega])
      rwa [show i + 1 + j = i + (j + 1) by omega] at this
end

theorem chained_head : ∀ (pre : List (Nat × Oper)) (x : Nat × Oper) (r : List (Nat × Oper)), chained (pre ++ x :: r) = true → ∀ y ∈ r, ∃ z ∈ x :: r, (y.2.after.toList.any fun e => e.on == z.1 && Region.binds .any e) = true
  | [], x, r, h, y, hy => by
    induction r generalizing x with
    | nil => cases hy
    | cons u r ih =>
      simp only [List.nil_append, chained, Bool.and_eq_true] at h
      rcases List.mem_cons.1 hy with rfl | hy
      · exact ⟨x, by simp, h.1⟩
      · obtain ⟨z, hz, h2⟩ := ih u h.2 hy
        exact ⟨z, List.mem_cons_of_mem _ hz, h2⟩
  | [p], x, r, h, y, hy => chained_head [] x r (by simp only [List.cons_append, List.nil_append, chained, Bool.and_eq_true] at h; exact h.2) y hy
  | p :: q :: pre, x, r, h, y, hy => chained_head (q :: pre) x r (by simp only [List.cons_append, chained, Bool.and_eq_true] at h ⊢; exact h.2) y hy

theorem chainOf_mem {l : List Oper} {ks : List Nat} {p : Nat × Oper} : p ∈ chainOf l ks ↔ l[p.1]? = some p.2 ∧ elemB p.1 ks = true := by
  unfold chainOf
  simp only [List.mem_map, List.mem_filter]
  constructor
  · rintro ⟨⟨o, i⟩, ⟨h1, h2⟩, rfl⟩
    exact ⟨by rw [List.mem_zipIdx_iff_getElem?] at h1; simpa using h1, h2⟩
  · rintro ⟨h1, h2⟩
    exact ⟨(p.2, p.1), ⟨by rw [List.mem_zipIdx_iff_getElem?]; simpa using h1, h2⟩, rfl⟩
theorem chainOf_nodup (l : List Oper) (ks : List Nat) : ((chainOf l ks).map (·.1)).Nodup := by
  unfold chainOf
  rw [List.map_map]
  have h : ((l.zipIdx).map (fun x : Oper × Nat => x.2)).Nodup := by
    have : (l.zipIdx).map (fun x : Oper × Nat => x.2) = List.range' 0 l.length := List.zipIdx_map_snd 0 l
    rw [this]; exact List.nodup_range'
  exact (List.filter_sublist.map _).nodup h

theorem wp_region_chain {P : Program} {id : Nat} {l : List Oper} {Q : Exit → Act → World → Prop} {a : Act} {w : World} (hm : P.follows .mixedOrders = true) (ks : List Nat) {T : World → World → Prop} (hT : Trel T) (sl : List (SpT T))
    (hok : regionOk3 l a.tmps.size = true) (hfree : freeOk l ks = true) (hchain : chained (chainOf l ks) = true) (hsteps : StepsF P l ks (stAt sl) T a w l 0)
    (hk : ChainOk P l ks (stAt sl) T Q a w (chainOf l ks) (fun _ => undef) w) : (Code.region id l.toArray true).wp P Q a w := by
  have hok' := hok
  simp only [regionOk3, Bool.and_eq_true, List.all_eq_true, decide_eq_true_eq] at hok'
  obtain ⟨⟨⟨hlt, hnd⟩, hedge⟩, hgrd⟩ := hok'
  simp only [freeOk, List.all_eq_true] at hfree
  have hinj : ∀ (i j : Nat) (oi oj : Oper) (d : Nat), l[i]? = some oi → l[j]? = some oj → oi.dst = some d → oj.dst = some d → i = j := by
    have hnd' := nodupB_spec hnd
    clear hok hnd hedge hgrd hlt hsteps hfree hchain hk
    induction l with
    | nil => intro i j oi oj d hi; simp at hi
    | cons o l ih =>
      intro i j oi oj d hi hj hdi hdj
      have hmem : ∀ (k : Nat) (ok : Oper), l[k]? = some ok → ok.dst = some d → d ∈ dstsOf' l := fun k ok hk he => List.mem_filterMap.2 ⟨ok, List.mem_of_getElem? hk, he⟩
      have hcons : o.dst = some d → d ∉ dstsOf' l := by
        intro ho
        have : dstsOf' (o :: l) = d :: dstsOf' l := by simp [dstsOf', ho]
        rw [this, List.nodup_cons] at hnd'
        exact hnd'.1
      have htail : (dstsOf' l).Nodup := by
        have h2 : dstsOf' (o :: l) = (match o.dst with | some x => [x] | none => []) ++ dstsOf' l := by
          cases ho : o.dst <;> simp [dstsOf', ho]
        rw [h2] at hnd'
        exact (List.nodup_append.1 hnd').2.1
      cases i with
      | zero =>
        cases j with
        | zero => rfl
        | succ j =>
          simp at hi hj; subst hi
          exact absurd (hmem j oj hj hdj) (hcons hdi)
      | succ i =>
        cases j with
        | zero =>
          simp at hi hj; subst hj
          exact absurd (hmem i oi hi hdi) (hcons hdj)
        | succ j =>
          simp at hi hj
          rw [ih htail i j oi oj d hi hj hdi hdj]
  have hev : ∀ (σ : Nat → Value) (e : Edge) (i : Nat) (o : Oper), l[i]? = some o → e ∈ o.after → ∀ o', l[e.on]? = some o' → o'.dst.isSome = true → (upd a (dstsOf' l) σ).eval (.tmp (dstN l.toArray e.on)) = σ (dstN l.toArray e.on) := by
    intro σ e i o hi he o' ho' hs
    obtain ⟨d, hd⟩ := Option.isSome_iff_exists.1 hs
    have h5 : dstN l.toArray e.on = d := by simp [dstN, ho', hd]
    have h6 : d ∈ dstsOf' l := List.mem_filterMap.2 ⟨o', List.mem_of_getElem? ho', hd⟩
    rw [h5, upd_eval, if_pos (hlt d h6), if_pos ((elemB_iff _ _).2 h6)]
  have hout : ∀ (σ : Nat → Value) t, elemB t (dstsOf' l) = false → (upd a (dstsOf' l) σ).eval (.tmp t) = a.tmps.getD t undef := by
    intro σ t ht
    rw [upd_eval]
    split
    · rw [if_neg (by rw [ht]; simp)]
    · rename_i h
      simp [Array.getD_eq_getD_getElem?, Array.getElem?_eq_none (Nat.not_lt.1 h)]
  have heon : ∀ (i : Nat) (o : Oper), l[i]? = some o → ∀ e ∈ o.after, Region.binds .any e = true → ∃ o', l[e.on]? = some o' := by
    intro i o hi e he hbd
    have h2 := hedge (o, i) (by rw [List.mem_zipIdx_iff_getElem?]; simpa using hi) e (by simpa using he)
    have h3 : i < l.length := (List.getElem?_eq_some_iff.1 hi).1
    have h4 : e.on < l.length := by simp [hbd] at h2; omega
    exact ⟨l[e.on], List.getElem?_eq_getElem h4⟩
  have hfr : ∀ (i : Nat) (o : Oper), l[i]? = some o → elemB i ks = false → o.dst.isSome = true ∧ ∀ e ∈ o.after, Region.binds .any e = true → elemB e.on ks = false := by
    intro i o hi hf
    have h2 := hfree (o, i) (by rw [List.mem_zipIdx_iff_getElem?]; simpa using hi)
    simp only [hf, Bool.false_or, Bool.and_eq_true, List.all_eq_true] at h2
    exact ⟨h2.1, fun e he hbd => by have := h2.2 e (by simpa using he); simpa [hbd] using this⟩
  refine wp_region_inv hm (fun L σ w' => T w w' ∧ (∀ j o, l[j]? = some o → L j = true → ∀ e ∈ o.after, Region.binds .any e = true → L e.on = true) ∧ (∀ j o d, l[j]? = some o → o.dst = some d → L j = false → σ d = a.tmps.getD d undef) ∧ (∀ j o, l[j]? = some o → elemB j ks = false → L j = true → stAt sl j w' (σ (dstN l.toArray j))) ∧
    ∃ pre post κ w1, chainOf l ks = pre ++ post ∧ (∀ p ∈ pre, L p.1 = true) ∧ (∀ p ∈ post, L p.1 = false) ∧ (∀ p ∈ pre, ∀ d, p.2.dst = some d → σ d = κ d) ∧ Below w1.heap.size w1 w' ∧
      ChainOk P l ks (stAt sl) T Q a w post κ w1) hok ?_ ?_ ?_
  · have hb : Below w.heap.size w { w with drawn := w.drawn + 1 } := ⟨rfl, rfl, rfl, Nat.le_refl _, fun _ _ => rfl⟩
    exact ⟨hT.of hb, fun j o _ h => (by cases h), fun _ _ _ _ _ _ => rfl, fun j o _ _ h => (by cases h), [], chainOf l ks, fun _ => undef, w, rfl, by simp, fun _ _ => rfl, by simp, hb, hk⟩
  · intro i o hi L σ w' hLi hdone hJ
    obtain ⟨hTw, hclo, hold, hS, pre, post, κ, w1, hch, hpre, hpost, hκ, hb1, hC⟩ := hJ
    have hclo' : ∀ j oj, l[j]? = some oj → updL1 L i j = true → ∀ e ∈ oj.after, Region.binds .any e = true → updL1 L i e.on = true := by
      intro j oj hj hLj e he hbd
      by_cases hji : i = j
      · subst hji
        rw [hi] at hj; cases hj
        simp [updL1, hdone e he hbd]
      · have hLj' : L j = true := by
          simp only [updL1, Bool.or_eq_true, beq_iff_eq] at hLj
          rcases hLj with h | h
          · exact h
          · exact absurd h.symm hji
        simp [updL1, hclo j oj hj hLj' e he hbd]
    have hold' : ∀ v j oj d, l[j]? = some oj → oj.dst = some d → updL1 L i j = false → putσ σ o.dst v d = a.tmps.getD d undef := by
      intro v j oj d hj hd hLj
      simp only [updL1, Bool.or_eq_false_iff, beq_eq_false_iff_ne] at hLj
      have h1 := hold j oj d hj hd hLj.1
      cases hdo : o.dst with
      | none => simpa [putσ] using h1
      | some d0 =>
        have hne : d ≠ d0 := fun h => hLj.2 (hinj i j o oj d0 hi hj hdo (by rw [hd, h])).symm
        simpa [putσ, hne] using h1
    have holdE : ∀ (j d : Nat), (l[j]?).bind (·.dst) = some d → ((l[j]?).map fun x => x.after.toList.any fun e => e.on == i && Region.binds .any e) = some true → (upd a (dstsOf' l) σ).eval (.tmp d) = a.tmps.getD d undef := by
      intro j d hd he
      cases hj : l[j]? with
      | none => rw [hj] at hd; cases hd
      | some oj =>
        rw [hj] at hd he
        have hd : oj.dst = some d := hd
        simp only [Option.map_some, Option.some.injEq] at he
        obtain ⟨e, he1, he2⟩ := List.any_eq_true.1 he
        simp only [Bool.and_eq_true, beq_iff_eq] at he2
        obtain ⟨he2, hbd⟩ := he2
        have hLj : L j = false := by
          cases hx : L j with
          | false => rfl
          | true =>
            have := hclo j oj hj hx e (by simpa using he1) hbd
            rw [he2, hLi] at this; cases this
        have h6 : d ∈ dstsOf' l := List.mem_filterMap.2 ⟨oj, List.mem_of_getElem? hj, hd⟩
        rw [upd_eval, if_pos (hlt d h6), if_pos ((elemB_iff _ _).2 h6)]
        exact hold j oj d hj hd hLj
    cases hik : elemB i ks with
    | false =>
      obtain ⟨hds, hfe⟩ := hfr i o hi hik
      obtain ⟨d, hd⟩ := Option.isSome_iff_exists.1 hds
      have hdn : dstN l.toArray i = d := by simp [dstN, hi, hd]
      have hst := stepsF_at l 0 hsteps i o hi (by rwa [Nat.zero_add]) (upd a (dstsOf' l) σ).eval w' ⟨hTw, by rw [Nat.zero_add]; exact holdE, ?_, hout σ, fun _ => rfl, fun _ => rfl⟩
      · rw [Nat.zero_add] at hst
        refine stepOk_mono hst fun v w'' ⟨hb2, hSi⟩ => ?_
        have hT2 := hT.of hb2
        refine ⟨hT.trans hTw hT2, hclo', hold' v, fun j oj hj hjf hLj => ?_, pre, post, κ, w1, hch, fun p hp => ?_, fun p hp => ?_, fun p hp dp hdp => ?_, bthen hb1 hb2 (Nat.le_refl _), hC⟩
        · by_cases hji : i = j
          · subst hji
            rw [hi] at hj; cases hj
            rw [hdn, hd]
            simpa [putσ] using hSi
          · have hLj' : L j = true := by
              simp only [updL1, Bool.or_eq_true, beq_iff_eq] at hLj
              rcases hLj with h | h
              · exact h
              · exact absurd h.symm hji
            have hSj := stAt_st sl j w' w'' _ (hS j oj hj hjf hLj') hT2
            obtain ⟨dj, hdj⟩ := Option.isSome_iff_exists.1 (hfr j oj hj hjf).1
            have hnj : dstN l.toArray j = dj := by simp [dstN, hj, hdj]
            have hne : dj ≠ d := fun h => hji (hinj i j o oj d hi hj hd (by rw [hdj, h]))
            rw [hnj] at hSj ⊢
            rw [hd]
            simpa [putσ, hne] using hSj
        · simp [updL1, hpre p hp]
        · have hpk := (chainOf_mem.1 (show p ∈ chainOf l ks by rw [hch]; simp [hp])).2
          have : p.1 ≠ i := fun h => by rw [h, hik] at hpk; cases hpk
          simp [updL1, hpost p hp, this]
        · have hpm := chainOf_mem.1 (show p ∈ chainOf l ks by rw [hch]; simp [hp])
          have hne : dp ≠ d := fun h => by
            have := hinj i p.1 o p.2 d hi hpm.1 hd (by rw [hdp, h])
            rw [← this, hik] at hpm; cases hpm.2
          rw [hd]
          simp only [putσ, if_neg hne]
          exact hκ p hp dp hdp
      · intro j hj
        obtain ⟨e, he, hej⟩ := List.any_eq_true.1 hj
        simp only [Bool.and_eq_true, beq_iff_eq] at hej
        obtain ⟨rfl, hbd⟩ := hej
        have he' : e ∈ o.after := by simpa using he
        obtain ⟨o', ho'⟩ := heon i o hi e he' hbd
        have hf := hfe e he' hbd
        rw [hev σ e i o hi he' o' ho' (hfr e.on o' ho' hf).1]
        exact hS e.on o' ho' hf (hdone e he' hbd)
    | true =>
      have hmem : (i, o) ∈ chainOf l ks := chainOf_mem.2 ⟨hi, hik⟩
      have hpm : (i, o) ∈ post := by
        rw [hch] at hmem
        rcases List.mem_append.1 hmem with h | h
        · have := hpre _ h; simp only at this; rw [hLi] at this; cases this
        · exact h
      cases post with
      | nil => cases hpm
      | cons x r =>
        have hx : x = (i, o) := by
          rcases List.mem_cons.1 hpm with h | h
          · exact h.symm
          · exfalso
            rw [hch] at hchain
            obtain ⟨z, hz, h2⟩ := chained_head pre x r hchain _ h
            obtain ⟨e, he, hez⟩ := List.any_eq_true.1 h2
            simp only [Bool.and_eq_true, beq_iff_eq] at hez
            obtain ⟨hez, hbd⟩ := hez
            have h3 := hdone e (by simpa using he) hbd
            rw [hez, hpost z hz] at h3
            cases h3
        subst hx
        have hst := hC (upd a (dstsOf' l) σ).eval w' hb1 ⟨hTw, holdE, ?_, ?_, hout σ, fun _ => rfl, fun _ => rfl⟩
        · refine stepOk_mono hst fun v w'' ⟨hT2, hC2⟩ => ?_
          have hndp := chainOf_nodup l ks
          rw [hch, List.map_append, List.map_cons, List.nodup_append] at hndp
          refine ⟨hT.trans hTw hT2, hclo', hold' v, fun j oj hj hjf hLj => ?_, pre ++ [(i, o)], r, putσ κ o.dst v, w'', by rw [hch]; simp, fun p hp => ?_, fun p hp => ?_, fun p hp dp hdp => ?_, Below.refl _ _, hC2⟩
          · have hji : i ≠ j := fun h => by rw [h, hjf] at hik; cases hik
            have hLj' : L j = true := by
              simp only [updL1, Bool.or_eq_true, beq_iff_eq] at hLj
              rcases hLj with h | h
              · exact h
              · exact absurd h.symm hji
            have hSj := stAt_st sl j w' w'' _ (hS j oj hj hjf hLj') hT2
            obtain ⟨dj, hdj⟩ := Option.isSome_iff_exists.1 (hfr j oj hj hjf).1
            have hnj : dstN l.toArray j = dj := by simp [dstN, hj, hdj]
            rw [hnj] at hSj ⊢
            cases hd : o.dst with
            | none => simpa [putσ] using hSj
            | some d =>
              have hne : dj ≠ d := fun h => hji (hinj i j o oj d hi hj hd (by rw [hdj, h]))
              simpa [putσ, hne] using hSj
          · rcases List.mem_append.1 hp with h | h
            · simp [updL1, hpre p h]
            · simp only [List.mem_singleton] at h; subst h; simp [updL1]
          · have h1 := hpost p (List.mem_cons_of_mem _ hp)
            have : p.1 ≠ i := fun h => by
              have h2 := (List.nodup_cons.1 hndp.2.1).1
              exact h2 (List.mem_map.2 ⟨p, hp, h⟩)
            simp [updL1, h1, this]
          · rcases List.mem_append.1 hp with h | h
            · have hpm := chainOf_mem.1 (show p ∈ chainOf l ks by rw [hch]; simp [h])
              have h4 := hκ p h dp hdp
              cases hd : o.dst with
              | none => simpa [putσ] using h4
              | some d =>
                have hne : dp ≠ d := fun h5 => by
                  have h6 := hinj i p.1 o p.2 d hi hpm.1 hd (by rw [hdp, h5])
                  have h7 := hpre p h
                  rw [← h6, hLi] at h7; cases h7
                simpa [putσ, hne] using h4
            · simp only [List.mem_singleton] at h; subst h
              simp only at hdp
              rw [hdp]; simp [putσ]
        · intro j hj hjf
          obtain ⟨e, he, hej⟩ := List.any_eq_true.1 hj
          simp only [Bool.and_eq_true, beq_iff_eq] at hej
          obtain ⟨rfl, hbd⟩ := hej
          have he' : e ∈ o.after := by simpa using he
          obtain ⟨o', ho'⟩ := heon i o hi e he' hbd
          rw [hev σ e i o hi he' o' ho' (hfr e.on o' ho' hjf).1]
          exact hS e.on o' ho' hjf (hdone e he' hbd)
        · intro j d' hj hjf hd'
          obtain ⟨e, he, hej⟩ := List.any_eq_true.1 hj
          simp only [Bool.and_eq_true, beq_iff_eq] at hej
          obtain ⟨rfl, hbd⟩ := hej
          have he' : e ∈ o.after := by simpa using he
          obtain ⟨o', ho'⟩ := heon i o hi e he' hbd
          rw [ho'] at hd'
          have hd' : o'.dst = some d' := hd'
          have hm2 : (e.on, o') ∈ chainOf l ks := chainOf_mem.2 ⟨ho', hjf⟩
          have hpr : (e.on, o') ∈ pre := by
            rw [hch] at hm2
            rcases List.mem_append.1 hm2 with h | h
            · exact h
            · have h1 := hpost _ h; simp only at h1; rw [hdone e he' hbd] at h1; cases h1
          have hdn' : dstN l.toArray e.on = d' := by simp [dstN, ho', hd']
          have h9 := hev σ e i o hi he' o' ho' (by rw [hd']; rfl)
          rw [hdn'] at h9
          rw [h9]
          exact hκ _ hpr d' hd'
  · intro L σ w' hall hJ
    obtain ⟨hTw, hclo, hold, hS, pre, post, κ, w1, hch, hpre, hpost, hκ, hb1, hC⟩ := hJ
    cases post with
    | nil =>
      rw [List.append_nil] at hch
      refine hC σ w' hb1 hTw fun j d hj hd => ?_
      cases ho : l[j]? with
      | none => rw [ho] at hd; cases hd
      | some o =>
        rw [ho] at hd
        exact hκ (j, o) (by rw [← hch]; exact chainOf_mem.2 ⟨ho, hj⟩) d hd
    | cons x r =>
      exfalso
      have hxm := chainOf_mem.1 (show x ∈ chainOf l ks by rw [hch]; simp)
      have h1 := hpost x (by simp)
      rw [hall x.1 (List.getElem?_eq_some_iff.1 hxm.1).1] at h1
      cases h1

/-- 'append' to a row of one's own, as one operation. -/
theorem op_app {P : Program} {w : World} {ρ : Operand → Value} {R : Value → World → Prop} {o : Oper} {s x : Operand} {t : TypeId}
    (ho : o.op = .call { callee := .builtin .append, args := #[s, x], argTypes := #[t, t] })
    (base : Nat) (e : TypeId) (i : TypeInfo) (z : Value) (k bytes : Nat) (ht : P.underlying t = some (.slice e)) (hi : P.info? e = some i) (hz : i.zero = some z)
    (hsize : i.size = k) (hby : i.bytes = bytes) (hzs : z.cells.size = k) (hsz : 0 < k)
    (a : Option Addr) (n c : Nat) (xs : List Value) (hs : ρ s = .slice a n c) (hown : Own w base e k a n c xs)
    (a2 : Option Addr) (m c2 : Nat) (news : List Value) (hx : ρ x = .slice a2 m c2) (hl : news.length = m * k) (hsrc : Src w a2 news) (h1 : ∀ u ∈ news, u.oneCell' = true)
    (h63 : n + m ≤ maxLen) (hbytes : (n + m) * bytes ≤ 140737488355328) (hbase : base ≤ w.heap.size)
    (h : ∀ a' c' w', Own w' base e k a' (n + m) c' (xs ++ news) → Below base w w' → (∀ b, b < w.heap.size → ((n = 0 ∧ c = 0) ∨ ∀ o, a ≠ some ⟨b, o, none⟩) → w'.heap[b]? = w.heap[b]?) → R (.slice a' (n + m) c') w') : OpOk P o ρ w R := by
  obtain ⟨a', c', w', hr, h2, h3, h4⟩ := run_app (P := P) w base t o.type e i z k bytes ht hi hz hsize hby hzs hsz a n c xs hown a2 m c2 news hl hsrc h1 h63 hbytes hbase
  have hrun : (execOp ρ o).run P w = .ok (.value (.slice a' (n + m) c')) w' := by
    unfold execOp
    simp only [ho, resolve, invoke, builtin, Sem.run_bind, Sem.run_pure, Result.andThen_ok, List.map_toArray, List.map_cons, List.map_nil, hs, hx, hr]
  exact op_val hrun (h a' c' w' h2 h3 h4)
theorem op_app_arg' {P : Program} {w : World} {ρ : Operand → Value} {R : Value → World → Prop} {o : Oper} {s x : Operand} {t : TypeId}
    (ho : o.op = .call { callee := .builtin .append, args := #[s, x], argTypes := #[t, t] })
    (e : TypeId) (i : TypeInfo) (z : Value) (k bytes : Nat) (ht : P.underlying t = some (.slice e)) (hi : P.info? e = some i) (hz : i.zero = some z)
    (hsize : i.size = k) (hby : i.bytes = bytes) (hzs : z.cells.size = k) (hsz : 0 < k)
    (b1 o1 : Nat) (n c : Nat) (xs : List Value) (hs : ρ s = .slice (some ⟨b1, o1, none⟩) n c) (hlo : xs.length = n * k) (hown : Src w (some ⟨b1, o1, none⟩) xs)
    (b2 o2 : Nat) (m c2 : Nat) (news : List Value) (hx : ρ x = .slice (some ⟨b2, o2, none⟩) m c2) (hl : news.length = m * k) (hsrc : Src w (some ⟨b2, o2, none⟩) news)
    (hg : c < n + m) (h63 : n + m ≤ maxLen) (hbytes : (n + m) * bytes ≤ 140737488355328)
    (h : ∀ a' c' w', Own w' w.heap.size e k a' (n + m) c' (xs ++ news) → Below w.heap.size w w' → R (.slice a' (n + m) c') w') : OpOk P o ρ w R := by
  obtain ⟨v', w', hr, h2, h3⟩ := run_append_arg_grows (P := P) w t o.type e i z k bytes ht hi hz hsize hby hzs hsz ⟨b1, o1, none⟩ n c xs hlo hown.add ⟨b2, o2, none⟩ m c2 news hl hsrc.add hg h63 hbytes
  have h3' : Below w.heap.size w w' := (Below.refl _ _).grown h3 (Nat.le_refl _) (fun k hk => by cases hk)
  have hv : ∃ a' c', v' = .slice a' (n + m) c' := by
    rcases h2.2 with ⟨hv, h0⟩ | ⟨g, cap, cur, hv, _⟩
    · omega
    · exact ⟨_, _, hv⟩
  obtain ⟨a', c', rfl⟩ := hv
  have hrun : (execOp ρ o).run P w = .ok (.value (.slice a' (n + m) c')) w' := by
    unfold execOp
    simp only [ho, resolve, invoke, builtin, Sem.run_bind, Sem.run_pure, Result.andThen_ok, List.map_toArray, List.map_cons, List.map_nil, hs, hx, hr]
  exact op_val hrun (h a' c' w' (own_of_row h2) h3')
end Go.Proofs.Ytmaagkdehdmhlaa
