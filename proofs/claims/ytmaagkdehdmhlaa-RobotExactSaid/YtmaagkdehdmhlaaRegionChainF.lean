/- As RegionChainL, with operations that make blocks (fs): the blocks are told apart. A region that draws its order: some operations (the chain) come one behind the other, the last of them behind all others; what stays (T) need not hold of the last one. Free operations may wait for the chain's. -/
import Derived.Test.YtmaagkdehdmhlaaRegionChainL
namespace Go.Proofs.Ytmaagkdehdmhlaa
open Go.RowKit

/-- The block that a value lies in. -/
def blkOf : Value → Nat
  | .slice (some a) _ _ => a.block
  | .pointer (some a) => a.block
  | _ => 0
/-- Two blocks that were made are two. -/
def ApartB (ops : List Oper) (fs : List Nat) (i : Nat) (o : Oper) (ρ : Operand → Value) : Prop := ∀ j1 j2 d1 d2, elemB j1 fs = true → elemB j2 fs = true → j1 ≠ j2 → o.after.toList.any (fun e => e.on == j1 && Region.binds .any e) = true → o.after.toList.any (fun e => e.on == j2 && Region.binds .any e) = true →
  (ops[j1]?).bind (·.dst) = some d1 → (ops[j2]?).bind (·.dst) = some d2 → blkOf (ρ (.tmp d1)) ≠ blkOf (ρ (.tmp d2))
def freshB (fs : List Nat) (i : Nat) (w w' : World) (v : Value) : Prop := match elemB i fs with
  | true => w.heap.size ≤ blkOf v ∧ blkOf v < w'.heap.size
  | false => True
/-- What an operation waits for. -/
def predsOf (o : Oper) : List Nat := (o.after.toList.filter fun e => Region.binds .any e).map (·.on)
theorem mem_preds {o : Oper} {j : Nat} (h : elemB j (predsOf o) = true) : ∃ e ∈ o.after, e.on = j ∧ Region.binds .any e = true := by
  rw [elemB_iff, predsOf, List.mem_map] at h
  obtain ⟨e, he, rfl⟩ := h
  rw [List.mem_filter] at he
  exact ⟨e, by simpa using he.1, rfl, he.2⟩
/-- Slots that were read stay as they are. -/
def KeptB (ops : List Oper) (rec : List Nat) (ρ0 : Nat → Value) (ρ : Operand → Value) : Prop := ∀ j d, elemB j rec = true → (ops[j]?).bind (·.dst) = some d → ρ (.tmp d) = ρ0 d
def ChainOkF (P : Program) (ops : List Oper) (ks fs : List Nat) (S : Nat → World → Value → Prop) (T : World → World → Prop) (Q : Exit → Act → World → Prop) (a : Act) (w : World) : List (Nat × Oper) → (Nat → Value) → World → List Nat → (Nat → Value) → Prop
  | [], κ, w1, rec, ρ0 => ∀ σ w', Below w1.heap.size w1 w' → (∀ j d, elemB j ks = true → (ops[j]?).bind (·.dst) = some d → σ d = κ d) → (∀ j d, elemB j rec = true → (ops[j]?).bind (·.dst) = some d → σ d = ρ0 d) → Q .normal (upd a (dstsOf' ops) σ) w'
  | (i, o) :: r, κ, w1, rec, ρ0 => ∀ ρ w', Below w1.heap.size w1 w' → EnvC ops ks S T a w κ w' i o ρ → ApartB ops fs i o ρ → KeptB ops rec ρ0 ρ → StepOk P ops.toArray o ρ w' (fun v w'' => (match r with | [] => True | _ :: _ => T w' w'') ∧ ChainOkF P ops ks fs S T Q a w r (putσ κ o.dst v) w'' (predsOf o ++ rec) (fun t => ρ (.tmp t)))
def StepsM (P : Program) (ops : List Oper) (ks fs : List Nat) (S : Nat → World → Value → Prop) (T : World → World → Prop) (a : Act) (w : World) : List Oper → Nat → Prop
  | [], _ => True
  | o :: os, i => (match elemB i ks with
      | true => True
      | false => ∀ ρ w', EnvL ops ks S T a w w' i o ρ → StepOk P ops.toArray o ρ w' (fun v w'' => Below w'.heap.size w' w'' ∧ freshB fs i w' w'' v ∧ S i w'' v)) ∧ StepsM P ops ks fs S T a w os (i + 1)
section
variable {P : Program} {ops : List Oper} {ks fs : List Nat} {S : Nat → World → Value → Prop} {T : World → World → Prop} {a : Act} {w : World}
theorem stepsM_nil {i : Nat} : StepsM P ops ks fs S T a w [] i := trivial
theorem stepsM_chain {i : Nat} {o : Oper} {os : List Oper} (h : elemB i ks = true) (hs : StepsM P ops ks fs S T a w os (i + 1)) : StepsM P ops ks fs S T a w (o :: os) i := ⟨by rw [h]; trivial, hs⟩
theorem stepsM_free {i : Nat} {o : Oper} {os : List Oper} (he : elemB i ks = false)
    (h : ∀ ρ w', EnvL ops ks S T a w w' i o ρ → StepOk P ops.toArray o ρ w' (fun v w'' => Below w'.heap.size w' w'' ∧ freshB fs i w' w'' v ∧ S i w'' v)) (hs : StepsM P ops ks fs S T a w os (i + 1)) : StepsM P ops ks fs S T a w (o :: os) i := ⟨by rw [he]; exact h, hs⟩
theorem stepsM_at : ∀ (os : List Oper) (i : Nat), StepsM P ops ks fs S T a w os i → ∀ (j : Nat) (o : Oper), os[j]? = some o → elemB (i + j) ks = false →
    ∀ ρ w', EnvL ops ks S T a w w' (i + j) o ρ → StepOk P ops.toArray o ρ w' (fun v w'' => Below w'.heap.size w' w'' ∧ freshB fs (i + j) w' w'' v ∧ S (i + j) w'' v)
  | [], _, _, j, o, hj => by simp at hj
  | o' :: os, i, h, j, o, hj => by
    cases j with
    | zero =>
      simp at hj; subst hj
      intro he
      have h1 := h.1
      rw [Nat.add_zero] at he ⊢
      rw [he] at h1
      exact h1
    | succ j =>
      intro he
      have := stepsM_at os (i + 1) h.2 j o (by simpa using hj) (by rwa [show i + 1 + j = i + (j + 1) by omega])
      rwa [show i + 1 + j = i + (j + 1) by omega] at this
end

theorem wp_region_chainF {P : Program} {id : Nat} {l : List Oper} {Q : Exit → Act → World → Prop} {a : Act} {w : World} (hm : P.follows .mixedOrders = true) (ks fs : List Nat) {T : World → World → Prop} (hT : Trel T) (hTs : ∀ {a b}, T a b → a.heap.size ≤ b.heap.size) (sl : List (SpT T))
    (hok : regionOk3 l a.tmps.size = true) (hfree : freeOkL l ks = true) (hchain : chained (chainOf l ks) = true) (hfinal : finalOk l ks = true) (hdis : (fs.all fun j => !elemB j ks) = true) (hsteps : StepsM P l ks fs (stAt sl) T a w l 0)
    (hk : ChainOkF P l ks fs (stAt sl) T Q a w (chainOf l ks) (fun _ => undef) w [] (fun _ => undef)) : (Code.region id l.toArray true).wp P Q a w := by
  have hok' := hok
  simp only [regionOk3, Bool.and_eq_true, List.all_eq_true, decide_eq_true_eq] at hok'
  obtain ⟨⟨⟨hlt, hnd⟩, hedge⟩, hgrd⟩ := hok'
  simp only [freeOkL, List.all_eq_true] at hfree
  simp only [List.all_eq_true, Bool.not_eq_true'] at hdis
  have hinj : ∀ (i j : Nat) (oi oj : Oper) (d : Nat), l[i]? = some oi → l[j]? = some oj → oi.dst = some d → oj.dst = some d → i = j := by
    have hnd' := nodupB_spec hnd
    clear hok hnd hedge hgrd hlt hsteps hfree hchain hfinal hk hdis
    induction l with
    | nil => intro i j oi oj d hi; simp at hi
    | cons o l ih =>
      intro i j oi oj d hi hj hdi hdj
      have hmem : ∀ (k : Nat) (ok : Oper), l[k]? = some ok → ok.dst = some d → d ∈ dstsOf' l := fun k ok hk he => List.mem_filterMap.2 ⟨ok, List.mem_of_getElem? hk, he⟩
      have hcons : o.dst = some d → d ∉ dstsOf' l := by
        intro ho
        have : dstsOf' (o :: l) = d :: dstsOf' l := by simp [dstsOf', ho]
        rw [this, List.nodup_cons] at hnd'
        exact hnd'.1
      have htail : (dstsOf' l).Nodup := by
        have h2 : dstsOf' (o :: l) = (match o.dst with | some x => [x] | none => []) ++ dstsOf' l := by
          cases ho : o.dst <;> simp [dstsOf', ho]
        rw [h2] at hnd'
        exact (List.nodup_append.1 hnd').2.1
      cases i with
      | zero =>
        cases j with
        | zero => rfl
        | succ j =>
          simp at hi hj; subst hi
          exact absurd (hmem j oj hj hdj) (hcons hdi)
      | succ i =>
        cases j with
        | zero =>
          simp at hi hj; subst hj
          exact absurd (hmem i oi hi hdi) (hcons hdj)
        | succ j =>
          simp at hi hj
          rw [ih htail i j oi oj d hi hj hdi hdj]
  have hev : ∀ (σ : Nat → Value) (e : Edge) (i : Nat) (o : Oper), l[i]? = some o → e ∈ o.after → ∀ o', l[e.on]? = some o' → o'.dst.isSome = true → (upd a (dstsOf' l) σ).eval (.tmp (dstN l.toArray e.on)) = σ (dstN l.toArray e.on) := by
    intro σ e i o hi he o' ho' hs
    obtain ⟨d, hd⟩ := Option.isSome_iff_exists.1 hs
    have h5 : dstN l.toArray e.on = d := by simp [dstN, ho', hd]
    have h6 : d ∈ dstsOf' l := List.mem_filterMap.2 ⟨o', List.mem_of_getElem? ho', hd⟩
    rw [h5, upd_eval, if_pos (hlt d h6), if_pos ((elemB_iff _ _).2 h6)]
  have hout : ∀ (σ : Nat → Value) t, elemB t (dstsOf' l) = false → (upd a (dstsOf' l) σ).eval (.tmp t) = a.tmps.getD t undef := by
    intro σ t ht
    rw [upd_eval]
    split
    · rw [if_neg (by rw [ht]; simp)]
    · rename_i h
      simp [Array.getD_eq_getD_getElem?, Array.getElem?_eq_none (Nat.not_lt.1 h)]
  have heon : ∀ (i : Nat) (o : Oper), l[i]? = some o → ∀ e ∈ o.after, Region.binds .any e = true → ∃ o', l[e.on]? = some o' := by
    intro i o hi e he hbd
    have h2 := hedge (o, i) (by rw [List.mem_zipIdx_iff_getElem?]; simpa using hi) e (by simpa using he)
    have h3 : i < l.length := (List.getElem?_eq_some_iff.1 hi).1
    have h4 : e.on < l.length := by simp [hbd] at h2; omega
    exact ⟨l[e.on], List.getElem?_eq_getElem h4⟩
  have hfr : ∀ (i : Nat) (o : Oper), l[i]? = some o → elemB i ks = false → o.dst.isSome = true := by
    intro i o hi hf
    have h2 := hfree (o, i) (by rw [List.mem_zipIdx_iff_getElem?]; simpa using hi)
    simpa only [hf, Bool.false_or] using h2
  obtain ⟨il, ol, hil, hol, hpreds⟩ : ∃ il ol, (il, ol) ∈ chainOf l ks ∧ il + 1 = l.length ∧ ∀ j, j < il → (∃ e ∈ ol.after, e.on = j ∧ Region.binds .any e = true) ∨ ∃ k o, l[k]? = some o ∧ j < k ∧ ∃ e ∈ o.after, e.on = j ∧ Region.binds .any e = true := by
    unfold finalOk at hfinal
    split at hfinal
    · cases hfinal
    · next il ol hg =>
      simp only [Bool.and_eq_true, beq_iff_eq, List.all_eq_true, List.mem_range, Bool.or_eq_true, List.any_eq_true, decide_eq_true_eq] at hfinal
      refine ⟨il, ol, List.mem_of_getLast? hg, hfinal.1, fun j hj => ?_⟩
      rcases hfinal.2 j hj with ⟨e, he, h1, h2⟩ | ⟨⟨o, k⟩, hm, hjk, e, he, h1, h2⟩
      · exact .inl ⟨e, by simpa using he, h1, h2⟩
      · exact .inr ⟨k, o, by rw [List.mem_zipIdx_iff_getElem?] at hm; simpa using hm, hjk, e, by simpa using he, h1, h2⟩
  have hlastdone : ∀ (L : Nat → Bool), (∀ j o, l[j]? = some o → L j = true → ∀ e ∈ o.after, Region.binds .any e = true → L e.on = true) → L il = true → ∀ j, j < l.length → L j = true := by
    intro L hclo hL
    have hilo : l[il]? = some ol := (chainOf_mem.1 hil).1
    have key : ∀ n j, il - j ≤ n → j ≤ il → L j = true := by
      intro n
      induction n with
      | zero => intro j h1 h2; rw [show j = il by omega]; exact hL
      | succ n ih =>
        intro j h1 h2
        by_cases hji : j = il
        · rw [hji]; exact hL
        · rcases hpreds j (by omega) with ⟨e, he, rfl, hb⟩ | ⟨k, o, hk, hjk, e, he, rfl, hb⟩
          · exact hclo il ol hilo hL e he hb
          · have hkl : k < l.length := (List.getElem?_eq_some_iff.1 hk).1
            exact hclo k o hk (ih k (by omega) (by omega)) e he hb
    intro j hj
    exact key il j (by omega) (by omega)
  refine wp_region_inv hm (fun L σ w' => (L il = false → T w w') ∧ (∀ j o, l[j]? = some o → L j = true → ∀ e ∈ o.after, Region.binds .any e = true → L e.on = true) ∧ (∀ j o d, l[j]? = some o → o.dst = some d → L j = false → σ d = a.tmps.getD d undef) ∧ (L il = false → ∀ j o, l[j]? = some o → elemB j ks = false → L j = true → stAt sl j w' (σ (dstN l.toArray j))) ∧
    (L il = false → (∀ j d, elemB j fs = true → (l[j]?).bind (·.dst) = some d → L j = true → blkOf (σ d) < w'.heap.size) ∧ (∀ j1 j2 d1 d2, elemB j1 fs = true → elemB j2 fs = true → j1 ≠ j2 → (l[j1]?).bind (·.dst) = some d1 → (l[j2]?).bind (·.dst) = some d2 → L j1 = true → L j2 = true → blkOf (σ d1) ≠ blkOf (σ d2))) ∧
    ∃ pre post κ w1 rec ρ0, (∀ j d, elemB j rec = true → (l[j]?).bind (·.dst) = some d → L j = true ∧ σ d = ρ0 d) ∧ chainOf l ks = pre ++ post ∧ (∀ p ∈ pre, L p.1 = true) ∧ (∀ p ∈ post, L p.1 = false) ∧ (∀ p ∈ pre, ∀ d, p.2.dst = some d → σ d = κ d) ∧ Below w1.heap.size w1 w' ∧
      ChainOkF P l ks fs (stAt sl) T Q a w post κ w1 rec ρ0) hok ?_ ?_ ?_
  · have hb : Below w.heap.size w { w with drawn := w.drawn + 1 } := ⟨rfl, rfl, rfl, Nat.le_refl _, fun _ _ => rfl⟩
    exact ⟨fun _ => hT.of hb, fun j o _ h => (by cases h), fun _ _ _ _ _ _ => rfl, fun _ j o _ _ h => (by cases h), fun _ => ⟨fun _ _ _ _ h => (by cases h), fun _ _ _ _ _ _ _ _ _ h => (by cases h)⟩, [], chainOf l ks, fun _ => undef, w, [], fun _ => undef, fun j d h => (by cases h), rfl, by simp, fun _ _ => rfl, by simp, hb, hk⟩
  · intro i o hi L σ w' hLi hdone hJ
    obtain ⟨hTw, hclo, hold, hS, hF, pre, post, κ, w1, rec, ρ0, hrec, hch, hpre, hpost, hκ, hb1, hC⟩ := hJ
    have hnl : L il = false := by
      cases hx : L il with
      | false => rfl
      | true => rw [hlastdone L hclo hx i (List.getElem?_eq_some_iff.1 hi).1] at hLi; cases hLi
    have hTw := hTw hnl
    have hS := hS hnl
    obtain ⟨hF1, hF2⟩ := hF hnl
    have hclo' : ∀ j oj, l[j]? = some oj → updL1 L i j = true → ∀ e ∈ oj.after, Region.binds .any e = true → updL1 L i e.on = true := by
      intro j oj hj hLj e he hbd
      by_cases hji : i = j
      · subst hji
        rw [hi] at hj; cases hj
        simp [updL1, hdone e he hbd]
      · have hLj' : L j = true := by
          simp only [updL1, Bool.or_eq_true, beq_iff_eq] at hLj
          rcases hLj with h | h
          · exact h
          · exact absurd h.symm hji
        simp [updL1, hclo j oj hj hLj' e he hbd]
    have hold' : ∀ v j oj d, l[j]? = some oj → oj.dst = some d → updL1 L i j = false → putσ σ o.dst v d = a.tmps.getD d undef := by
      intro v j oj d hj hd hLj
      simp only [updL1, Bool.or_eq_false_iff, beq_eq_false_iff_ne] at hLj
      have h1 := hold j oj d hj hd hLj.1
      cases hdo : o.dst with
      | none => simpa [putσ] using h1
      | some d0 =>
        have hne : d ≠ d0 := fun h => hLj.2 (hinj i j o oj d0 hi hj hdo (by rw [hd, h])).symm
        simpa [putσ, hne] using h1
    have holdE : ∀ (j d : Nat), (l[j]?).bind (·.dst) = some d → ((l[j]?).map fun x => x.after.toList.any fun e => e.on == i && Region.binds .any e) = some true → (upd a (dstsOf' l) σ).eval (.tmp d) = a.tmps.getD d undef := by
      intro j d hd he
      cases hj : l[j]? with
      | none => rw [hj] at hd; cases hd
      | some oj =>
        rw [hj] at hd he
        have hd : oj.dst = some d := hd
        simp only [Option.map_some, Option.some.injEq] at he
        obtain ⟨e, he1, he2⟩ := List.any_eq_true.1 he
        simp only [Bool.and_eq_true, beq_iff_eq] at he2
        obtain ⟨he2, hbd⟩ := he2
        have hLj : L j = false := by
          cases hx : L j with
          | false => rfl
          | true =>
            have := hclo j oj hj hx e (by simpa using he1) hbd
            rw [he2, hLi] at this; cases this
        have h6 : d ∈ dstsOf' l := List.mem_filterMap.2 ⟨oj, List.mem_of_getElem? hj, hd⟩
        rw [upd_eval, if_pos (hlt d h6), if_pos ((elemB_iff _ _).2 h6)]
        exact hold j oj d hj hd hLj
    cases hik : elemB i ks with
    | false =>
      have hds := hfr i o hi hik
      obtain ⟨d, hd⟩ := Option.isSome_iff_exists.1 hds
      have hdn : dstN l.toArray i = d := by simp [dstN, hi, hd]
      have hst := stepsM_at l 0 hsteps i o hi (by rwa [Nat.zero_add]) (upd a (dstsOf' l) σ).eval w' ⟨hTw, by rw [Nat.zero_add]; exact holdE, ?_, hout σ, fun _ => rfl, fun _ => rfl⟩
      · rw [Nat.zero_add] at hst
        refine stepOk_mono hst fun v w'' ⟨hb2, hfr2, hSi⟩ => ?_
        have hT2 := hT.of hb2
        refine ⟨fun _ => hT.trans hTw hT2, hclo', hold' v, fun _ j oj hj hjf hLj => ?_, fun _ => ⟨fun j dj hjf hdj hLj => ?_, fun j1 j2 d1 d2 h1 h2 hne hd1 hd2 hL1 hL2 => ?_⟩, pre, post, κ, w1, rec, ρ0, fun j dj hj hdj => ?_, hch, fun p hp => ?_, fun p hp => ?_, fun p hp dp hdp => ?_, bthen hb1 hb2 (Nat.le_refl _), hC⟩
        · by_cases hji : i = j
          · subst hji
            rw [hi] at hj; cases hj
            rw [hdn, hd]
            simpa [putσ] using hSi
          · have hLj' : L j = true := by
              simp only [updL1, Bool.or_eq_true, beq_iff_eq] at hLj
              rcases hLj with h | h
              · exact h
              · exact absurd h.symm hji
            have hSj := stAt_st sl j w' w'' _ (hS j oj hj hjf hLj') hT2
            obtain ⟨dj, hdj⟩ := Option.isSome_iff_exists.1 (hfr j oj hj hjf)
            have hnj : dstN l.toArray j = dj := by simp [dstN, hj, hdj]
            have hne : dj ≠ d := fun h => hji (hinj i j o oj d hi hj hd (by rw [hdj, h]))
            rw [hnj] at hSj ⊢
            rw [hd]
            simpa [putσ, hne] using hSj
        · have hij : i = j ∨ L j = true := by
            simp only [updL1, Bool.or_eq_true, beq_iff_eq] at hLj
            rcases hLj with h | h
            · exact .inr h
            · exact .inl h.symm
          rcases hij with rfl | hLj'
          · have hdd : dj = d := by rw [hi] at hdj; have hdj : o.dst = some dj := hdj; rw [hd] at hdj; exact (Option.some.inj hdj).symm
            rw [hd, hdd]
            simp only [putσ, if_true]
            unfold freshB at hfr2
            rw [hjf] at hfr2
            exact hfr2.2
          · have hne : dj ≠ d := by
              intro h
              cases ho : l[j]? with
              | none => rw [ho] at hdj; cases hdj
              | some oj =>
                rw [ho] at hdj
                have := hinj i j o oj d hi ho hd (by rw [← h]; exact hdj)
                rw [this] at hLi; rw [hLj'] at hLi; cases hLi
            rw [hd]
            simp only [putσ, if_neg hne]
            exact Nat.lt_of_lt_of_le (hF1 j dj hjf hdj hLj') hb2.size
        · have key : ∀ j dj, elemB j fs = true → (l[j]?).bind (·.dst) = some dj → updL1 L i j = true → j ≠ i → L j = true ∧ dj ≠ d := by
            intro j dj hjf hdj hLj hji
            have hLj' : L j = true := by
              simp only [updL1, Bool.or_eq_true, beq_iff_eq] at hLj
              exact hLj.resolve_right hji
            refine ⟨hLj', fun h => ?_⟩
            cases ho : l[j]? with
            | none => rw [ho] at hdj; cases hdj
            | some oj =>
              rw [ho] at hdj
              exact hji (hinj i j o oj d hi ho hd (by rw [← h]; exact hdj)).symm
          have self : ∀ dj, (l[i]?).bind (·.dst) = some dj → dj = d := by
            intro dj hdj
            rw [hi] at hdj; have hdj : o.dst = some dj := hdj; rw [hd] at hdj; exact (Option.some.inj hdj).symm
          rw [hd]
          by_cases e1 : j1 = i
          · subst e1
            obtain ⟨hLj2, hn2⟩ := key j2 d2 h2 hd2 hL2 (fun h => hne h.symm)
            have hdd := self d1 hd1
            subst hdd
            simp only [putσ, if_true, if_neg hn2]
            unfold freshB at hfr2
            rw [h1] at hfr2
            have := hF1 j2 d2 h2 hd2 hLj2
            have := hfr2.1
            omega
          · obtain ⟨hLj1, hn1⟩ := key j1 d1 h1 hd1 hL1 e1
            by_cases e2 : j2 = i
            · subst e2
              have hdd := self d2 hd2
              subst hdd
              simp only [putσ, if_true, if_neg hn1]
              unfold freshB at hfr2
              rw [h2] at hfr2
              have := hF1 j1 d1 h1 hd1 hLj1
              have := hfr2.1
              omega
            · obtain ⟨hLj2, hn2⟩ := key j2 d2 h2 hd2 hL2 e2
              simp only [putσ, if_neg hn1, if_neg hn2]
              exact hF2 j1 j2 d1 d2 h1 h2 hne hd1 hd2 hLj1 hLj2
        · obtain ⟨hLj, hv⟩ := hrec j dj hj hdj
          have hne : dj ≠ d := by
            intro h
            cases ho : l[j]? with
            | none => rw [ho] at hdj; cases hdj
            | some oj =>
              rw [ho] at hdj
              have := hinj i j o oj d hi ho hd (by rw [← h]; exact hdj)
              rw [this] at hLi; rw [hLj] at hLi; cases hLi
          rw [hd]
          exact ⟨by simp [updL1, hLj], by simp only [putσ, if_neg hne]; exact hv⟩
        · simp [updL1, hpre p hp]
        · have hpk := (chainOf_mem.1 (show p ∈ chainOf l ks by rw [hch]; simp [hp])).2
          have : p.1 ≠ i := fun h => by rw [h, hik] at hpk; cases hpk
          simp [updL1, hpost p hp, this]
        · have hpm := chainOf_mem.1 (show p ∈ chainOf l ks by rw [hch]; simp [hp])
          have hne : dp ≠ d := fun h => by
            have := hinj i p.1 o p.2 d hi hpm.1 hd (by rw [hdp, h])
            rw [← this, hik] at hpm; cases hpm.2
          rw [hd]
          simp only [putσ, if_neg hne]
          exact hκ p hp dp hdp
      · intro j hj hf
        obtain ⟨e, he, hej⟩ := List.any_eq_true.1 hj
        simp only [Bool.and_eq_true, beq_iff_eq] at hej
        obtain ⟨rfl, hbd⟩ := hej
        have he' : e ∈ o.after := by simpa using he
        obtain ⟨o', ho'⟩ := heon i o hi e he' hbd
        rw [hev σ e i o hi he' o' ho' (hfr e.on o' ho' hf)]
        exact hS e.on o' ho' hf (hdone e he' hbd)
    | true =>
      have keyc : ∀ v j dj, elemB j fs = true → (l[j]?).bind (·.dst) = some dj → updL1 L i j = true → L j = true ∧ putσ σ o.dst v dj = σ dj := by
        intro v j dj hjf hdj hLj
        have hji : j ≠ i := by
          rintro rfl
          have := hdis j ((elemB_iff _ _).1 hjf)
          rw [hik] at this; cases this
        have hLj' : L j = true := by
          simp only [updL1, Bool.or_eq_true, beq_iff_eq] at hLj
          exact hLj.resolve_right hji
        refine ⟨hLj', ?_⟩
        cases hd : o.dst with
        | none => rfl
        | some d =>
          have hne : dj ≠ d := by
            intro h
            cases ho : l[j]? with
            | none => rw [ho] at hdj; cases hdj
            | some oj =>
              rw [ho] at hdj
              exact hji (hinj i j o oj d hi ho hd (by rw [← h]; exact hdj)).symm
          simp only [putσ, if_neg hne]
      have hmem : (i, o) ∈ chainOf l ks := chainOf_mem.2 ⟨hi, hik⟩
      have hpm : (i, o) ∈ post := by
        rw [hch] at hmem
        rcases List.mem_append.1 hmem with h | h
        · have := hpre _ h; simp only at this; rw [hLi] at this; cases this
        · exact h
      cases post with
      | nil => cases hpm
      | cons x r =>
        have hx : x = (i, o) := by
          rcases List.mem_cons.1 hpm with h | h
          · exact h.symm
          · exfalso
            rw [hch] at hchain
            obtain ⟨z, hz, h2⟩ := chained_head pre x r hchain _ h
            obtain ⟨e, he, hez⟩ := List.any_eq_true.1 h2
            simp only [Bool.and_eq_true, beq_iff_eq] at hez
            obtain ⟨hez, hbd⟩ := hez
            have h3 := hdone e (by simpa using he) hbd
            rw [hez, hpost z hz] at h3
            cases h3
        subst hx
        have hst := hC (upd a (dstsOf' l) σ).eval w' hb1 ⟨hTw, holdE, ?_, ?_, hout σ, fun _ => rfl, fun _ => rfl⟩ ?_ ?_
        · refine stepOk_mono hst fun v w'' ⟨hT2, hC2⟩ => ?_
          have hndp := chainOf_nodup l ks
          rw [hch, List.map_append, List.map_cons, List.nodup_append] at hndp
          have hT2' : updL1 L i il = false → T w' w'' := by
            intro hn
            cases r with
            | nil =>
              exfalso
              rw [hch] at hil
              rcases List.mem_append.1 hil with h | h
              · rw [hpre _ h] at hnl; cases hnl
              · simp only [List.mem_singleton, Prod.mk.injEq] at h
                rw [h.1] at hn
                simp [updL1] at hn
            | cons _ _ => exact hT2
          refine ⟨fun hn => hT.trans hTw (hT2' hn), hclo', hold' v, fun hn j oj hj hjf hLj => ?_, fun hn => ⟨fun j dj hjf hdj hLj => ?_, fun j1 j2 d1 d2 h1 h2 hne hd1 hd2 hL1 hL2 => ?_⟩, pre ++ [(i, o)], r, putσ κ o.dst v, w'', predsOf o ++ rec, fun t => (upd a (dstsOf' l) σ).eval (.tmp t), fun j dj hj hdj => ?_, by rw [hch]; simp, fun p hp => ?_, fun p hp => ?_, fun p hp dp hdp => ?_, Below.refl _ _, hC2⟩
          · have hji : i ≠ j := fun h => by rw [h, hjf] at hik; cases hik
            have hLj' : L j = true := by
              simp only [updL1, Bool.or_eq_true, beq_iff_eq] at hLj
              rcases hLj with h | h
              · exact h
              · exact absurd h.symm hji
            have hSj := stAt_st sl j w' w'' _ (hS j oj hj hjf hLj') (hT2' hn)
            obtain ⟨dj, hdj⟩ := Option.isSome_iff_exists.1 (hfr j oj hj hjf)
            have hnj : dstN l.toArray j = dj := by simp [dstN, hj, hdj]
            rw [hnj] at hSj ⊢
            cases hd : o.dst with
            | none => simpa [putσ] using hSj
            | some d =>
              have hne : dj ≠ d := fun h => hji (hinj i j o oj d hi hj hd (by rw [hdj, h]))
              simpa [putσ, hne] using hSj
          · obtain ⟨hLj', hput⟩ := keyc v j dj hjf hdj hLj
            rw [hput]
            exact Nat.lt_of_lt_of_le (hF1 j dj hjf hdj hLj') (hTs (hT2' hn))
          · obtain ⟨hLj1, hp1⟩ := keyc v j1 d1 h1 hd1 hL1
            obtain ⟨hLj2, hp2⟩ := keyc v j2 d2 h2 hd2 hL2
            rw [hp1, hp2]
            exact hF2 j1 j2 d1 d2 h1 h2 hne hd1 hd2 hLj1 hLj2
          · have hLj : L j = true := by
              rw [elemB_iff, List.mem_append, ← elemB_iff, ← elemB_iff] at hj
              rcases hj with h | h
              · obtain ⟨e, he, rfl, hbd⟩ := mem_preds h
                exact hdone e he hbd
              · exact (hrec j dj h hdj).1
            refine ⟨by simp [updL1, hLj], ?_⟩
            cases ho : l[j]? with
            | none => rw [ho] at hdj; cases hdj
            | some oj =>
              rw [ho] at hdj
              have hdj : oj.dst = some dj := hdj
              have h6 : dj ∈ dstsOf' l := List.mem_filterMap.2 ⟨oj, List.mem_of_getElem? ho, hdj⟩
              show putσ σ o.dst v dj = (upd a (dstsOf' l) σ).eval (Operand.tmp dj)
              rw [upd_eval, if_pos (hlt dj h6), if_pos ((elemB_iff _ _).2 h6)]
              cases hd : o.dst with
              | none => rfl
              | some d =>
                have hne : dj ≠ d := by
                  intro h
                  have := hinj i j o oj d hi ho hd (by rw [← h]; exact hdj)
                  rw [this] at hLi; rw [hLj] at hLi; cases hLi
                simp only [putσ, if_neg hne]
          · rcases List.mem_append.1 hp with h | h
            · simp [updL1, hpre p h]
            · simp only [List.mem_singleton] at h; subst h; simp [updL1]
          · have h1 := hpost p (List.mem_cons_of_mem _ hp)
            have : p.1 ≠ i := fun h => by
              have h2 := (List.nodup_cons.1 hndp.2.1).1
              exact h2 (List.mem_map.2 ⟨p, hp, h⟩)
            simp [updL1, h1, this]
          · rcases List.mem_append.1 hp with h | h
            · have hpm := chainOf_mem.1 (show p ∈ chainOf l ks by rw [hch]; simp [h])
              have h4 := hκ p h dp hdp
              cases hd : o.dst with
              | none => simpa [putσ] using h4
              | some d =>
                have hne : dp ≠ d := fun h5 => by
                  have h6 := hinj i p.1 o p.2 d hi hpm.1 hd (by rw [hdp, h5])
                  have h7 := hpre p h
                  rw [← h6, hLi] at h7; cases h7
                simpa [putσ, hne] using h4
            · simp only [List.mem_singleton] at h; subst h
              simp only at hdp
              rw [hdp]; simp [putσ]
        · intro j hj hjf
          obtain ⟨e, he, hej⟩ := List.any_eq_true.1 hj
          simp only [Bool.and_eq_true, beq_iff_eq] at hej
          obtain ⟨rfl, hbd⟩ := hej
          have he' : e ∈ o.after := by simpa using he
          obtain ⟨o', ho'⟩ := heon i o hi e he' hbd
          rw [hev σ e i o hi he' o' ho' (hfr e.on o' ho' hjf)]
          exact hS e.on o' ho' hjf (hdone e he' hbd)
        · intro j d' hj hjf hd'
          obtain ⟨e, he, hej⟩ := List.any_eq_true.1 hj
          simp only [Bool.and_eq_true, beq_iff_eq] at hej
          obtain ⟨rfl, hbd⟩ := hej
          have he' : e ∈ o.after := by simpa using he
          obtain ⟨o', ho'⟩ := heon i o hi e he' hbd
          rw [ho'] at hd'
          have hd' : o'.dst = some d' := hd'
          have hm2 : (e.on, o') ∈ chainOf l ks := chainOf_mem.2 ⟨ho', hjf⟩
          have hpr : (e.on, o') ∈ pre := by
            rw [hch] at hm2
            rcases List.mem_append.1 hm2 with h | h
            · exact h
            · have h1 := hpost _ h; simp only at h1; rw [hdone e he' hbd] at h1; cases h1
          have hdn' : dstN l.toArray e.on = d' := by simp [dstN, ho', hd']
          have h9 := hev σ e i o hi he' o' ho' (by rw [hd']; rfl)
          rw [hdn'] at h9
          rw [h9]
          exact hκ _ hpr d' hd'
        · intro j1 j2 d1 d2 h1 h2 hne hp1 hp2 hd1 hd2
          have ev : ∀ (j d : Nat), (l[j]?).bind (·.dst) = some d → (upd a (dstsOf' l) σ).eval (.tmp d) = σ d := by
            intro j d hd
            cases ho : l[j]? with
            | none => rw [ho] at hd; cases hd
            | some oj =>
              rw [ho] at hd
              have h6 : d ∈ dstsOf' l := List.mem_filterMap.2 ⟨oj, List.mem_of_getElem? ho, hd⟩
              rw [upd_eval, if_pos (hlt d h6), if_pos ((elemB_iff _ _).2 h6)]
          have dn : ∀ (j : Nat), o.after.toList.any (fun e => e.on == j && Region.binds .any e) = true → L j = true := by
            intro j hj
            obtain ⟨e, he, hej⟩ := List.any_eq_true.1 hj
            simp only [Bool.and_eq_true, beq_iff_eq] at hej
            obtain ⟨rfl, hbd⟩ := hej
            exact hdone e (by simpa using he) hbd
          rw [ev j1 d1 hd1, ev j2 d2 hd2]
          exact hF2 j1 j2 d1 d2 h1 h2 hne hd1 hd2 (dn j1 hp1) (dn j2 hp2)
        · intro j d hj hd
          obtain ⟨hLj, hv⟩ := hrec j d hj hd
          rw [← hv]
          cases ho : l[j]? with
          | none => rw [ho] at hd; cases hd
          | some oj =>
            rw [ho] at hd
            have h6 : d ∈ dstsOf' l := List.mem_filterMap.2 ⟨oj, List.mem_of_getElem? ho, hd⟩
            rw [upd_eval, if_pos (hlt d h6), if_pos ((elemB_iff _ _).2 h6)]
  · intro L σ w' hall hJ
    obtain ⟨hTw, hclo, hold, hS, hF, pre, post, κ, w1, rec, ρ0, hrec, hch, hpre, hpost, hκ, hb1, hC⟩ := hJ
    cases post with
    | nil =>
      rw [List.append_nil] at hch
      refine hC σ w' hb1 (fun j d hj hd => ?_) (fun j d hj hd => (hrec j d hj hd).2)
      cases ho : l[j]? with
      | none => rw [ho] at hd; cases hd
      | some o =>
        rw [ho] at hd
        exact hκ (j, o) (by rw [← hch]; exact chainOf_mem.2 ⟨ho, hj⟩) d hd
    | cons x r =>
      exfalso
      have hxm := chainOf_mem.1 (show x ∈ chainOf l ks by rw [hch]; simp)
      have h1 := hpost x (by simp)
      rw [hall x.1 (List.getElem?_eq_some_iff.1 hxm.1).1] at h1
      cases h1


end Go.Proofs.Ytmaagkdehdmhlaa
