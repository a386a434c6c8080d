/- A region that draws its order, whose last operation writes and waits for all others but some that only compute a value that nobody uses. -/
import Derived.Test.YtnbpcdnpdcfiiaaRegionPhase
import Derived.Test.YtnbpcdnpdcfiiaaDriveExactPartB
namespace Go.Proofs.Ytnbpcdnpdcfiiaa
open Go.RowKit

def lastfOk (l : List Oper) (fl : List Nat) : Bool :=
  decide (1 ≤ l.length) && (List.range (l.length - 1)).all (fun i => ((l[i]?).bind (·.dst)).isSome && (elemB i fl || (List.range l.length).any fun j => decide (i < j) && !elemB j fl && edgeB l j i)) && (fl.all fun i => decide (i < l.length - 1))
/-- What holds between two operations. -/
structure JF (l : List Oper) (fl : List Nat) (sl : List Sp) (w : World) (R : (Nat → Value) → World → Prop) (L : Nat → Bool) (σ : Nat → Value) (w' : World) : Prop where
  closed : ∀ i o, l[i]? = some o → L i = true → ∀ e ∈ o.after, Region.binds .any e = true → L e.on = true
  all : L (l.length - 1) = true → ∀ i, i < l.length - 1 → elemB i fl = false → L i = true
  before : L (l.length - 1) = false → Below w.heap.size w w' ∧ ∀ j o, l[j]? = some o → L j = true → spAt sl j w' (σ (dstN l.toArray j))
  behind : L (l.length - 1) = true → R σ w' ∧ ∃ w1, ∀ j o, l[j]? = some o → j < l.length - 1 → L j = true → elemB j fl = false → spAt sl j w1 (σ (dstN l.toArray j))
theorem wp_region_lastf {P : Program} {id : Nat} {l : List Oper} {Q : Exit → Act → World → Prop} {a : Act} {w : World} (hm : P.follows .mixedOrders = true) (fl : List Nat) (sl : List Sp) (hok : regionOk3 l a.tmps.size = true) (hck : lastfOk l fl = true)
    (hnof : (fl.all fun i => match l[i]? with | some o => o.after.toList.all fun e => !Region.binds .any e || !elemB e.on fl | none => true) = true)
    (hstep : StepsG P l sl a 0 (fun t => a.tmps.getD t undef) w (l.take (l.length - 1)) 0)
    (hfl : ∀ i, elemB i fl = true → ∀ o, l[i]? = some o → ∀ ρ w', (∀ j, o.after.toList.any (fun e => e.on == j && Region.binds .any e) = true → ∃ w1, spAt sl j w1 (ρ (.tmp (dstN l.toArray j)))) → StepOk P l.toArray o ρ w' (fun _ w'' => w'' = w'))
    (hlast : ∀ o, l[l.length - 1]? = some o → ∀ σ ρ w', EnvG l sl a 0 (fun t => a.tmps.getD t undef) w w' o ρ → (∀ j, Nat.blt j (l.length - 1) = true → elemB j fl = false → spAt sl j w' (σ (dstN l.toArray j))) →
      StepOk P l.toArray o ρ w' (fun v w'' => ∀ σ2, (∀ j d, elemB j fl = false → (l[j]?).bind (·.dst) = some d → σ2 d = putσ σ o.dst v d) → Q .normal (upd a (dstsOf' l) σ2) w'')) : (Code.region id l.toArray true).wp P Q a w := by
  have hok' := hok
  simp only [regionOk3, Bool.and_eq_true, List.all_eq_true, decide_eq_true_eq] at hok'
  obtain ⟨⟨⟨hlt, hnd⟩, hedge⟩, hgrd⟩ := hok'
  have hinj : ∀ (i j : Nat) (oi oj : Oper) (d : Nat), l[i]? = some oi → l[j]? = some oj → oi.dst = some d → oj.dst = some d → i = j := dst_inj (nodupB_spec hnd)
  simp only [lastfOk, Bool.and_eq_true, decide_eq_true_eq, List.all_eq_true, List.mem_range, Bool.or_eq_true, List.any_eq_true, Bool.not_eq_true'] at hck
  obtain ⟨⟨hlen, hpre⟩, hflb⟩ := hck
  have hed : ∀ (i : Nat) (o : Oper), l[i]? = some o → ∀ e ∈ o.after, Region.binds .any e = true → e.on < i := by
    intro i o hi e he hb
    have := hedge (o, i) (by rw [List.mem_zipIdx_iff_getElem?]; simpa using hi) e (by simpa using he)
    simpa [hb] using this
  have hdst : ∀ j o, l[j]? = some o → j < l.length - 1 → ∃ d, o.dst = some d := fun j o hj hlt2 => by
    have := (hpre j hlt2).1
    rw [hj] at this
    exact Option.isSome_iff_exists.1 (by simpa using this)
  have hev : ∀ (σ : Nat → Value) (d : Nat), d ∈ dstsOf' l → (upd a (dstsOf' l) σ).eval (.tmp d) = σ d := fun σ d hd => by
    rw [upd_eval, if_pos (hlt d hd), if_pos ((elemB_iff _ _).2 hd)]
  have hout : ∀ (σ : Nat → Value) t, elemB t (dstsOf' l) = false → (upd a (dstsOf' l) σ).eval (.tmp t) = a.tmps.getD t undef := fun σ t ht => by
    rw [upd_eval]
    split
    · rw [if_neg (by rw [ht]; simp)]
    · rename_i h
      simp [Array.getD_eq_getD_getElem?, Array.getElem?_eq_none (Nat.not_lt.1 h)]
  have hdn : ∀ j o d, l[j]? = some o → o.dst = some d → dstN l.toArray j = d ∧ d ∈ dstsOf' l := fun j o d hj hd => ⟨by simp [dstN, hj, hd], List.mem_filterMap.2 ⟨o, List.mem_of_getElem? hj, hd⟩⟩
  refine wp_region_inv hm (JF l fl sl w (fun σ w' => ∀ σ2, (∀ j d, elemB j fl = false → (l[j]?).bind (·.dst) = some d → σ2 d = σ d) → Q .normal (upd a (dstsOf' l) σ2) w')) hok ⟨fun _ _ _ h => (by cases h), fun h => (by cases h), fun _ => ⟨⟨rfl, rfl, rfl, Nat.le_refl _, fun _ _ => rfl⟩, fun _ _ _ h => by cases h⟩, fun h => by cases h⟩ ?_ ?_
  · rintro i o hi L σ w' hLi hdone ⟨hcl, hA, hB, hC⟩
    have hclosed : ∀ j oj, l[j]? = some oj → updL1 L i j = true → ∀ e ∈ oj.after, Region.binds .any e = true → updL1 L i e.on = true := by
      intro j oj hj hLj e he hbd
      simp only [updL1, Bool.or_eq_true, beq_iff_eq] at hLj ⊢
      by_cases hji : j = i
      · subst hji
        rw [hi] at hj; cases hj
        exact .inl (hdone e he hbd)
      · exact .inl (hcl j oj hj (hLj.resolve_right hji) e he hbd)
    have hil : i < l.length := (List.getElem?_eq_some_iff.1 hi).1
    have henv : L (l.length - 1) = false → EnvG l sl a 0 (fun t => a.tmps.getD t undef) w w' o (upd a (dstsOf' l) σ).eval := fun hLl => by
      obtain ⟨hb, hv⟩ := hB hLl
      refine ⟨hb, fun j _ hj => ?_, fun j d hj _ => (by have : j < 0 := Nat.le_of_ble_eq_true hj; omega), hout σ, fun _ => rfl, fun _ => rfl⟩
      obtain ⟨e, he, hej⟩ := List.any_eq_true.1 hj
      simp only [Bool.and_eq_true, beq_iff_eq] at hej
      obtain ⟨rfl, hbd⟩ := hej
      have he' : e ∈ o.after := by simpa using he
      have hei := hed i o hi e he' hbd
      have hj' := List.getElem?_eq_getElem (show e.on < l.length by omega)
      obtain ⟨d, hd⟩ := hdst e.on _ hj' (by omega)
      obtain ⟨h5, h6⟩ := hdn e.on _ d hj' hd
      have := hv e.on _ hj' (hdone e he' hbd)
      rw [h5] at this
      rw [Nat.sub_zero, h5, hev σ d h6]
      exact this
    by_cases hlast' : i = l.length - 1
    · subst hlast'
      obtain ⟨hb, hv⟩ := hB hLi
      have hd0 : ∀ k j, l.length - 1 - j ≤ k → j < l.length - 1 → elemB j fl = false → L j = true := by
        intro k
        induction k with
        | zero => intro j h1 h2; omega
        | succ k ih =>
          intro j h1 hj hjf
          rcases (hpre j hj).2 with h | ⟨j', hj', ⟨hjj, hjf'⟩, hej⟩
          · rw [hjf] at h; cases h
          · obtain ⟨o', ho', e, he, hbd, rfl⟩ := edgeB_spec hej
            by_cases hjl : j' = l.length - 1
            · subst hjl
              rw [hi] at ho'; cases ho'
              exact hdone e he hbd
            · exact hcl j' o' ho' (ih j' (by omega) (by omega) hjf') e he hbd
      have hd : ∀ j, j < l.length - 1 → elemB j fl = false → L j = true := fun j hj hjf => hd0 _ j (Nat.le_refl _) hj hjf
      refine stepOk_mono (hlast o hi σ _ w' (henv hLi) fun j hj hjf => ?_) fun v w'' hq => ⟨hclosed, fun _ j hj hjf => by simp [updL1, hd j hj hjf], fun h => by simp [updL1] at h, fun _ => ⟨hq, w', fun j oj hj hjl hLj hjf => ?_⟩⟩
      · have hj' : j < l.length - 1 := Nat.le_of_ble_eq_true hj
        exact hv j _ (List.getElem?_eq_getElem (by omega)) (hd j hj' hjf)
      · obtain ⟨dj, hdj⟩ := hdst j oj hj hjl
        obtain ⟨h5, _⟩ := hdn j oj dj hj hdj
        have := hv j oj hj (hd j hjl hjf)
        rw [h5] at this ⊢
        cases hdo : o.dst with
        | none => simpa [putσ] using this
        | some d =>
          have hne : dj ≠ d := fun h => by
            have := hinj j _ oj o d hj hi (by rw [hdj, h]) hdo
            omega
          simpa [putσ, hne] using this
    · have hil' : i < l.length - 1 := by omega
      obtain ⟨di, hdi⟩ := hdst i o hi hil'
      obtain ⟨h5, _⟩ := hdn i o di hi hdi
      cases hLl : L (l.length - 1) with
      | false =>
        obtain ⟨hb, hv⟩ := hB hLl
        have hst := stepsG_at _ 0 hstep i o (by rw [List.getElem?_take, if_pos hil']; exact hi) _ w' (henv hLl)
        rw [Nat.zero_add] at hst
        have hll : updL1 L i (l.length - 1) = false := by
          simp only [updL1, hLl, Bool.false_or, beq_eq_false_iff_ne, ne_eq]
          omega
        refine stepOk_mono hst fun v w'' ⟨hB', hv'⟩ => ⟨hclosed, fun h => (by rw [hll] at h; cases h), fun _ => ⟨bthen hb hB' (Nat.le_refl _), fun j oj hj hLj => ?_⟩, fun h => (by rw [hll] at h; cases h)⟩
        by_cases hji : j = i
        · subst hji
          rw [h5, hdi]
          simpa [putσ] using hv'
        · have hLj' : L j = true := by
            simp only [updL1, Bool.or_eq_true, beq_iff_eq] at hLj
            exact hLj.resolve_right hji
          have hjl : j < l.length - 1 := by
            have hjlt := (List.getElem?_eq_some_iff.1 hj).1
            rcases Nat.lt_or_ge j (l.length - 1) with h | h
            · exact h
            · have : j = l.length - 1 := by omega
              subst this
              rw [hLl] at hLj'; cases hLj'
          obtain ⟨dj, hdj⟩ := hdst j oj hj hjl
          obtain ⟨h7, _⟩ := hdn j oj dj hj hdj
          have hsv := spAt_st sl j w' w'' _ (hv j oj hj hLj') hB'
          have hne : dj ≠ di := fun h => hji (hinj j i oj o dj hj hi hdj (by rw [hdi, h]))
          rw [h7] at hsv ⊢
          rw [hdi]
          simpa [putσ, hne] using hsv
      | true =>
        obtain ⟨hR, w1, hv1⟩ := hC hLl
        have hif : elemB i fl = true := by
          cases h : elemB i fl with
          | true => rfl
          | false => rw [hA hLl i hil' h] at hLi; cases hLi
        have hll : updL1 L i (l.length - 1) = true := by simp [updL1, hLl]
        have hno : ∀ e ∈ o.after, Region.binds .any e = true → elemB e.on fl = false := fun e he hbd => by
          have := List.all_eq_true.1 hnof i ((elemB_iff _ _).1 hif)
          simp only [hi, List.all_eq_true] at this
          have := this e (by simpa using he)
          simpa [hbd] using this
        refine stepOk_mono (hfl i hif o hi _ w' fun j hj => ?_) fun v w'' hw => ?_
        · obtain ⟨e, he, hej⟩ := List.any_eq_true.1 hj
          simp only [Bool.and_eq_true, beq_iff_eq] at hej
          obtain ⟨rfl, hbd⟩ := hej
          have he' : e ∈ o.after := by simpa using he
          have hei := hed i o hi e he' hbd
          have hj' := List.getElem?_eq_getElem (show e.on < l.length by omega)
          obtain ⟨d, hd⟩ := hdst e.on _ hj' (by omega)
          obtain ⟨h7, h8⟩ := hdn e.on _ d hj' hd
          have := hv1 e.on _ hj' (by omega) (hdone e he' hbd) (hno e he' hbd)
          rw [h7] at this
          rw [h7, hev σ d h8]
          exact ⟨w1, this⟩
        · subst hw
          have hnei : ∀ j d, elemB j fl = false → (l[j]?).bind (·.dst) = some d → d ≠ di := fun j d hjf hd h => by
            obtain ⟨oj, hoj, hdj⟩ := Option.bind_eq_some_iff.1 hd
            have := hinj j i oj o d hoj hi hdj (by rw [hdi, h])
            subst this
            rw [hif] at hjf; cases hjf
          refine ⟨hclosed, fun _ j hj hjf => by simp [updL1, hA hLl j hj hjf], fun h => (by rw [hll] at h; cases h), fun _ => ⟨fun σ2 h2 => hR σ2 fun j d hjf hd => ?_, w1, fun j oj hj hjl hLj hjf => ?_⟩⟩
          · rw [h2 j d hjf hd, hdi]
            simp [putσ, hnei j d hjf hd]
          · have hji : j ≠ i := fun h => by subst h; rw [hif] at hjf; cases hjf
            have hLj' : L j = true := by
              simp only [updL1, Bool.or_eq_true, beq_iff_eq] at hLj
              exact hLj.resolve_right hji
            obtain ⟨dj, hdj⟩ := hdst j oj hj hjl
            obtain ⟨h7, _⟩ := hdn j oj dj hj hdj
            have := hv1 j oj hj hjl hLj' hjf
            rw [h7] at this ⊢
            rw [hdi]
            have hne := hnei j dj hjf (by rw [hj]; exact hdj)
            simpa [putσ, hne] using this
  · rintro L σ w' hall ⟨_, _, _, hC⟩
    exact (hC (hall _ (by omega))).1 σ fun _ _ _ _ => rfl
/-- Part of an object's cells stored at once. -/
theorem op_store_part {P : Program} {w : World} {ρ : Operand → Value} {R : Value → World → Prop} {o : Oper} {ty : TypeId} {xo vo : Operand} (ho : o.op = .store ty xo vo) {g i : Nat} {T : TypeId} {cur cs new : Array Value} (hx : ρ xo = .pointer (some ⟨g, i, none⟩)) (hv : ρ vo = .agg cs)
    (hg : w.heap[g]? = some (.cells cur T (0, 0))) (hs : i + cs.size ≤ cur.size) (hi : (P.info? ty).map (·.size) = some cs.size) (h1 : ∀ v ∈ cs.toList, v.oneCell' = true) (hnew : (cur.toList.take i ++ cs.toList ++ cur.toList.drop (i + cs.size)).toArray = new) (h : R undef (w.setRow g new)) : OpOk P o ρ w R := by
  subst hnew
  have hr := run_storeVar_elem (P := P) w g i T ty cur cs hg hs hi h1
  unfold OpOk execOp
  simp only [ho, hx, hv, Instr.storeAt, Instr.sureAddr, Sem.run_bind, Sem.run_pure, Result.andThen_ok, hr]
  exact h
end Go.Proofs.Ytnbpcdnpdcfiiaa
