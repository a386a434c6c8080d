/- Drawn regions in a round of a range over a function. -/
import Derived.Test.YtclkkhpnnbkfmaaRegionChainL
import Derived.RangeFuncNested
import Derived.OwnWalkIn
import Derived.OrdersIn
namespace Go.Proofs.Ytclkkhpnnbkfmaa
open Go.RowKit

def noDefer (l : List Oper) : Bool := l.all fun o => match o.op with | .defer _ => false | _ => true
theorem noDefer_at {l : List Oper} (h : noDefer l = true) {i : Nat} {o : Oper} (hi : l[i]? = some o) : ∀ c, o.op ≠ .defer c := by
  intro c hc
  unfold noDefer at h
  rw [List.all_eq_true] at h
  have := h o (List.mem_of_getElem? hi)
  rw [hc] at this
  cases this
theorem opOk_wpR {lR nR : Nat} {P : Program} {o : Oper} {a : Act} {w : World} {R : Value → World → Prop} {K : Act → World → Prop} {Q : Exit → Act → World → Prop} (hd : ∀ c, o.op ≠ .defer c)
    (h : OpOk P o a.eval w R) (hK : ∀ v w', R v w' → K (a.put o.dst v) w') : o.wpIn (Fence.wide.inRound lR) nR P a w K Q := by
  unfold OpOk at h
  unfold Oper.wpIn
  refine ⟨fun _ _ => trivial, ?_⟩
  rw [Oper.semAt_plain _ _ _ hd]
  generalize (execOp a.eval o).run P w = r at *
  cases r with
  | ok n w' =>
    cases n <;> simp only [Oper.uponIn] at h ⊢
    case value v => exact hK _ _ h
    case skip => exact hK _ _ h
    case enter f args => exact ⟨(fun h => by cases h), (CallsIn.inRound lR (callsIn_wide.2 h)).mono fun e w'' ⟨v, he, hr⟩ => by subst he; exact hK _ _ hr⟩
  | halt x w' => exact h.elim

theorem wpR_region_inv {lR nR : Nat} {P : Program} {id : Nat} {l : List Oper} {Q : Exit → Act → World → Prop} {a : Act} {w : World} (hm : P.follows .mixedOrders = true)
    (J : (Nat → Bool) → (Nat → Value) → World → Prop) (hok : regionOk3 l a.tmps.size = true) (hnd0 : noDefer l = true)
    (h0 : J (fun _ => false) (fun t => a.tmps.getD t undef) { w with drawn := w.drawn + 1 })
    (hstep : ∀ (i : Nat) (o : Oper), l[i]? = some o → ∀ L σ w', L i = false → (∀ e ∈ o.after, Region.binds .any e = true → L e.on = true) → J L σ w' → StepOk P l.toArray o (upd a (dstsOf' l) σ).eval w' (fun v w'' => J (updL1 L i) (putσ σ o.dst v) w''))
    (hfin : ∀ L σ w', (∀ i, i < l.length → L i = true) → J L σ w' → Q .normal (upd a (dstsOf' l) σ) w') : (Code.region id l.toArray true).wpIn (Fence.wide.inRound lR) nR P Q a w := by
  simp only [regionOk3, Bool.and_eq_true, List.all_eq_true, decide_eq_true_eq] at hok
  obtain ⟨⟨⟨hlt, hnd⟩, hedge⟩, hgrd⟩ := hok
  have hed : ∀ (i : Nat) (o : Oper), l[i]? = some o → ∀ e ∈ o.after, Region.binds .any e = true → e.on < i := by
    intro i o hi e he hb
    have := hedge (o, i) (by rw [List.mem_zipIdx_iff_getElem?]; simpa using hi) e (by simpa using he)
    simpa [hb] using this
  refine wpIn_region_any hm ?_
  have key : ∀ (fuel : Nat) (listed : Array Bool) (L : Nat → Bool) (σ : Nat → Value) (w' : World), listed.size = l.length → (∀ j, L j = listed.getD j false) → ((List.range l.length).filter fun j => !listed.getD j true).length ≤ fuel →
      J L σ w' → wpAnyIn (Fence.wide.inRound lR) nR P .any l.toArray Q fuel listed (upd a (dstsOf' l) σ) w' := by
    intro fuel
    induction fuel with
    | zero =>
      intro listed L σ w' hsz hL hcnt hJ
      have hall : ∀ j, j < l.length → listed.getD j true = true := by
        intro j hj
        cases hl : listed.getD j true with
        | true => rfl
        | false =>
          have : j ∈ (List.range l.length).filter fun j => !listed.getD j true := List.mem_filter.2 ⟨List.mem_range.2 hj, by rw [hl]; rfl⟩
          rw [List.eq_nil_of_length_eq_zero (Nat.le_zero.1 hcnt)] at this
          cases this
      refine ⟨?_, ?_⟩
      · apply List.eq_nil_iff_forall_not_mem.2
        intro j hj
        obtain ⟨h1, o, ho, _⟩ := mem_ready.1 hj
        have hjl : j < l.length := by have := (Array.getElem?_eq_some_iff.1 ho).1; simpa using this
        rw [hall j hjl] at h1
        cases h1
      · refine hfin L σ w' (fun j hj => ?_) hJ
        have := hall j hj
        rw [hL]
        simp only [Array.getD_eq_getD_getElem?, Array.getElem?_eq_getElem (by omega : j < listed.size), Option.getD_some] at this ⊢
        exact this
    | succ fuel ih =>
      intro listed L σ w' hsz hL hcnt hJ
      refine ⟨fun hr => ?_, fun i hi => ?_⟩
      · have hall : ∀ n j, j ≤ n → j < l.length → listed.getD j true = true := by
          intro n
          induction n using Nat.strongRecOn with
          | _ n ihn =>
            intro j hjn hj
            cases hl : listed.getD j true with
            | true => rfl
            | false =>
              have : j ∈ Region.ready .any l.toArray listed := by
                refine mem_ready.2 ⟨hl, l[j], by simp [hj], fun e he hbd => ?_⟩
                have h1 := hed j l[j] (List.getElem?_eq_getElem hj) e he hbd
                have h2 := ihn e.on (by omega) e.on (Nat.le_refl _) (by omega)
                simp only [Array.getD_eq_getD_getElem?, Array.getElem?_eq_getElem (by omega : e.on < listed.size), Option.getD_some] at h2 ⊢
                exact h2
              rw [hr] at this
              cases this
        refine hfin L σ w' (fun j hj => ?_) hJ
        have := hall j j (Nat.le_refl _) hj
        rw [hL]
        simp only [Array.getD_eq_getD_getElem?, Array.getElem?_eq_getElem (by omega : j < listed.size), Option.getD_some] at this ⊢
        exact this
      · obtain ⟨hun, o, ho, hall⟩ := mem_ready.1 hi
        have ho' : l[i]? = some o := by simpa using ho
        have hil : i < l.length := (List.getElem?_eq_some_iff.1 ho').1
        have hLi : L i = false := by
          rw [hL]
          simp only [Array.getD_eq_getD_getElem?, Array.getElem?_eq_getElem (by omega : i < listed.size), Option.getD_some] at hun ⊢
          exact hun
        have hst := hstep i o ho' L σ w' hLi (fun e he hbd => by rw [hL]; exact hall e he hbd) hJ
        have next : ∀ v w'', J (updL1 L i) (putσ σ o.dst v) w'' → wpAnyIn (Fence.wide.inRound lR) nR P .any l.toArray Q fuel (listed.setIfInBounds i true) ((upd a (dstsOf' l) σ).put o.dst v) w'' := by
          intro v w'' hJ'
          rw [upd_put' a (dstsOf' l) σ o.dst v (fun d hd => List.mem_filterMap.2 ⟨o, List.mem_of_getElem? ho', hd⟩)]
          refine ih _ (updL1 L i) _ w'' (by simpa using hsz) (fun j => ?_) ?_ hJ'
          · simp only [updL1, hL, Array.getD_eq_getD_getElem?, Array.getElem?_setIfInBounds]
            by_cases hji : i = j
            · subst hji; simp [hsz, hil]
            · simp [hji, show ¬ j = i from fun h => hji h.symm]
          · refine Nat.lt_succ_iff.1 (Nat.lt_of_lt_of_le (filt_lt (i := i) (fun x hx => ?_) _ (List.mem_range.2 hil) (by rw [hun]; rfl) ?_) hcnt)
            · simp only [Array.getD_eq_getD_getElem?, Array.getElem?_setIfInBounds] at hx ⊢
              by_cases hxi : i = x
              · subst hxi; simp [hsz, hil] at hx
              · simpa [hxi] using hx
            · simp [hsz, hil]
        unfold wpOpIn
        simp only [ho]
        unfold StepOk at hst
        cases hg : o.guard with
        | none =>
          simp only [hg] at hst
          rw [if_pos (by simp [Region.wanted, hg])]
          exact opOk_wpR (noDefer_at hnd0 ho') hst fun v w'' h1 => next v w'' h1
        | some gw =>
          obtain ⟨g, want⟩ := gw
          simp only [hg] at hst
          obtain ⟨b, hev, hcase⟩ := hst
          have hgd : ((l.toArray[g]?).bind (·.dst)).isSome = true := by
            have hgi := hgrd (o, i) (by rw [List.mem_zipIdx_iff_getElem?]; simpa using ho')
            simp only [hg, Bool.and_eq_true] at hgi
            simpa using hgi.2
          have hy := yielded_eval l.toArray _ g b hgd hev
          cases hbw : (b == want) with
          | true =>
            have : b = want := by simpa using hbw
            subst this
            rw [if_pos (by simp [Region.wanted, hg, hy])]
            simp only [hbw, cond_true] at hcase
            exact opOk_wpR (noDefer_at hnd0 ho') hcase fun v w'' h1 => next v w'' h1
          | false =>
            have : b ≠ want := by simpa using hbw
            rw [if_neg (by simp [Region.wanted, hg, hy, this])]
            simp only [hbw, cond_false] at hcase
            exact ⟨fun _ _ => trivial, next undef w' hcase⟩
  have h1 := key l.length (Array.replicate l.length false) (fun _ => false) (fun t => a.tmps.getD t undef) { w with drawn := w.drawn + 1 } (by simp) (fun j => by
    simp only [Array.getD_eq_getD_getElem?, Array.getElem?_replicate]; split <;> rfl) (by simpa using List.length_filter_le _ (List.range l.length)) h0
  rw [upd_self] at h1
  exact h1

theorem wpR_region_chainL {lR nR : Nat} {P : Program} {id : Nat} {l : List Oper} {Q : Exit → Act → World → Prop} {a : Act} {w : World} (hm : P.follows .mixedOrders = true) (ks : List Nat) {T : World → World → Prop} (hT : Trel T) (sl : List (SpT T))
    (hok : regionOk3 l a.tmps.size = true) (hnd0 : noDefer l = true) (hfree : freeOkL l ks = true) (hchain : chained (chainOf l ks) = true) (hfinal : finalOk l ks = true) (hsteps : StepsL P l ks (stAt sl) T a w l 0)
    (hk : ChainOkL P l ks (stAt sl) T Q a w (chainOf l ks) (fun _ => undef) w) : (Code.region id l.toArray true).wpIn (Fence.wide.inRound lR) nR P Q a w := by
  have hok' := hok
  simp only [regionOk3, Bool.and_eq_true, List.all_eq_true, decide_eq_true_eq] at hok'
  obtain ⟨⟨⟨hlt, hnd⟩, hedge⟩, hgrd⟩ := hok'
  simp only [freeOkL, List.all_eq_true] at hfree
  have hinj : ∀ (i j : Nat) (oi oj : Oper) (d : Nat), l[i]? = some oi → l[j]? = some oj → oi.dst = some d → oj.dst = some d → i = j := by
    have hnd' := nodupB_spec hnd
    clear hok hnd0 hnd hedge hgrd hlt hsteps hfree hchain hfinal hk
    induction l with
    | nil => intro i j oi oj d hi; simp at hi
    | cons o l ih =>
      intro i j oi oj d hi hj hdi hdj
      have hmem : ∀ (k : Nat) (ok : Oper), l[k]? = some ok → ok.dst = some d → d ∈ dstsOf' l := fun k ok hk he => List.mem_filterMap.2 ⟨ok, List.mem_of_getElem? hk, he⟩
      have hcons : o.dst = some d → d ∉ dstsOf' l := by
        intro ho
        have : dstsOf' (o :: l) = d :: dstsOf' l := by simp [dstsOf', ho]
        rw [this, List.nodup_cons] at hnd'
        exact hnd'.1
      have htail : (dstsOf' l).Nodup := by
        have h2 : dstsOf' (o :: l) = (match o.dst with | some x => [x] | none => []) ++ dstsOf' l := by
          cases ho : o.dst <;> simp [dstsOf', ho]
        rw [h2] at hnd'
        exact (List.nodup_append.1 hnd').2.1
      cases i with
      | zero =>
        cases j with
        | zero => rfl
        | succ j =>
          simp at hi hj; subst hi
          exact absurd (hmem j oj hj hdj) (hcons hdi)
      | succ i =>
        cases j with
        | zero =>
          simp at hi hj; subst hj
          exact absurd (hmem i oi hi hdi) (hcons hdj)
        | succ j =>
          simp at hi hj
          rw [ih htail i j oi oj d hi hj hdi hdj]
  have hev : ∀ (σ : Nat → Value) (e : Edge) (i : Nat) (o : Oper), l[i]? = some o → e ∈ o.after → ∀ o', l[e.on]? = some o' → o'.dst.isSome = true → (upd a (dstsOf' l) σ).eval (.tmp (dstN l.toArray e.on)) = σ (dstN l.toArray e.on) := by
    intro σ e i o hi he o' ho' hs
    obtain ⟨d, hd⟩ := Option.isSome_iff_exists.1 hs
    have h5 : dstN l.toArray e.on = d := by simp [dstN, ho', hd]
    have h6 : d ∈ dstsOf' l := List.mem_filterMap.2 ⟨o', List.mem_of_getElem? ho', hd⟩
    rw [h5, upd_eval, if_pos (hlt d h6), if_pos ((elemB_iff _ _).2 h6)]
  have hout : ∀ (σ : Nat → Value) t, elemB t (dstsOf' l) = false → (upd a (dstsOf' l) σ).eval (.tmp t) = a.tmps.getD t undef := by
    intro σ t ht
    rw [upd_eval]
    split
    · rw [if_neg (by rw [ht]; simp)]
    · rename_i h
      simp [Array.getD_eq_getD_getElem?, Array.getElem?_eq_none (Nat.not_lt.1 h)]
  have heon : ∀ (i : Nat) (o : Oper), l[i]? = some o → ∀ e ∈ o.after, Region.binds .any e = true → ∃ o', l[e.on]? = some o' := by
    intro i o hi e he hbd
    have h2 := hedge (o, i) (by rw [List.mem_zipIdx_iff_getElem?]; simpa using hi) e (by simpa using he)
    have h3 : i < l.length := (List.getElem?_eq_some_iff.1 hi).1
    have h4 : e.on < l.length := by simp [hbd] at h2; omega
    exact ⟨l[e.on], List.getElem?_eq_getElem h4⟩
  have hfr : ∀ (i : Nat) (o : Oper), l[i]? = some o → elemB i ks = false → o.dst.isSome = true := by
    intro i o hi hf
    have h2 := hfree (o, i) (by rw [List.mem_zipIdx_iff_getElem?]; simpa using hi)
    simpa only [hf, Bool.false_or] using h2
  obtain ⟨il, ol, hil, hol, hpreds⟩ : ∃ il ol, (il, ol) ∈ chainOf l ks ∧ il + 1 = l.length ∧ ∀ j, j < il → (∃ e ∈ ol.after, e.on = j ∧ Region.binds .any e = true) ∨ ∃ k o, l[k]? = some o ∧ j < k ∧ ∃ e ∈ o.after, e.on = j ∧ Region.binds .any e = true := by
    unfold finalOk at hfinal
    split at hfinal
    · cases hfinal
    · next il ol hg =>
      simp only [Bool.and_eq_true, beq_iff_eq, List.all_eq_true, List.mem_range, Bool.or_eq_true, List.any_eq_true, decide_eq_true_eq] at hfinal
      refine ⟨il, ol, List.mem_of_getLast? hg, hfinal.1, fun j hj => ?_⟩
      rcases hfinal.2 j hj with ⟨e, he, h1, h2⟩ | ⟨⟨o, k⟩, hm, hjk, e, he, h1, h2⟩
      · exact .inl ⟨e, by simpa using he, h1, h2⟩
      · exact .inr ⟨k, o, by rw [List.mem_zipIdx_iff_getElem?] at hm; simpa using hm, hjk, e, by simpa using he, h1, h2⟩
  have hlastdone : ∀ (L : Nat → Bool), (∀ j o, l[j]? = some o → L j = true → ∀ e ∈ o.after, Region.binds .any e = true → L e.on = true) → L il = true → ∀ j, j < l.length → L j = true := by
    intro L hclo hL
    have hilo : l[il]? = some ol := (chainOf_mem.1 hil).1
    have key : ∀ n j, il - j ≤ n → j ≤ il → L j = true := by
      intro n
      induction n with
      | zero => intro j h1 h2; rw [show j = il by omega]; exact hL
      | succ n ih =>
        intro j h1 h2
        by_cases hji : j = il
        · rw [hji]; exact hL
        · rcases hpreds j (by omega) with ⟨e, he, rfl, hb⟩ | ⟨k, o, hk, hjk, e, he, rfl, hb⟩
          · exact hclo il ol hilo hL e he hb
          · have hkl : k < l.length := (List.getElem?_eq_some_iff.1 hk).1
            exact hclo k o hk (ih k (by omega) (by omega)) e he hb
    intro j hj
    exact key il j (by omega) (by omega)
  refine wpR_region_inv (hnd0 := hnd0) hm (fun L σ w' => (L il = false → T w w') ∧ (∀ j o, l[j]? = some o → L j = true → ∀ e ∈ o.after, Region.binds .any e = true → L e.on = true) ∧ (∀ j o d, l[j]? = some o → o.dst = some d → L j = false → σ d = a.tmps.getD d undef) ∧ (L il = false → ∀ j o, l[j]? = some o → elemB j ks = false → L j = true → stAt sl j w' (σ (dstN l.toArray j))) ∧
    ∃ pre post κ w1, chainOf l ks = pre ++ post ∧ (∀ p ∈ pre, L p.1 = true) ∧ (∀ p ∈ post, L p.1 = false) ∧ (∀ p ∈ pre, ∀ d, p.2.dst = some d → σ d = κ d) ∧ Below w1.heap.size w1 w' ∧
      ChainOkL P l ks (stAt sl) T Q a w post κ w1) hok ?_ ?_ ?_
  · have hb : Below w.heap.size w { w with drawn := w.drawn + 1 } := ⟨rfl, rfl, rfl, Nat.le_refl _, fun _ _ => rfl⟩
    exact ⟨fun _ => hT.of hb, fun j o _ h => (by cases h), fun _ _ _ _ _ _ => rfl, fun _ j o _ _ h => (by cases h), [], chainOf l ks, fun _ => undef, w, rfl, by simp, fun _ _ => rfl, by simp, hb, hk⟩
  · intro i o hi L σ w' hLi hdone hJ
    obtain ⟨hTw, hclo, hold, hS, pre, post, κ, w1, hch, hpre, hpost, hκ, hb1, hC⟩ := hJ
    have hnl : L il = false := by
      cases hx : L il with
      | false => rfl
      | true => rw [hlastdone L hclo hx i (List.getElem?_eq_some_iff.1 hi).1] at hLi; cases hLi
    have hTw := hTw hnl
    have hS := hS hnl
    have hclo' : ∀ j oj, l[j]? = some oj → updL1 L i j = true → ∀ e ∈ oj.after, Region.binds .any e = true → updL1 L i e.on = true := by
      intro j oj hj hLj e he hbd
      by_cases hji : i = j
      · subst hji
        rw [hi] at hj; cases hj
        simp [updL1, hdone e he hbd]
      · have hLj' : L j = true := by
          simp only [updL1, Bool.or_eq_true, beq_iff_eq] at hLj
          rcases hLj with h | h
          · exact h
          · exact absurd h.symm hji
        simp [updL1, hclo j oj hj hLj' e he hbd]
    have hold' : ∀ v j oj d, l[j]? = some oj → oj.dst = some d → updL1 L i j = false → putσ σ o.dst v d = a.tmps.getD d undef := by
      intro v j oj d hj hd hLj
      simp only [updL1, Bool.or_eq_false_iff, beq_eq_false_iff_ne] at hLj
      have h1 := hold j oj d hj hd hLj.1
      cases hdo : o.dst with
      | none => simpa [putσ] using h1
      | some d0 =>
        have hne : d ≠ d0 := fun h => hLj.2 (hinj i j o oj d0 hi hj hdo (by rw [hd, h])).symm
        simpa [putσ, hne] using h1
    have holdE : ∀ (j d : Nat), (l[j]?).bind (·.dst) = some d → ((l[j]?).map fun x => x.after.toList.any fun e => e.on == i && Region.binds .any e) = some true → (upd a (dstsOf' l) σ).eval (.tmp d) = a.tmps.getD d undef := by
      intro j d hd he
      cases hj : l[j]? with
      | none => rw [hj] at hd; cases hd
      | some oj =>
        rw [hj] at hd he
        have hd : oj.dst = some d := hd
        simp only [Option.map_some, Option.some.injEq] at he
        obtain ⟨e, he1, he2⟩ := List.any_eq_true.1 he
        simp only [Bool.and_eq_true, beq_iff_eq] at he2
        obtain ⟨he2, hbd⟩ := he2
        have hLj : L j = false := by
          cases hx : L j with
          | false => rfl
          | true =>
            have := hclo j oj hj hx e (by simpa using he1) hbd
            rw [he2, hLi] at this; cases this
        have h6 : d ∈ dstsOf' l := List.mem_filterMap.2 ⟨oj, List.mem_of_getElem? hj, hd⟩
        rw [upd_eval, if_pos (hlt d h6), if_pos ((elemB_iff _ _).2 h6)]
        exact hold j oj d hj hd hLj
    cases hik : elemB i ks with
    | false =>
      have hds := hfr i o hi hik
      obtain ⟨d, hd⟩ := Option.isSome_iff_exists.1 hds
      have hdn : dstN l.toArray i = d := by simp [dstN, hi, hd]
      have hst := stepsL_at l 0 hsteps i o hi (by rwa [Nat.zero_add]) (upd a (dstsOf' l) σ).eval w' ⟨hTw, by rw [Nat.zero_add]; exact holdE, ?_, hout σ, fun _ => rfl, fun _ => rfl⟩
      · rw [Nat.zero_add] at hst
        refine stepOk_mono hst fun v w'' ⟨hb2, hSi⟩ => ?_
        have hT2 := hT.of hb2
        refine ⟨fun _ => hT.trans hTw hT2, hclo', hold' v, fun _ j oj hj hjf hLj => ?_, pre, post, κ, w1, hch, fun p hp => ?_, fun p hp => ?_, fun p hp dp hdp => ?_, bthen hb1 hb2 (Nat.le_refl _), hC⟩
        · by_cases hji : i = j
          · subst hji
            rw [hi] at hj; cases hj
            rw [hdn, hd]
            simpa [putσ] using hSi
          · have hLj' : L j = true := by
              simp only [updL1, Bool.or_eq_true, beq_iff_eq] at hLj
              rcases hLj with h | h
              · exact h
              · exact absurd h.symm hji
            have hSj := stAt_st sl j w' w'' _ (hS j oj hj hjf hLj') hT2
            obtain ⟨dj, hdj⟩ := Option.isSome_iff_exists.1 (hfr j oj hj hjf)
            have hnj : dstN l.toArray j = dj := by simp [dstN, hj, hdj]
            have hne : dj ≠ d := fun h => hji (hinj i j o oj d hi hj hd (by rw [hdj, h]))
            rw [hnj] at hSj ⊢
            rw [hd]
            simpa [putσ, hne] using hSj
        · simp [updL1, hpre p hp]
        · have hpk := (chainOf_mem.1 (show p ∈ chainOf l ks by rw [hch]; simp [hp])).2
          have : p.1 ≠ i := fun h => by rw [h, hik] at hpk; cases hpk
          simp [updL1, hpost p hp, this]
        · have hpm := chainOf_mem.1 (show p ∈ chainOf l ks by rw [hch]; simp [hp])
          have hne : dp ≠ d := fun h => by
            have := hinj i p.1 o p.2 d hi hpm.1 hd (by rw [hdp, h])
            rw [← this, hik] at hpm; cases hpm.2
          rw [hd]
          simp only [putσ, if_neg hne]
          exact hκ p hp dp hdp
      · intro j hj hf
        obtain ⟨e, he, hej⟩ := List.any_eq_true.1 hj
        simp only [Bool.and_eq_true, beq_iff_eq] at hej
        obtain ⟨rfl, hbd⟩ := hej
        have he' : e ∈ o.after := by simpa using he
        obtain ⟨o', ho'⟩ := heon i o hi e he' hbd
        rw [hev σ e i o hi he' o' ho' (hfr e.on o' ho' hf)]
        exact hS e.on o' ho' hf (hdone e he' hbd)
    | true =>
      have hmem : (i, o) ∈ chainOf l ks := chainOf_mem.2 ⟨hi, hik⟩
      have hpm : (i, o) ∈ post := by
        rw [hch] at hmem
        rcases List.mem_append.1 hmem with h | h
        · have := hpre _ h; simp only at this; rw [hLi] at this; cases this
        · exact h
      cases post with
      | nil => cases hpm
      | cons x r =>
        have hx : x = (i, o) := by
          rcases List.mem_cons.1 hpm with h | h
          · exact h.symm
          · exfalso
            rw [hch] at hchain
            obtain ⟨z, hz, h2⟩ := chained_head pre x r hchain _ h
            obtain ⟨e, he, hez⟩ := List.any_eq_true.1 h2
            simp only [Bool.and_eq_true, beq_iff_eq] at hez
            obtain ⟨hez, hbd⟩ := hez
            have h3 := hdone e (by simpa using he) hbd
            rw [hez, hpost z hz] at h3
            cases h3
        subst hx
        have hst := hC (upd a (dstsOf' l) σ).eval w' hb1 ⟨hTw, holdE, ?_, ?_, hout σ, fun _ => rfl, fun _ => rfl⟩
        · refine stepOk_mono hst fun v w'' ⟨hT2, hC2⟩ => ?_
          have hndp := chainOf_nodup l ks
          rw [hch, List.map_append, List.map_cons, List.nodup_append] at hndp
          have hT2' : updL1 L i il = false → T w' w'' := by
            intro hn
            cases r with
            | nil =>
              exfalso
              rw [hch] at hil
              rcases List.mem_append.1 hil with h | h
              · rw [hpre _ h] at hnl; cases hnl
              · simp only [List.mem_singleton, Prod.mk.injEq] at h
                rw [h.1] at hn
                simp [updL1] at hn
            | cons _ _ => exact hT2
          refine ⟨fun hn => hT.trans hTw (hT2' hn), hclo', hold' v, fun hn j oj hj hjf hLj => ?_, pre ++ [(i, o)], r, putσ κ o.dst v, w'', by rw [hch]; simp, fun p hp => ?_, fun p hp => ?_, fun p hp dp hdp => ?_, Below.refl _ _, hC2⟩
          · have hji : i ≠ j := fun h => by rw [h, hjf] at hik; cases hik
            have hLj' : L j = true := by
              simp only [updL1, Bool.or_eq_true, beq_iff_eq] at hLj
              rcases hLj with h | h
              · exact h
              · exact absurd h.symm hji
            have hSj := stAt_st sl j w' w'' _ (hS j oj hj hjf hLj') (hT2' hn)
            obtain ⟨dj, hdj⟩ := Option.isSome_iff_exists.1 (hfr j oj hj hjf)
            have hnj : dstN l.toArray j = dj := by simp [dstN, hj, hdj]
            rw [hnj] at hSj ⊢
            cases hd : o.dst with
            | none => simpa [putσ] using hSj
            | some d =>
              have hne : dj ≠ d := fun h => hji (hinj i j o oj d hi hj hd (by rw [hdj, h]))
              simpa [putσ, hne] using hSj
          · rcases List.mem_append.1 hp with h | h
            · simp [updL1, hpre p h]
            · simp only [List.mem_singleton] at h; subst h; simp [updL1]
          · have h1 := hpost p (List.mem_cons_of_mem _ hp)
            have : p.1 ≠ i := fun h => by
              have h2 := (List.nodup_cons.1 hndp.2.1).1
              exact h2 (List.mem_map.2 ⟨p, hp, h⟩)
            simp [updL1, h1, this]
          · rcases List.mem_append.1 hp with h | h
            · have hpm := chainOf_mem.1 (show p ∈ chainOf l ks by rw [hch]; simp [h])
              have h4 := hκ p h dp hdp
              cases hd : o.dst with
              | none => simpa [putσ] using h4
              | some d =>
                have hne : dp ≠ d := fun h5 => by
                  have h6 := hinj i p.1 o p.2 d hi hpm.1 hd (by rw [hdp, h5])
                  have h7 := hpre p h
                  rw [← h6, hLi] at h7; cases h7
                simpa [putσ, hne] using h4
            · simp only [List.mem_singleton] at h; subst h
              simp only at hdp
              rw [hdp]; simp [putσ]
        · intro j hj hjf
          obtain ⟨e, he, hej⟩ := List.any_eq_true.1 hj
          simp only [Bool.and_eq_true, beq_iff_eq] at hej
          obtain ⟨rfl, hbd⟩ := hej
          have he' : e ∈ o.after := by simpa using he
          obtain ⟨o', ho'⟩ := heon i o hi e he' hbd
          rw [hev σ e i o hi he' o' ho' (hfr e.on o' ho' hjf)]
          exact hS e.on o' ho' hjf (hdone e he' hbd)
        · intro j d' hj hjf hd'
          obtain ⟨e, he, hej⟩ := List.any_eq_true.1 hj
          simp only [Bool.and_eq_true, beq_iff_eq] at hej
          obtain ⟨rfl, hbd⟩ := hej
          have he' : e ∈ o.after := by simpa using he
          obtain ⟨o', ho'⟩ := heon i o hi e he' hbd
          rw [ho'] at hd'
          have hd' : o'.dst = some d' := hd'
          have hm2 : (e.on, o') ∈ chainOf l ks := chainOf_mem.2 ⟨ho', hjf⟩
          have hpr : (e.on, o') ∈ pre := by
            rw [hch] at hm2
            rcases List.mem_append.1 hm2 with h | h
            · exact h
            · have h1 := hpost _ h; simp only at h1; rw [hdone e he' hbd] at h1; cases h1
          have hdn' : dstN l.toArray e.on = d' := by simp [dstN, ho', hd']
          have h9 := hev σ e i o hi he' o' ho' (by rw [hd']; rfl)
          rw [hdn'] at h9
          rw [h9]
          exact hκ _ hpr d' hd'
  · intro L σ w' hall hJ
    obtain ⟨hTw, hclo, hold, hS, pre, post, κ, w1, hch, hpre, hpost, hκ, hb1, hC⟩ := hJ
    cases post with
    | nil =>
      rw [List.append_nil] at hch
      refine hC σ w' hb1 fun j d hj hd => ?_
      cases ho : l[j]? with
      | none => rw [ho] at hd; cases hd
      | some o =>
        rw [ho] at hd
        exact hκ (j, o) (by rw [← hch]; exact chainOf_mem.2 ⟨ho, hj⟩) d hd
    | cons x r =>
      exfalso
      have hxm := chainOf_mem.1 (show x ∈ chainOf l ks by rw [hch]; simp)
      have h1 := hpost x (by simp)
      rw [hall x.1 (List.getElem?_eq_some_iff.1 hxm.1).1] at h1
      cases h1
end Go.Proofs.Ytclkkhpnnbkfmaa
