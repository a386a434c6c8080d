/- A region that draws its order, whose last operation waits for all others: these only add to memory; the last one is walked as it stands. -/
import Derived.Test.YtmaagkdehdmhlaaRegion
namespace Go.Proofs.Ytmaagkdehdmhlaa
open Go.RowKit

/-- Each operation of l has one behind it that waits for it; the last one is not guarded. -/
def lastOk (l : List Oper) (ol : Oper) : Bool :=
  ol.guard.isNone && (ol.after.toList.all fun e => decide (e.on < l.length) && Region.binds .any e) &&
    (List.range l.length).all fun j => ol.after.toList.any (fun e => e.on == j) || (l.zipIdx.any fun (o, k) => decide (j < k) && o.after.toList.any fun e => e.on == j)

theorem wp_region_last {P : Program} {id : Nat} {l : List Oper} {ol : Oper} {Q : Exit → Act → World → Prop} {a : Act} {w : World} (hm : P.follows .mixedOrders = true) (sl : List Sp)
    (hok : regionOk l a.tmps.size = true) (hlast : lastOk l ol = true) (hstep : StepsOk P l sl a w l 0)
    (hfin : ∀ σ w', Below w.heap.size w w' → AllOk l.toArray (spAt sl) w' σ l 0 → wpList P (l ++ [ol]).toArray Q [ol] (upd a (dstsOf' l) σ) w') : (Code.region id (l ++ [ol]).toArray true).wp P Q a w := by
  have hok' := hok
  simp only [regionOk, Bool.and_eq_true, List.all_eq_true, decide_eq_true_eq] at hok'
  obtain ⟨⟨⟨⟨hsome, hlt⟩, hnd⟩, hedge⟩, hgrd⟩ := hok'
  simp only [lastOk, Bool.and_eq_true, List.all_eq_true, decide_eq_true_eq, Bool.or_eq_true, List.any_eq_true, beq_iff_eq] at hlast
  obtain ⟨⟨hog, hoe⟩, hsucc⟩ := hlast
  have hinj := filterMap_inj hsome (nodupB_spec hnd)
  have hdst : ∀ (i : Nat) (o : Oper), l[i]? = some o → ∃ d, o.dst = some d ∧ d ∈ dstsOf' l ∧ dstN l.toArray i = d := by
    intro i o hi
    have ho := hsome o (List.mem_of_getElem? hi)
    obtain ⟨d, hd⟩ := Option.isSome_iff_exists.1 ho
    exact ⟨d, hd, List.mem_filterMap.2 ⟨o, List.mem_of_getElem? hi, hd⟩, by simp [dstN, hi, hd]⟩
  have hed : ∀ (i : Nat) (o : Oper), l[i]? = some o → ∀ e ∈ o.after, e.on < i ∧ Region.binds .any e = true := by
    intro i o hi e he
    exact hedge (o, i) (by rw [List.mem_zipIdx_iff_getElem?]; simpa using hi) e (by simpa using he)
  have hget : ∀ i, i < l.length → (l ++ [ol]).toArray[i]? = l[i]? := by intro i hi; simp [List.getElem?_append_left hi]
  have hgetl : (l ++ [ol]).toArray[l.length]? = some ol := by simp
  have hstepS : ∀ (i : Nat) (o : Oper), l[i]? = some o → ∀ σ w', Below w.heap.size w w' → PreOk l.toArray (spAt sl) w' σ o.after.toList → StepOk P l.toArray o (upd a (dstsOf' l) σ).eval w' (fun v w'' => Below w'.heap.size w' w'' ∧ spAt sl i w'' v) := by
    intro i o hi σ w' hb hp
    have := stepsOk_at l 0 hstep i o hi (upd a (dstsOf' l) σ).eval w' ⟨hb, ?_, ?_, fun _ => rfl, fun _ => rfl⟩
    · rwa [Nat.zero_add] at this
    · intro j hj
      obtain ⟨e, he, hej⟩ := List.any_eq_true.1 hj
      have hej : e.on = j := by simpa using hej
      subst hej
      have h1 := preOk_mem _ hp e he
      have h2 := hedge (o, i) (by rw [List.mem_zipIdx_iff_getElem?]; simpa using hi) e he
      have h3 : i < l.length := (List.getElem?_eq_some_iff.1 hi).1
      have h4 : e.on < l.length := by have := h2.1; simp at this; omega
      obtain ⟨d, hd⟩ := Option.isSome_iff_exists.1 (hsome l[e.on] (List.getElem_mem h4))
      have h5 : dstN l.toArray e.on = d := by simp [dstN, List.getElem?_eq_getElem h4, hd]
      have h6 : d ∈ dstsOf' l := List.mem_filterMap.2 ⟨l[e.on], List.getElem_mem h4, hd⟩
      rw [h5] at h1 ⊢
      rw [upd_eval, if_pos (hlt d h6), if_pos ((elemB_iff _ _).2 h6)]
      exact h1
    · intro t ht
      rw [upd_eval]
      split
      · rw [if_neg (by rw [ht]; simp)]
      · rename_i h
        simp [Array.getD_eq_getD_getElem?, Array.getElem?_eq_none (Nat.not_lt.1 h)]
  refine wp_region_any hm ?_
  have key : ∀ (fuel : Nat) (listed : Array Bool) (σ : Nat → Value) (w' : World), listed.size = l.length + 1 → listed.getD l.length true = false → ((List.range (l.length + 1)).filter fun j => !listed.getD j true).length ≤ fuel →
      Below w.heap.size w w' → (∀ (j : Nat) (o : Oper), l[j]? = some o → listed.getD j false = true → spAt sl j w' (σ (dstN l.toArray j))) →
      (∀ (j : Nat) (o : Oper), l[j]? = some o → listed.getD j false = true → ∀ e ∈ o.after, listed.getD e.on false = true) → wpAny P .any (l ++ [ol]).toArray Q fuel listed (upd a (dstsOf' l) σ) w' := by
    intro fuel
    induction fuel with
    | zero =>
      intro listed σ w' hsz hun hcnt
      have : l.length ∈ (List.range (l.length + 1)).filter fun j => !listed.getD j true := List.mem_filter.2 ⟨List.mem_range.2 (by omega), by rw [hun]; rfl⟩
      rw [List.eq_nil_of_length_eq_zero (Nat.le_zero.1 hcnt)] at this
      cases this
    | succ fuel ih =>
      intro listed σ w' hsz hun hcnt hb hS hcl
      have hdd : ∀ j, j < l.length + 1 → listed.getD j true = listed.getD j false := by
        intro j hj
        simp only [Array.getD_eq_getD_getElem?, Array.getElem?_eq_getElem (by omega : j < listed.size), Option.getD_some]
      refine ⟨fun hr => ?_, fun i hi => ?_⟩
      · -- something is ready
        exfalso
        have hall : ∀ n j, j ≤ n → j < l.length → listed.getD j true = true := by
          intro n
          induction n using Nat.strongRecOn with
          | _ n ihn =>
            intro j hjn hj
            cases hl : listed.getD j true with
            | true => rfl
            | false =>
              have : j ∈ Region.ready .any (l ++ [ol]).toArray listed := by
                refine mem_ready.2 ⟨hl, l[j], by rw [hget j hj]; simp [hj], fun e he _ => ?_⟩
                have h1 := (hed j l[j] (List.getElem?_eq_getElem hj) e he).1
                have h2 := ihn e.on (by omega) e.on (Nat.le_refl _) (by omega)
                rw [← hdd e.on (by omega)]; exact h2
              rw [hr] at this
              cases this
        have : l.length ∈ Region.ready .any (l ++ [ol]).toArray listed := by
          refine mem_ready.2 ⟨hun, ol, hgetl, fun e he _ => ?_⟩
          have h1 := hoe e (by simpa using he)
          rw [← hdd e.on (by omega)]
          exact hall _ e.on (Nat.le_refl _) h1.1
        rw [hr] at this
        cases this
      · obtain ⟨hui, o, ho, hall⟩ := mem_ready.1 hi
        by_cases hil : i < l.length
        · have ho' : l[i]? = some o := by rwa [hget i hil] at ho
          obtain ⟨d, hd, hdm, hdn⟩ := hdst i o ho'
          have hst := hstepS i o ho' σ w' hb (preOk_of _ fun e he => by
            have he' : e ∈ o.after := by simpa using he
            have h1 := hed i o ho' e he'
            exact hS e.on l[e.on] (List.getElem?_eq_getElem (by omega)) (hall e he' h1.2))
          have next : ∀ v w'', Below w'.heap.size w' w'' → spAt sl i w'' v → wpAny P .any (l ++ [ol]).toArray Q fuel (listed.setIfInBounds i true) ((upd a (dstsOf' l) σ).put o.dst v) w'' := by
            intro v w'' hb2 hSi
            rw [hd, upd_put _ _ _ _ _ hdm]
            refine ih _ _ w'' (by simpa using hsz) ?_ ?_ (bthen hb hb2 (Nat.le_refl _)) ?_ ?_
            · simp only [Array.getD_eq_getD_getElem?, Array.getElem?_setIfInBounds] at hun ⊢
              rw [if_neg (by omega)]; exact hun
            · refine Nat.lt_succ_iff.1 (Nat.lt_of_lt_of_le (filt_lt (i := i) (fun x hx => ?_) _ (List.mem_range.2 (by omega)) (by rw [hui]; rfl) ?_) hcnt)
              · simp only [Array.getD_eq_getD_getElem?, Array.getElem?_setIfInBounds] at hx ⊢
                by_cases hxi : i = x
                · subst hxi; simp [show i < listed.size by omega] at hx
                · simpa [hxi] using hx
              · simp [show i < listed.size by omega]
            · intro j oj hj hlj
              obtain ⟨dj, hdj, hdjm, hdjn⟩ := hdst j oj hj
              by_cases hji : i = j
              · subst hji
                rw [hdn]
                simpa using hSi
              · have hne : dj ≠ d := fun h => hji (hinj i j o oj ho' hj (by rw [hd, hdj, h]))
                rw [hdjn]
                simp only [if_neg hne]
                rw [← hdjn]
                refine spAt_st sl j w' w'' _ (hS j oj hj ?_) hb2
                simpa [Array.getD_eq_getD_getElem?, Array.getElem?_setIfInBounds, hji] using hlj
            · intro j oj hj hlj e he
              have up : ∀ k, listed.getD k false = true → (listed.setIfInBounds i true).getD k false = true := by
                intro k hk
                simp only [Array.getD_eq_getD_getElem?, Array.getElem?_setIfInBounds] at hk ⊢
                by_cases hik : i = k
                · subst hik; simp [show i < listed.size by omega]
                · simpa [hik] using hk
              by_cases hji : i = j
              · subst hji
                rw [ho'] at hj
                cases hj
                exact up _ (hall e he (hed i o ho' e he).2)
              · exact up _ (hcl j oj hj (by simpa [Array.getD_eq_getD_getElem?, Array.getElem?_setIfInBounds, hji] using hlj) e he)
          unfold wpOp
          simp only [ho]
          unfold StepOk at hst
          cases hg : o.guard with
          | none =>
            simp only [hg] at hst
            rw [if_pos (by simp [Region.wanted, hg])]
            exact .inl (opOk_wp hst fun v w'' ⟨h1, h2⟩ => next v w'' h1 h2)
          | some gw =>
            obtain ⟨g, want⟩ := gw
            simp only [hg] at hst
            obtain ⟨b, hev, hcase⟩ := hst
            have hgi : g < i := by
              have := hgrd (o, i) (by rw [List.mem_zipIdx_iff_getElem?]; simpa using ho')
              simpa [hg] using this
            have hgd : (((l ++ [ol]).toArray[g]?).bind (·.dst)).isSome = true := by
              obtain ⟨dg, hdg, _⟩ := hdst g l[g] (List.getElem?_eq_getElem (by omega))
              rw [hget g (by omega)]
              simp [List.getElem?_eq_getElem (show g < l.length by omega), hdg]
            have hdg : dstN (l ++ [ol]).toArray g = dstN l.toArray g := by
              unfold dstN; rw [hget g (by omega)]; simp
            have hy := yielded_eval (l ++ [ol]).toArray _ g b hgd (by rw [hdg]; exact hev)
            cases hbw : (b == want) with
            | true =>
              have : b = want := by simpa using hbw
              subst this
              rw [if_pos (by simp [Region.wanted, hg, hy])]
              simp only [hbw, cond_true] at hcase
              exact .inl (opOk_wp hcase fun v w'' ⟨h1, h2⟩ => next v w'' h1 h2)
            | false =>
              have : b ≠ want := by simpa using hbw
              rw [if_neg (by simp [Region.wanted, hg, hy, this])]
              simp only [hbw, cond_false] at hcase
              exact next undef w' hcase.1 hcase.2
        · -- the last one
          have hin : i = l.length := by
            have := (Array.getElem?_eq_some_iff.1 ho).1
            simp at this
            omega
          subst hin
          rw [hgetl] at ho
          cases ho
          have hallj : ∀ n j, l.length ≤ n + j → j < l.length → listed.getD j false = true := by
            intro n
            induction n with
            | zero => intro j h1 h2; omega
            | succ n ihn =>
              intro j h1 h2
              rcases hsucc j (List.mem_range.2 h2) with ⟨e, he, hej⟩ | ⟨⟨o, k⟩, hk, hjk, e, he, hej⟩
              · subst hej
                exact hall e (by simpa using he) (hoe e he).2
              · subst hej
                have hk' : l[k]? = some o := by rw [List.mem_zipIdx_iff_getElem?] at hk; simpa using hk
                have hkl := (List.getElem?_eq_some_iff.1 hk').1
                exact hcl k o hk' (ihn k (by omega) hkl) e (by simpa using he)
          have hf := hfin σ w' hb (allOk_of l 0 fun j hj => by
            rw [Nat.zero_add]
            exact hS j _ (List.getElem?_eq_getElem hj) (hallj l.length j (by omega) hj))
          have hnil : Region.ready .any (l ++ [ol]).toArray (listed.setIfInBounds l.length true) = [] := by
            apply List.eq_nil_iff_forall_not_mem.2
            intro j hj
            obtain ⟨h1, o, ho, _⟩ := mem_ready.1 hj
            have hjl : j < l.length + 1 := by have := (Array.getElem?_eq_some_iff.1 ho).1; simpa using this
            simp only [Array.getD_eq_getD_getElem?, Array.getElem?_setIfInBounds] at h1
            by_cases hjn : l.length = j
            · subst hjn; simp [show l.length < listed.size by omega] at h1
            · have h2 := hallj l.length j (by omega) (by omega)
              simp only [Array.getD_eq_getD_getElem?] at h2
              rw [if_neg hjn] at h1
              rw [Array.getElem?_eq_getElem (by omega : j < listed.size)] at h1 h2
              simp only [Option.getD_some] at h1 h2
              rw [h1] at h2
              cases h2
          have hend : ∀ a w, wpList P (l ++ [ol]).toArray Q [] a w → wpAny P .any (l ++ [ol]).toArray Q fuel (listed.setIfInBounds l.length true) a w := by
            intro a w h
            have h : Q .normal a w := h
            cases fuel with
            | zero => exact ⟨hnil, h⟩
            | succ fuel => exact ⟨fun _ => h, fun i hi => by rw [hnil] at hi; cases hi⟩
          have hgn : ol.guard = none := by cases hg : ol.guard with
            | none => rfl
            | some g => rw [hg] at hog; cases hog
          unfold wpOp
          simp only [hgetl]
          unfold wpList at hf
          rw [if_pos (by simp [Region.wanted, hgn])] at hf ⊢
          exact hf.imp (Oper.wp_mono hend) fun h => h
  have h0 := key (l.length + 1) (Array.replicate (l.length + 1) false) (fun t => a.tmps.getD t undef) { w with drawn := w.drawn + 1 } (by simp) (by simp) (by simpa using List.length_filter_le _ (List.range (l.length + 1)))
    ⟨rfl, rfl, rfl, Nat.le_refl _, fun _ _ => rfl⟩ (fun j o hj hl => by
      simp only [Array.getD_eq_getD_getElem?, Array.getElem?_replicate] at hl
      split at hl <;> simp at hl) (fun j o hj hl => by
      simp only [Array.getD_eq_getD_getElem?, Array.getElem?_replicate] at hl
      split at hl <;> simp at hl)
  rw [upd_self] at h0
  simpa using h0

def lastSplit : List Oper → Option (List Oper × Oper)
  | [] => none
  | [o] => some ([], o)
  | o :: o' :: os => (lastSplit (o' :: os)).map fun x => (o :: x.1, x.2)
theorem lastSplit_eq : ∀ (ops : List Oper) (l : List Oper) (ol : Oper), lastSplit ops = some (l, ol) → ops = l ++ [ol]
  | [], _, _, h => by simp [lastSplit] at h
  | [o], _, _, h => by simp only [lastSplit, Option.some.injEq, Prod.mk.injEq] at h; obtain ⟨rfl, rfl⟩ := h; rfl
  | o :: o' :: os, l, ol, h => by
    simp only [lastSplit] at h
    cases hs : lastSplit (o' :: os) with
    | none => rw [hs] at h; cases h
    | some x =>
      rw [hs] at h
      simp only [Option.map_some, Option.some.injEq, Prod.mk.injEq] at h
      obtain ⟨rfl, rfl⟩ := h
      rw [lastSplit_eq (o' :: os) x.1 x.2 hs]
      rfl
theorem wp_region_last2 {P : Program} {id : Nat} {ops : List Oper} {Q : Exit → Act → World → Prop} {a : Act} {w : World} (l : List Oper) (ol : Oper) (hs : lastSplit ops = some (l, ol)) (hm : P.follows .mixedOrders = true) (sl : List Sp)
    (hok : regionOk l a.tmps.size = true) (hlast : lastOk l ol = true) (hstep : StepsOk P l sl a w l 0)
    (hfin : ∀ σ w', Below w.heap.size w w' → AllOk l.toArray (spAt sl) w' σ l 0 → wpList P ops.toArray Q [ol] (upd a (dstsOf' l) σ) w') : (Code.region id ops.toArray true).wp P Q a w := by
  have := lastSplit_eq ops l ol hs
  subst this
  exact wp_region_last hm sl hok hlast hstep hfin
end Go.Proofs.Ytmaagkdehdmhlaa
