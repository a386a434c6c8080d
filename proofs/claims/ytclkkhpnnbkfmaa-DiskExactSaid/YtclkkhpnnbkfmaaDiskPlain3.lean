/- Disks, plain: the two disks agree, whatever is done. -/
import Derived.Test.YtclkkhpnnbkfmaaDiskPlain2
namespace Go.Proofs.Ytclkkhpnnbkfmaa

/-- What is read now: the last loose write, or what is safe. -/
def nowRel (d : DS) (r : RS) (n : Nat) : Prop := ∀ i, i < n → match lastOf i r.loose with
  | some b => d.now.getD i Sec.nought = ⟨b, false⟩
  | none => secRel (d.now.getD i Sec.nought) (r.safe.getD i []) (r.torn.getD i false)
structure DInv (d : DS) (r : RS) (n : Nat) (p : PS) : Prop where
  rel : DRel d r n
  ok : d.ok n
  now : p.off = false → d.life = p.life → nowRel d r n
  le : d.life ≤ p.life

theorem DInv.new (p : PS) (n : Nat) : DInv (DS.new p.life n) (RS.new p.life n) n p := by
  have hs : ∀ i, i < n → secRel ((List.replicate n Sec.nought).getD i Sec.nought) ((List.replicate n zeros256).getD i []) ((List.replicate n false).getD i false) := by
    intro i hi
    simp only [List.getD_eq_getElem?_getD, List.getElem?_replicate, if_pos hi, Option.getD_some]
    exact ⟨rfl, fun _ => rfl⟩
  exact ⟨⟨rfl, rfl, by simp [RS.new], by simp [RS.new], hs⟩, DS.new_ok _ _, fun _ _ i hi => hs i hi, Int.le_refl _⟩

theorem DInv.wake {d : DS} {r : RS} {n : Nat} {p : PS} (h : DInv d r n p) (hoff : p.off = false) : DInv (d.wake p) (r.wake p) n p ∧ (d.wake p).life = p.life ∧ nowRel (d.wake p) (r.wake p) n := by
  by_cases hl : d.life = p.life
  · have e1 : d.wake p = d := by unfold DS.wake; rw [if_pos (.inr hl)]
    have e2 : r.wake p = r := by unfold RS.wake; rw [if_pos (.inr (by rw [← h.rel.life]; exact hl.symm))]
    rw [e1, e2]
    exact ⟨h, hl, h.now hoff hl⟩
  · have e1 : d.wake p = ⟨p.life, applyP p 0 d.pend d.safe, applyP p 0 d.pend d.safe, []⟩ := by unfold DS.wake; rw [if_neg (by simp [hoff, hl])]
    have e2 : r.wake p = ⟨p.life, (applyR p 0 r.loose (r.safe, r.torn)).1, (applyR p 0 r.loose (r.safe, r.torn)).2, []⟩ := by
      unfold RS.wake
      rw [if_neg (by
        intro hh
        rcases hh with hh | hh
        · rw [hoff] at hh; cases hh
        · exact hl (by rw [h.rel.life]; exact hh.symm))]
    obtain ⟨h1, h2, h3⟩ := secRel_apply p (n := n) r.loose 0 d.safe (r.safe, r.torn) (by rw [← h.rel.pend]; exact h.ok.pend) h.ok.safe h.rel.slen h.rel.tlen h.rel.sec
    have hok := h.ok.wake p
    rw [e1] at hok
    rw [e1, e2]
    have hpe := h.rel.pend
    have hnow : nowRel ⟨p.life, applyP p 0 d.pend d.safe, applyP p 0 d.pend d.safe, []⟩ ⟨p.life, (applyR p 0 r.loose (r.safe, r.torn)).1, (applyR p 0 r.loose (r.safe, r.torn)).2, []⟩ n := by
      intro i hi
      show secRel _ _ _
      rw [hpe]
      exact h3 i hi
    exact ⟨⟨⟨rfl, rfl, h1, h2, by rw [hpe]; exact h3⟩, hok, fun _ _ => hnow, Int.le_refl _⟩, rfl, hnow⟩

theorem lastOf_mem {i : Nat} {b : List Byte} : ∀ {l : List (Nat × List Byte)}, lastOf i l = some b → (i, b) ∈ l
  | [], h => by cases h
  | x :: r, h => by
    simp only [lastOf] at h
    split at h
    · next b' hb =>
      cases h
      exact List.mem_cons_of_mem _ (lastOf_mem hb)
    · split at h
      · next hx => cases h; subst hx; simp
      · cases h
theorem get_eq {d : DS} {r : RS} {n : Nat} (hok : d.ok n) (hpe : d.pend = r.loose) (hs : r.safe.length = n) (h : nowRel d r n) (i : Int) : d.get i = r.get i := by
  unfold DS.get RS.get DS.inB
  rw [hok.now, hs]
  by_cases hi : 0 ≤ i ∧ i < (n : Int)
  · rw [if_pos (by simpa using hi), if_pos hi]
    have hh := h i.toNat (by omega)
    cases hl : lastOf i.toNat r.loose with
    | some b =>
      simp only [hl] at hh
      rw [hh]
      have hb : b ≠ [] := by
        intro hb0
        have := (hok.pend _ (by rw [hpe]; exact lastOf_mem hl)).2
        simp [hb0] at this
      simp [Sec.bytes, hb]
    | none =>
      simp only [hl] at hh
      obtain ⟨h1, h2⟩ := hh
      rw [h1]
      cases ht : r.torn.getD i.toNat false with
      | true => rfl
      | false =>
        simp only [Bool.false_eq_true, if_false]
        rw [h2 ht]
  · rw [if_neg (by simpa using hi), if_neg hi]
theorem read_eq {d : DS} {r : RS} {n : Nat} {p : PS} (h : DInv d r n p) (i : Int) : d.read p i = r.read p i := by
  unfold DS.read RS.read
  cases hoff : p.off with
  | true => rfl
  | false =>
    obtain ⟨h1, _, h3⟩ := h.wake hoff
    exact get_eq h1.ok h1.rel.pend h1.rel.slen h3 i

theorem spend_off {p : PS} (h : p.spend.1 = false) : p.spend.2.off = true := by
  unfold PS.spend at *
  split at h
  · next ho => rw [if_pos ho]; exact ho
  · next ho =>
    rw [if_neg ho]
    split at h
    · cases h
    · next n k t ht =>
      split at h
      · cases h
      · next hn =>
        rw [if_neg hn]
        unfold PS.cut
        rw [if_neg ho]
theorem spend_life (p : PS) : p.spend.2.life = p.life := by
  unfold PS.spend
  split
  · rfl
  · split
    · rfl
    · split
      · rfl
      · unfold PS.cut; split <;> rfl

def RS.write (r : RS) (p : PS) (i : Int) (b : List Byte) : Int × RS × PS :=
  if p.off then (5, r, p) else
  if 0 ≤ i ∧ i < (r.safe.length : Int) then
    if b.length ≠ 256 then (2, r.wake p, p) else (if p.spend.1 then 0 else 5, { r.wake p with loose := (r.wake p).loose ++ [(i.toNat, b)] }, p.spend.2)
  else (1, r.wake p, p)
theorem DInv.write {d : DS} {r : RS} {n : Nat} {p : PS} (h : DInv d r n p) (i : Int) (b : List Byte) :
    (d.write p i b).1 = (r.write p i b).1 ∧ (d.write p i b).2.2 = (r.write p i b).2.2 ∧ DInv (d.write p i b).2.1 (r.write p i b).2.1 n (d.write p i b).2.2 := by
  have hok := h.ok.write p i b
  unfold DS.write at hok ⊢
  unfold RS.write
  cases hoff : p.off with
  | true =>
    simp only [if_true]
    exact ⟨trivial, trivial, h⟩
  | false =>
    obtain ⟨hw, hwl, hwn⟩ := h.wake hoff
    simp only [hoff, Bool.false_eq_true, if_false] at hok ⊢
    by_cases hi : 0 ≤ i ∧ i < (n : Int)
    · have e1 : (d.wake p).inB i = true := by unfold DS.inB; rw [hw.ok.now]; simpa using hi
      have e2 : 0 ≤ i ∧ i < (r.safe.length : Int) := by rw [h.rel.slen]; exact hi
      rw [e1] at hok ⊢
      simp only [Bool.true_eq_false, if_false] at hok ⊢
      rw [if_pos e2]
      by_cases hb : b.length = 256
      · simp only [hb, ne_eq, not_true_eq_false, if_false] at hok ⊢
        have hN : nowRel { d.wake p with pend := (d.wake p).pend ++ [(i.toNat, b)], now := (d.wake p).now.set i.toNat ⟨b, false⟩ } { r.wake p with loose := (r.wake p).loose ++ [(i.toNat, b)] } n := by
          intro j hj
          have hh := hwn j hj
          simp only [lastOf_snoc]
          by_cases hij : i.toNat = j
          · subst hij
            simp [List.getD_eq_getElem?_getD, List.getElem?_set, hw.ok.now, hj]
          · simp only [if_neg hij]
            have e : ((d.wake p).now.set i.toNat ⟨b, false⟩).getD j Sec.nought = (d.wake p).now.getD j Sec.nought := by
              simp [List.getD_eq_getElem?_getD, List.getElem?_set, hij]
            rw [e]
            exact hh
        have hrel : DRel { d.wake p with pend := (d.wake p).pend ++ [(i.toNat, b)] } { r.wake p with loose := (r.wake p).loose ++ [(i.toNat, b)] } n :=
          ⟨hw.rel.life, by simp [hw.rel.pend], hw.rel.slen, hw.rel.tlen, hw.rel.sec⟩
        cases hsp : p.spend.1 with
        | true =>
          simp only [hsp, if_true] at hok ⊢
          exact ⟨trivial, trivial, ⟨hrel.life, hrel.pend, hrel.slen, hrel.tlen, hrel.sec⟩, hok, fun _ _ => hN, by rw [spend_life]; exact hw.le⟩
        | false =>
          simp only [hsp, Bool.false_eq_true, if_false] at hok ⊢
          exact ⟨trivial, trivial, hrel, hok, (fun ho => by rw [spend_off hsp] at ho; cases ho), by rw [spend_life]; exact hw.le⟩
      · simp only [ne_eq, hb, not_false_eq_true, if_true] at hok ⊢
        exact ⟨trivial, trivial, hw⟩
    · have e1 : (d.wake p).inB i = false := by unfold DS.inB; rw [hw.ok.now]; simpa using hi
      have e2 : ¬ (0 ≤ i ∧ i < (r.safe.length : Int)) := by rw [h.rel.slen]; exact hi
      rw [e1, if_neg e2]
      simp only [if_true]
      exact ⟨trivial, trivial, hw⟩

/-- All loose writes are safe. -/
def applyAll : List (Nat × List Byte) → List (List Byte) × List Bool → List (List Byte) × List Bool
  | [], s => s
  | x :: r, s => applyAll r (s.1.set x.1 x.2, s.2.set x.1 false)
def RS.sync (r : RS) (p : PS) : Int × RS × PS :=
  if p.off then (5, r, p) else
  if p.spend.1 then (0, { r.wake p with safe := (applyAll (r.wake p).loose ((r.wake p).safe, (r.wake p).torn)).1, torn := (applyAll (r.wake p).loose ((r.wake p).safe, (r.wake p).torn)).2, loose := [] }, p.spend.2)
  else (5, r.wake p, p.spend.2)
def RS.erase (r : RS) (p : PS) : Int × RS :=
  if p.off then (5, r) else (0, { r.wake p with safe := List.replicate r.safe.length zeros256, torn := List.replicate r.safe.length false, loose := [] })
theorem applyAll_spec {n : Nat} : ∀ (l : List (Nat × List Byte)) (u : List (List Byte) × List Bool), (∀ x ∈ l, x.1 < n) → u.1.length = n → u.2.length = n →
    (applyAll l u).1.length = n ∧ (applyAll l u).2.length = n ∧ ∀ i, i < n → match lastOf i l with
      | some b => (applyAll l u).1.getD i [] = b ∧ (applyAll l u).2.getD i false = false
      | none => (applyAll l u).1.getD i [] = u.1.getD i [] ∧ (applyAll l u).2.getD i false = u.2.getD i false
  | [], u, _, h1, h2 => ⟨h1, h2, fun i hi => ⟨rfl, rfl⟩⟩
  | x :: r, u, hl, h1, h2 => by
    have hx := hl x (by simp)
    obtain ⟨a1, a2, a3⟩ := applyAll_spec r (u.1.set x.1 x.2, u.2.set x.1 false) (fun y hy => hl y (by simp [hy])) (by simp [h1]) (by simp [h2])
    refine ⟨a1, a2, fun i hi => ?_⟩
    have hh := a3 i hi
    simp only [applyAll, lastOf]
    cases hr : lastOf i r with
    | some b => simp only [hr] at hh ⊢; exact hh
    | none =>
      simp only [hr] at hh ⊢
      by_cases hxi : x.1 = i
      · subst hxi
        simp only [if_true]
        rw [hh.1, hh.2]
        simp [List.getD_eq_getElem?_getD, List.getElem?_set, h1, h2, hx]
      · simp only [if_neg hxi]
        rw [hh.1, hh.2]
        simp [List.getD_eq_getElem?_getD, List.getElem?_set, hxi]
theorem DInv.sync {d : DS} {r : RS} {n : Nat} {p : PS} (h : DInv d r n p) :
    (d.sync p).1 = (r.sync p).1 ∧ (d.sync p).2.2 = (r.sync p).2.2 ∧ DInv (d.sync p).2.1 (r.sync p).2.1 n (d.sync p).2.2 := by
  have hok := h.ok.sync p
  unfold DS.sync at hok ⊢
  unfold RS.sync
  cases hoff : p.off with
  | true =>
    simp only [if_true]
    exact ⟨trivial, trivial, h⟩
  | false =>
    obtain ⟨hw, hwl, hwn⟩ := h.wake hoff
    simp only [hoff, Bool.false_eq_true, if_false] at hok ⊢
    cases hsp : p.spend.1 with
    | false =>
      simp only [Bool.false_eq_true, if_false]
      exact ⟨trivial, trivial, hw.rel, hw.ok, (fun ho => by rw [spend_off hsp] at ho; cases ho), by rw [spend_life]; exact hw.le⟩
    | true =>
      simp only [hsp, if_true] at hok ⊢
      obtain ⟨a1, a2, a3⟩ := applyAll_spec (n := n) (r.wake p).loose ((r.wake p).safe, (r.wake p).torn) (fun x hx => (hw.ok.pend x (by rw [hw.rel.pend]; exact hx)).1) hw.rel.slen hw.rel.tlen
      have hsec : ∀ i, i < n → secRel ((d.wake p).now.getD i Sec.nought) ((applyAll (r.wake p).loose ((r.wake p).safe, (r.wake p).torn)).1.getD i []) ((applyAll (r.wake p).loose ((r.wake p).safe, (r.wake p).torn)).2.getD i false) := by
        intro i hi
        have h1 := a3 i hi
        have h2 := hwn i hi
        cases hl : lastOf i (r.wake p).loose with
        | some b =>
          simp only [hl] at h1 h2
          rw [h1.1, h1.2, h2]
          have hb : b.length = 256 := (hw.ok.pend _ (by rw [hw.rel.pend]; exact lastOf_mem hl)).2
          refine ⟨rfl, fun _ => ?_⟩
          show Sec.bytes ⟨b, false⟩ = b
          unfold Sec.bytes
          rw [if_neg (by intro h0; simp only at h0; rw [h0] at hb; simp at hb)]
        | none =>
          simp only [hl] at h1 h2
          rw [h1.1, h1.2]
          exact h2
      exact ⟨trivial, trivial, ⟨hw.rel.life, rfl, a1, a2, hsec⟩, hok, fun _ _ i hi => hsec i hi, by rw [spend_life]; exact hw.le⟩
theorem DInv.erase {d : DS} {r : RS} {n : Nat} {p : PS} (h : DInv d r n p) : (d.erase p).1 = (r.erase p).1 ∧ DInv (d.erase p).2 (r.erase p).2 n p := by
  have hok := h.ok.erase p
  unfold DS.erase at hok ⊢
  unfold RS.erase
  cases hoff : p.off with
  | true =>
    simp only [if_true]
    exact ⟨trivial, h⟩
  | false =>
    obtain ⟨hw, hwl, _⟩ := h.wake hoff
    simp only [hoff, Bool.false_eq_true, if_false] at hok ⊢
    rw [h.ok.safe] at hok ⊢
    rw [h.rel.slen]
    have hs : ∀ i, i < n → secRel ((List.replicate n Sec.nought).getD i Sec.nought) ((List.replicate n zeros256).getD i []) ((List.replicate n false).getD i false) := by
      intro i hi
      simp only [List.getD_eq_getElem?_getD, List.getElem?_replicate, if_pos hi, Option.getD_some]
      exact ⟨rfl, fun _ => rfl⟩
    exact ⟨trivial, ⟨hw.rel.life, rfl, by simp, by simp, hs⟩, hok, fun _ _ i hi => hs i hi, hw.le⟩
/-- What the power does leaves them alike. -/
theorem DInv.cut {d : DS} {r : RS} {n : Nat} {p : PS} (h : DInv d r n p) (k : List Bool) (t : Int) : DInv d r n (p.cut k t) := by
  unfold PS.cut
  split
  · exact h
  · exact ⟨h.rel, h.ok, (fun ho => by cases ho), h.le⟩
theorem DInv.arm {d : DS} {r : RS} {n : Nat} {p : PS} (h : DInv d r n p) (m : Int) (k : List Bool) (t : Int) : DInv d r n (p.arm m k t) := ⟨h.rel, h.ok, h.now, h.le⟩
theorem DInv.start {d : DS} {r : RS} {n : Nat} {p : PS} (h : DInv d r n p) : DInv d r n p.start := by
  unfold PS.start
  split
  · have := h.le
    refine ⟨h.rel, h.ok, fun _ hl => ?_, ?_⟩
    · simp only at hl; omega
    · show d.life ≤ p.life + 1; omega
  · exact h
end Go.Proofs.Ytclkkhpnnbkfmaa
