/- Disks, plain: while the power is on; sectors that are safe. -/
import Derived.Test.YtclkkhpnnbkfmaaDiskPlain2
namespace Go.Proofs.Ytclkkhpnnbkfmaa

theorem spend_on {p : PS} (hoff : p.off = false) (ht : p.trip = none) : p.spend = (true, p) := by
  unfold PS.spend
  rw [if_neg (by rw [hoff]; simp), ht]
theorem wake_on {d : DS} {p : PS} (hl : d.life = p.life) : d.wake p = d := by
  unfold DS.wake; rw [if_pos (.inr hl)]
theorem write_on {d : DS} {p : PS} {n i : Nat} {b : List Byte} (hok : d.ok n) (hoff : p.off = false) (ht : p.trip = none) (hl : d.life = p.life) (hi : i < n) (hb : b.length = 256) :
    d.write p i b = (0, { d with pend := d.pend ++ [(i, b)], now := d.now.set i ⟨b, false⟩ }, p) := by
  have h1 : d.inB (i : Int) = true := by unfold DS.inB; rw [hok.now]; simp; omega
  unfold DS.write
  rw [wake_on hl, hoff, h1, spend_on hoff ht]
  simp [hb]
theorem sync_on {d : DS} {p : PS} (hoff : p.off = false) (ht : p.trip = none) (hl : d.life = p.life) : d.sync p = (0, { d with safe := d.now, pend := [] }, p) := by
  unfold DS.sync
  rw [wake_on hl, hoff, spend_on hoff ht]
  simp
theorem read_on {d : DS} {p : PS} (hoff : p.off = false) (hl : d.life = p.life) (i : Int) : d.read p i = d.get i := by
  unfold DS.read
  rw [wake_on hl, hoff]
  rfl

/-- The sectors below m are safe, and written no more: whatever the power does. -/
structure Kept (d : DS) (n m : Nat) (v : Nat → Sec) : Prop where
  ok : d.ok n
  safe : ∀ i, i < m → d.safe.getD i Sec.nought = v i
  now : ∀ i, i < m → d.now.getD i Sec.nought = v i
  pend : ∀ x ∈ d.pend, m ≤ x.1
theorem applyP_keeps (p : PS) {m : Nat} : ∀ (l : List (Nat × List Byte)) (k : Nat) (s : List Sec), (∀ x ∈ l, m ≤ x.1) → ∀ i, i < m → (applyP p k l s).getD i Sec.nought = s.getD i Sec.nought
  | [], _, _, _, _, _ => rfl
  | x :: r, k, s, hl, i, hi => by
    have hx := hl x (by simp)
    have hne : x.1 ≠ i := by omega
    rw [applyP, applyP_keeps p r (k + 1) _ (fun y hy => hl y (by simp [hy])) i hi]
    split
    · simp [List.getD_eq_getElem?_getD, List.getElem?_set, hne]
    · split
      · simp [List.getD_eq_getElem?_getD, List.getElem?_set, hne]
      · rfl
theorem Kept.wake {d : DS} {n m : Nat} {v : Nat → Sec} (h : Kept d n m v) (p : PS) : Kept (d.wake p) n m v := by
  refine ⟨h.ok.wake p, ?_, ?_, ?_⟩ <;> unfold DS.wake <;> split
  · exact h.safe
  · intro i hi; exact (applyP_keeps p d.pend 0 d.safe h.pend i hi).trans (h.safe i hi)
  · exact h.now
  · intro i hi; exact (applyP_keeps p d.pend 0 d.safe h.pend i hi).trans (h.safe i hi)
  · exact h.pend
  · simp
theorem Kept.write {d : DS} {n m : Nat} {v : Nat → Sec} (h : Kept d n m v) (p : PS) (i : Int) (b : List Byte) (hm : (m : Int) ≤ i) : Kept (d.write p i b).2.1 n m v := by
  have hw := h.wake p
  refine ⟨h.ok.write p i b, ?_, ?_, ?_⟩ <;> unfold DS.write <;> split <;> try (split <;> try (split <;> try split))
  all_goals first
    | exact h.safe
    | exact h.now
    | exact h.pend
    | exact hw.safe
    | exact hw.now
    | exact hw.pend
    | (intro j hj
       have hne : i.toNat ≠ j := by omega
       show ((d.wake p).now.set i.toNat ⟨b, false⟩).getD j Sec.nought = v j
       simp only [List.getD_eq_getElem?_getD, List.getElem?_set, if_neg hne]
       have := hw.now j hj
       simpa [List.getD_eq_getElem?_getD] using this)
    | (intro x hx
       rcases List.mem_append.1 hx with hx | hx
       · exact hw.pend x hx
       · simp only [List.mem_singleton] at hx; subst hx; show m ≤ i.toNat; omega)
theorem Kept.sync {d : DS} {n m : Nat} {v : Nat → Sec} (h : Kept d n m v) (p : PS) : Kept (d.sync p).2.1 n m v := by
  have hw := h.wake p
  refine ⟨h.ok.sync p, ?_, ?_, ?_⟩ <;> unfold DS.sync <;> split <;> try split
  all_goals first
    | exact h.safe
    | exact h.now
    | exact h.pend
    | exact hw.safe
    | exact hw.now
    | exact hw.pend
    | simp
end Go.Proofs.Ytclkkhpnnbkfmaa
