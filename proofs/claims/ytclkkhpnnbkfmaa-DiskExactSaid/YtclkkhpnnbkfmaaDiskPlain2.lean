/- Disks, plain: the page's disk, and how the two agree. -/
import Derived.Test.YtclkkhpnnbkfmaaDiskPlain
namespace Go.Proofs.Ytclkkhpnnbkfmaa

theorem DS.ok.write {d : DS} {n : Nat} (h : d.ok n) (p : PS) (i : Int) (b : List Byte) : (d.write p i b).2.1.ok n := by
  have hw := h.wake p
  unfold DS.write
  split
  · exact h
  · split
    · exact hw
    · next hin =>
      split
      · exact hw
      · next hb =>
        have hb256 : b.length = 256 := by omega
        have hi : i.toNat < n := by
          simp only [DS.inB, decide_eq_false_iff_not, Classical.not_not] at hin
          rw [hw.now] at hin
          omega
        have hp : ∀ x ∈ (d.wake p).pend ++ [(i.toNat, b)], x.1 < n ∧ x.2.length = 256 := by
          intro x hx
          rcases List.mem_append.1 hx with hx | hx
          · exact hw.pend x hx
          · simp only [List.mem_singleton] at hx; subst hx; exact ⟨hi, hb256⟩
        split
        · refine ⟨hw.safe, by simp [hw.now], hp, fun s hs => ?_⟩
          rcases List.mem_append.1 hs with hs | hs
          · exact hw.bytes s (by simp [hs])
          · rcases mem_set_sec hs with hs | rfl
            · exact hw.bytes s (by simp [hs])
            · exact .inr hb256
        · exact ⟨hw.safe, hw.now, hp, hw.bytes⟩
theorem DS.ok.sync {d : DS} {n : Nat} (h : d.ok n) (p : PS) : (d.sync p).2.1.ok n := by
  have hw := h.wake p
  unfold DS.sync
  split
  · exact h
  · split
    · exact ⟨hw.now, hw.now, by simp, fun s hs => by
        rcases List.mem_append.1 hs with hs | hs
        · exact hw.bytes s (by simp [hs])
        · exact hw.bytes s (by simp [hs])⟩
    · exact hw
theorem DS.ok.erase {d : DS} {n : Nat} (h : d.ok n) (p : PS) : (d.erase p).2.ok n := by
  unfold DS.erase
  split
  · exact h
  · exact ⟨by simp [h.safe], by simp [h.safe], by simp, fun s hs => by
      simp only [List.mem_append, List.mem_replicate] at hs
      rcases hs with ⟨_, rfl⟩ | ⟨_, rfl⟩ <;> exact .inl rfl⟩

/-- The page's disk. -/
structure RS where
  life : Int
  safe : List (List Byte)
  torn : List Bool
  loose : List (Nat × List Byte)
def RS.new (life : Int) (n : Nat) : RS := ⟨life, List.replicate n zeros256, List.replicate n false, []⟩
def applyR (p : PS) : Nat → List (Nat × List Byte) → List (List Byte) × List Bool → List (List Byte) × List Bool
  | _, [], s => s
  | k, x :: r, s => applyR p (k + 1) r (if (k : Int) = p.torn then (s.1, s.2.set x.1 true) else if p.kept (k : Int) then (s.1.set x.1 x.2, s.2.set x.1 false) else s)
def RS.wake (r : RS) (p : PS) : RS := if p.off = true ∨ p.life = r.life then r else ⟨p.life, (applyR p 0 r.loose (r.safe, r.torn)).1, (applyR p 0 r.loose (r.safe, r.torn)).2, []⟩
/-- The last of the loose writes to a sector. -/
def lastOf (i : Nat) : List (Nat × List Byte) → Option (List Byte)
  | [] => none
  | x :: r => match lastOf i r with
    | some b => some b
    | none => if x.1 = i then some x.2 else none
def RS.get (r : RS) (i : Int) : List Byte × Int :=
  if 0 ≤ i ∧ i < (r.safe.length : Int) then (match lastOf i.toNat r.loose with
    | some b => (b, 0)
    | none => if r.torn.getD i.toNat false then ([], 6) else (r.safe.getD i.toNat [], 0)) else ([], 1)
def RS.read (r : RS) (p : PS) (i : Int) : List Byte × Int := if p.off then ([], 5) else (r.wake p).get i

theorem lastOf_snoc (i : Nat) (x : Nat × List Byte) : ∀ l : List (Nat × List Byte), lastOf i (l ++ [x]) = if x.1 = i then some x.2 else lastOf i l
  | [] => by simp [lastOf]
  | y :: r => by
    rw [List.cons_append]
    simp only [lastOf]
    rw [lastOf_snoc i x r]
    by_cases h : x.1 = i
    · simp [h]
    · simp [h]

/-- A sector of the one and of the other. -/
def secRel (s : Sec) (b : List Byte) (t : Bool) : Prop := s.torn = t ∧ (t = false → s.bytes = b)
/-- The two disks agree. -/
structure DRel (d : DS) (r : RS) (n : Nat) : Prop where
  life : d.life = r.life
  pend : d.pend = r.loose
  slen : r.safe.length = n
  tlen : r.torn.length = n
  sec : ∀ i, i < n → secRel (d.safe.getD i Sec.nought) (r.safe.getD i []) (r.torn.getD i false)

theorem secRel_apply (p : PS) {n : Nat} : ∀ (l : List (Nat × List Byte)) (k : Nat) (s : List Sec) (u : List (List Byte) × List Bool), (∀ x ∈ l, x.1 < n ∧ x.2.length = 256) → s.length = n → u.1.length = n → u.2.length = n →
    (∀ i, i < n → secRel (s.getD i Sec.nought) (u.1.getD i []) (u.2.getD i false)) → (applyR p k l u).1.length = n ∧ (applyR p k l u).2.length = n ∧ ∀ i, i < n → secRel ((applyP p k l s).getD i Sec.nought) ((applyR p k l u).1.getD i []) ((applyR p k l u).2.getD i false)
  | [], _, _, _, _, _, h1, h2, h => ⟨h1, h2, h⟩
  | x :: r, k, s, u, hl, hs, h1, h2, h => by
    have hx := hl x (by simp)
    rw [applyR, applyP]
    refine secRel_apply p r (k + 1) _ _ (fun y hy => hl y (by simp [hy])) ?_ ?_ ?_ fun i hi => ?_
    · split
      · simp [hs]
      · split <;> simp [hs]
    · split
      · exact h1
      · split <;> simp [h1]
    · split
      · simp [h2]
      · split <;> simp [h2]
    · have hh := h i hi
      simp only [List.getD_eq_getElem?_getD] at hh ⊢
      split
      · simp only [List.getElem?_set]
        by_cases hxi : x.1 = i
        · subst hxi
          simp only [if_true, hs, hx.1, h2]
          exact ⟨rfl, fun h => by cases h⟩
        · simp only [if_neg hxi]
          exact hh
      · split
        · simp only [List.getElem?_set]
          by_cases hxi : x.1 = i
          · subst hxi
            simp only [if_true, hs, hx.1, h1, h2]
            refine ⟨rfl, fun _ => ?_⟩
            show Sec.bytes ⟨x.2, false⟩ = x.2
            unfold Sec.bytes
            rw [if_neg (by intro h0; have := hx.2; simp only at h0; rw [h0] at this; simp at this)]
          · simp only [if_neg hxi]
            exact hh
        · exact hh
end Go.Proofs.Ytclkkhpnnbkfmaa
