/- Disks, plain: what the program's disk does over a power. -/
import Derived.Test.YtclkkhpnnbkfmaaPS
namespace Go.Proofs.Ytclkkhpnnbkfmaa

/-- A sector: its bytes (none: noughts), whether it is torn. -/
structure Sec where
  b : List Byte
  torn : Bool
def Sec.nought : Sec := ⟨[], false⟩
def zeros256 : List Byte := List.replicate 256 0#8
/-- What is read of it. -/
def Sec.bytes (s : Sec) : List Byte := if s.b = [] then zeros256 else s.b

structure DS where
  life : Int
  safe : List Sec
  now : List Sec
  pend : List (Nat × List Byte)
def DS.new (life : Int) (n : Nat) : DS := ⟨life, List.replicate n Sec.nought, List.replicate n Sec.nought, []⟩
/-- Behind a cut: of what was not safe just that stands that was kept. -/
def applyP (p : PS) : Nat → List (Nat × List Byte) → List Sec → List Sec
  | _, [], s => s
  | k, x :: r, s => applyP p (k + 1) r (if (k : Int) = p.torn then s.set x.1 ⟨[], true⟩ else if p.kept (k : Int) then s.set x.1 ⟨x.2, false⟩ else s)
def DS.wake (d : DS) (p : PS) : DS := if p.off = true ∨ d.life = p.life then d else ⟨p.life, applyP p 0 d.pend d.safe, applyP p 0 d.pend d.safe, []⟩
def DS.inB (d : DS) (i : Int) : Bool := decide (0 ≤ i ∧ i < (d.now.length : Int))
/-- Read's answer, of a disk that is awake. -/
def DS.get (d : DS) (i : Int) : List Byte × Int :=
  if d.inB i then (if (d.now.getD i.toNat Sec.nought).torn then ([], 6) else ((d.now.getD i.toNat Sec.nought).bytes, 0)) else ([], 1)
def DS.read (d : DS) (p : PS) (i : Int) : List Byte × Int := if p.off then ([], 5) else (d.wake p).get i
def DS.write (d : DS) (p : PS) (i : Int) (b : List Byte) : Int × DS × PS :=
  if p.off then (5, d, p) else
  if (d.wake p).inB i = false then (1, d.wake p, p) else
  if b.length ≠ 256 then (2, d.wake p, p) else
  if p.spend.1 then (0, { d.wake p with pend := (d.wake p).pend ++ [(i.toNat, b)], now := (d.wake p).now.set i.toNat ⟨b, false⟩ }, p.spend.2)
  else (5, { d.wake p with pend := (d.wake p).pend ++ [(i.toNat, b)] }, p.spend.2)
def DS.sync (d : DS) (p : PS) : Int × DS × PS :=
  if p.off then (5, d, p) else
  if p.spend.1 then (0, { d.wake p with safe := (d.wake p).now, pend := [] }, p.spend.2) else (5, d.wake p, p.spend.2)
def DS.erase (d : DS) (p : PS) : Int × DS :=
  if p.off then (5, d) else (0, { d.wake p with safe := List.replicate d.safe.length Sec.nought, now := List.replicate d.safe.length Sec.nought, pend := [] })

theorem applyP_length (p : PS) : ∀ (l : List (Nat × List Byte)) (k : Nat) (s : List Sec), (applyP p k l s).length = s.length
  | [], _, _ => rfl
  | x :: r, k, s => by
    rw [applyP, applyP_length p r]
    split
    · simp
    · split <;> simp
theorem applyP_snoc (p : PS) (x : Nat × List Byte) : ∀ (l : List (Nat × List Byte)) (k : Nat) (s : List Sec), applyP p k (l ++ [x]) s =
    (if ((k + l.length : Nat) : Int) = p.torn then (applyP p k l s).set x.1 ⟨[], true⟩ else if p.kept ((k + l.length : Nat) : Int) then (applyP p k l s).set x.1 ⟨x.2, false⟩ else applyP p k l s)
  | [], k, s => by simp [applyP]
  | y :: r, k, s => by
    rw [List.cons_append, applyP, applyP_snoc p x r, applyP]
    simp only [List.length_cons, show k + 1 + r.length = k + (r.length + 1) by omega]

/-- What holds of every disk of n sectors. -/
structure DS.ok (d : DS) (n : Nat) : Prop where
  safe : d.safe.length = n
  now : d.now.length = n
  pend : ∀ x ∈ d.pend, x.1 < n ∧ x.2.length = 256
  bytes : ∀ s ∈ d.safe ++ d.now, s.b = [] ∨ s.b.length = 256
theorem mem_set_sec {l : List Sec} {i : Nat} {v s : Sec} (h : s ∈ l.set i v) : s ∈ l ∨ s = v := by
  rcases List.mem_or_eq_of_mem_set h with h | h
  · exact .inl h
  · exact .inr h
theorem applyP_bytes (p : PS) : ∀ (l : List (Nat × List Byte)) (k : Nat) (s : List Sec), (∀ x ∈ l, x.2.length = 256) → (∀ c ∈ s, c.b = [] ∨ c.b.length = 256) → ∀ c ∈ applyP p k l s, c.b = [] ∨ c.b.length = 256
  | [], _, _, _, hs => hs
  | x :: r, k, s, hl, hs => by
    rw [applyP]
    refine applyP_bytes p r (k + 1) _ (fun y hy => hl y (by simp [hy])) fun c hc => ?_
    split at hc
    · rcases mem_set_sec hc with h | rfl
      · exact hs c h
      · exact .inl rfl
    · split at hc
      · rcases mem_set_sec hc with h | rfl
        · exact hs c h
        · exact .inr (hl x (by simp))
      · exact hs c hc
theorem DS.ok.wake {d : DS} {n : Nat} (h : d.ok n) (p : PS) : (d.wake p).ok n := by
  unfold DS.wake
  split
  · exact h
  · refine ⟨by rw [applyP_length]; exact h.safe, by rw [applyP_length]; exact h.safe, by simp, fun s hs => ?_⟩
    have hb := applyP_bytes p d.pend 0 d.safe (fun x hx => (h.pend x hx).2) (fun c hc => h.bytes c (by simp [hc]))
    rcases List.mem_append.1 hs with hs | hs
    · exact hb s hs
    · exact hb s hs
theorem DS.new_ok (life : Int) (n : Nat) : (DS.new life n).ok n :=
  ⟨by simp [DS.new], by simp [DS.new], by simp [DS.new], by simp [DS.new, Sec.nought]⟩
end Go.Proofs.Ytclkkhpnnbkfmaa
