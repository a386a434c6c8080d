/- Tapes, plain. -/
import Derived.Test.YtilmldkaagbofaaBase
namespace Go.Proofs.Ytilmldkaagbofaa

structure CellP where
  kind : Int
  data : List Byte
  bad : Bool
structure Med where
  cap : Int
  cells : List CellP
def rightC (k : Int) (n : Nat) : Bool := decide (k = 1 ∧ 1 ≤ n ∧ n ≤ 256 ∨ k = 2 ∧ n = 0 ∨ k = 3 ∧ n ≤ 256)
def CellP.right (c : CellP) : Bool := rightC c.kind c.data.length
def Med.ok (m : Med) : Bool := decide (1 ≤ m.cap ∧ m.cap ≤ 400 ∧ (m.cells.length : Int) ≤ m.cap) && m.cells.all CellP.right
theorem Med.ok_iff {m : Med} : m.ok = true ↔ (1 ≤ m.cap ∧ m.cap ≤ 400 ∧ (m.cells.length : Int) ≤ m.cap) ∧ ∀ c ∈ m.cells, c.right = true := by
  unfold Med.ok
  rw [Bool.and_eq_true, decide_eq_true_eq, List.all_eq_true]
/-- Why not. -/
def Med.wrong (m : Med) (p : Int) (n : Nat) (block : Bool) : Int :=
  if p < 0 ∨ (m.cells.length : Int) < p then 1 else if block = true ∧ (n < 1 ∨ 256 < n) then 2 else if p = m.cap then 7 else 0
def Med.lay (m : Med) (p : Nat) (c : CellP) : Med := ⟨m.cap, m.cells.take p ++ [c]⟩
def Med.none : Med := ⟨0, []⟩
def Med.write (m : Med) (p : Int) (b : List Byte) : Med × Int :=
  if m.ok = false then (Med.none, 1) else if m.wrong p b.length true ≠ 0 then (Med.none, m.wrong p b.length true) else (m.lay p.toNat ⟨1, b, false⟩, 0)
def Med.tear (m : Med) (p : Int) (b : List Byte) (keep : Int) : Med × Int :=
  if m.ok = false then (Med.none, 1) else if m.wrong p b.length true ≠ 0 then (Med.none, m.wrong p b.length true) else if keep < 0 then (m, 0) else (m.lay p.toNat ⟨3, b.take keep.toNat, false⟩, 0)
def Med.mark (m : Med) (p : Int) : Med × Int :=
  if m.ok = false then (Med.none, 1) else if m.wrong p 0 false ≠ 0 then (Med.none, m.wrong p 0 false) else (m.lay p.toNat ⟨2, [], false⟩, 0)
def Med.end_ (m : Med) (p : Int) : Med × Int :=
  if m.ok = false ∨ p < 0 ∨ (m.cells.length : Int) < p then (Med.none, 1) else (⟨m.cap, m.cells.take p.toNat⟩, 0)
def Med.look (m : Med) (p : Int) : List Byte × Int :=
  if p < 0 ∨ (m.cells.length : Int) ≤ p then ([], 8) else
    match m.cells[p.toNat]? with
    | Option.none => ([], 8)
    | some c => if c.kind = 2 then ([], 15) else if c.kind = 3 ∨ c.bad = true then ([], 6) else (c.data, 0)
def Med.read (m : Med) (p : Int) : List Byte × Int := if m.ok = false then ([], 1) else m.look p
def marks (cs : List CellP) : Nat := cs.countP fun c => decide (c.kind = 2)
def Med.files (m : Med) : Int := if m.ok = false then 0 else (marks m.cells : Int)
/-- The place behind the n-th mark (n > 0): counted from 'at' on. -/
def behind : List CellP → Nat → Int → Int × Int
  | [], _, _ => (0, 8)
  | c :: cs, i, n => if c.kind = 2 then (if n - 1 = 0 then ((i : Int) + 1, 0) else behind cs (i + 1) (n - 1)) else behind cs (i + 1) n
def Med.behind (m : Med) (n : Int) : Int × Int := if n = 0 then (0, 0) else Proofs.Ytilmldkaagbofaa.behind m.cells 0 n
def Med.file (m : Med) (n : Int) : Int × Int := if m.ok = false then (0, 1) else m.behind n
end Go.Proofs.Ytilmldkaagbofaa
