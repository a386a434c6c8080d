/- A disk and its power: the bundle of what they are. -/
import Derived.Test.YtclkkhpnnbkfmaaDiskWriteR
import Derived.Test.YtclkkhpnnbkfmaaDiskEraseR
import Derived.Test.YtclkkhpnnbkfmaaSpoilM
namespace Go.Proofs.Ytclkkhpnnbkfmaa
open Go.RowKit
variable {R : Nat}

/-- Bytes, filled up to a sector. -/
def pad (l : List Byte) : List Byte := l.take 256 ++ (zb 256).drop l.length
theorem pad_length (l : List Byte) : (pad l).length = 256 := by
  unfold pad; rw [List.length_append, List.length_take, List.length_drop, zb_length]; omega

/-- A disk with its power. -/
structure DW (R : Nat) (K : Nat → Prop) (B : Nat) (w : World) (g pg n : Nat) (d : DS) (p : PS) (m : Nat) : Prop where
  disk : DiskAt K B w g pg d
  pow : Pow R B w pg p
  ok : d.ok n
  base : max B R ≤ w.heap.size
  pend : d.pend.length ≤ m
theorem DW.mono {K K' : Nat → Prop} {B : Nat} {w : World} {g pg n : Nat} {d : DS} {p : PS} {m m' : Nat} (h : DW R K B w g pg n d p m) (hK : ∀ b, b < w.heap.size → K b → K' b) (hm : m ≤ m') : DW R K' B w g pg n d p m' :=
  ⟨h.disk.mono hK, h.pow, h.ok, h.base, Nat.le_trans h.pend hm⟩
/-- Its bytes lie in blocks that there are. -/
theorem DW.lt {K : Nat → Prop} {B : Nat} {w : World} {g pg n : Nat} {d : DS} {p : PS} {m : Nat} (h : DW R K B w g pg n d p m) : DW R (fun b => b < w.heap.size) B w g pg n d p m := h.mono (fun _ hb _ => hb) (Nat.le_refl _)
theorem DW.ext {K : Nat → Prop} {B : Nat} {w w' : World} {g pg n : Nat} {d : DS} {p : PS} {m : Nat} (h : DW R K B w g pg n d p m) (hb : Below w.heap.size w w') : DW R K B w' g pg n d p m :=
  ⟨h.disk.ext hb, h.pow.ext hb, h.ok, Nat.le_trans h.base hb.size, h.pend⟩
theorem DW.spoil {K : Nat → Prop} {B : Nat} {w w' : World} {g pg n : Nat} {d : DS} {p : PS} {m : Nat} {a : Option Addr} (h : DW R K B w g pg n d p m) (hm : Mod (UF a) w w') (hK : ∀ b, a = some ⟨b, 0, none⟩ → ¬ K b) : DW R K B w' g pg n d p m :=
  ⟨h.disk.mod hm (fun b T hf => ⟨UF_no a (by decide) b T hf, UF_no a (by decide) b T hf, UF_no a (by decide) b T hf⟩) (fun b _ hb hf => hK b hf.1 hb), h.pow.mod hm (fun b T hf => ⟨UF_no a (by decide) b T hf, UF_no a (by decide) b T hf, UF_no a (by decide) b T hf⟩), h.ok, Nat.le_trans h.base hm.size, h.pend⟩
theorem DW.read {K : Nat → Prop} {B : Nat} {w : World} {g pg n : Nat} {d : DS} {p : PS} {m : Nat} (h : DW R K B w g pg n d p m) (hn : n ≤ 100000) (hn0 : 0 < n) (hm : m ≤ 100000) (i : Int) {b : List Byte} {E : Int} (hr : d.read p i = (b, E)) :
    Calls Try.prog 60 #[.pointer (some ⟨g, 0, none⟩), .int .i64 i] w fun e w' => ∃ a c k, e = .returned (.tuple #[.slice a k c, .int .i64 E]) ∧ k = b.length ∧ Own w' w.heap.size 5 1 a k c (bvs b) ∧ DW R K B w' g pg n (d.wake p) p m ∧ Mod (DF B) w w' := by
  refine (disk_read K B g pg n d p i w h.disk h.pow h.ok hn hn0 (by have := h.base; omega) (Nat.le_trans h.pend hm)).mono ?_
  rintro e w' ⟨a, c, k, he, hk, ho, hd, hp, hM⟩
  rw [hr] at he hk ho
  exact ⟨a, c, k, he, hk, ho, ⟨hd, hp, h.ok.wake p, Nat.le_trans h.base hM.size, by unfold DS.wake; split; exact h.pend; simp⟩, hM⟩
theorem DW.write {K : Nat → Prop} {B : Nat} {w : World} {g pg n : Nat} {d : DS} {p : PS} {m : Nat} (h : DW R K B w g pg n d p m) (hn : n ≤ 100000) (hn0 : 0 < n) (hm : m ≤ 100000) (i : Int) (a : Option Addr) (c k : Nat) (l : List Byte)
    (hs : ∀ w', Mod (DF B) w w' → Src w' a (bvs l)) (hl : k = l.length) (hl2 : k ≤ 140737488355328) {E : Int} {d' : DS} {p' : PS} (hr : d.write p i l = (E, d', p')) :
    Calls Try.prog 68 #[.pointer (some ⟨g, 0, none⟩), .int .i64 i, .slice a k c] w fun e w' => e = .returned (.int .i64 E) ∧ DW R (fun b => K b ∨ w.heap.size ≤ b) B w' g pg n d' p' (m + 1) ∧ Mod (DF B) w w' := by
  refine (disk_write K B g pg n d p i a c k l w h.disk h.pow h.ok hn hn0 h.base (Nat.le_trans h.pend hm) hs hl hl2).mono ?_
  rintro e w' ⟨he, hd, hp, hM⟩
  have hok := h.ok.write p i l
  rw [hr] at he hd hp hok
  have hpl : d'.pend.length ≤ m + 1 := by
    have e1 : d' = (d.write p i l).2.1 := by rw [hr]
    have hwk : (d.wake p).pend.length ≤ m := by unfold DS.wake; split; exact h.pend; simp
    have h0 := h.pend
    rw [e1]
    unfold DS.write
    split
    · simp only; omega
    · split
      · simp only; omega
      · split
        · simp only; omega
        · split <;> simp only [List.length_append, List.length_singleton] <;> omega
  exact ⟨he, ⟨hd, hp, hok, Nat.le_trans h.base hM.size, hpl⟩, hM⟩
theorem DW.sync {K : Nat → Prop} {B : Nat} {w : World} {g pg n : Nat} {d : DS} {p : PS} {m : Nat} (h : DW R K B w g pg n d p m) (hn : n ≤ 100000) (hn0 : 0 < n) (hm : m ≤ 100000) {E : Int} {d' : DS} {p' : PS} (hr : d.sync p = (E, d', p')) :
    Calls Try.prog 63 #[.pointer (some ⟨g, 0, none⟩)] w fun e w' => e = .returned (.int .i64 E) ∧ DW R K B w' g pg n d' p' m ∧ Mod (DF B) w w' := by
  refine (disk_sync K B g pg n d p w h.disk h.pow h.ok hn hn0 h.base (Nat.le_trans h.pend hm)).mono ?_
  rintro e w' ⟨he, hd, hp, hM⟩
  have hok := h.ok.sync p
  rw [hr] at he hd hp hok
  have hpl : d'.pend.length ≤ m := by
    have e1 : d' = (d.sync p).2.1 := by rw [hr]
    have hwk : (d.wake p).pend.length ≤ m := by unfold DS.wake; split; exact h.pend; simp
    have h0 := h.pend
    rw [e1]
    unfold DS.sync
    split
    · exact h0
    · split
      · simp
      · exact hwk
  exact ⟨he, ⟨hd, hp, hok, Nat.le_trans h.base hM.size, hpl⟩, hM⟩
theorem DW.erase {K : Nat → Prop} {B : Nat} {w : World} {g pg n : Nat} {d : DS} {p : PS} {m : Nat} (h : DW R K B w g pg n d p m) (hn : n ≤ 100000) (hn0 : 0 < n) (hm : m ≤ 100000) {E : Int} {d' : DS} (hr : d.erase p = (E, d')) :
    Calls Try.prog 65 #[.pointer (some ⟨g, 0, none⟩)] w fun e w' => e = .returned (.int .i64 E) ∧ DW R K B w' g pg n d' p m ∧ Mod (DF B) w w' := by
  refine (disk_erase K B g pg n d p w h.disk h.pow h.ok hn hn0 (by have := h.base; omega) (Nat.le_trans h.pend hm)).mono ?_
  rintro e w' ⟨he, hd, hp, hM⟩
  have hok := h.ok.erase p
  rw [hr] at he hd hok
  have hpl : d'.pend.length ≤ m := by
    have e1 : d' = (d.erase p).2 := by rw [hr]
    have h0 := h.pend
    rw [e1]
    unfold DS.erase
    split
    · exact h0
    · simp
  exact ⟨he, ⟨hd, hp, hok, Nat.le_trans h.base hM.size, hpl⟩, hM⟩
theorem DW.cut {K : Nat → Prop} {B : Nat} {w : World} {g pg n : Nat} {d : DS} {p : PS} {m : Nat} (h : DW R K B w g pg n d p m) (a : Option Addr) (c k : Nat) (l : List Bool) (t : Int) (hs : Src w a (bovs l)) (hk : k = l.length) (hk2 : k ≤ 1000) {p' : PS} (hr : p.cut l t = p') :
    Calls Try.prog 34 #[.pointer (some ⟨pg, 0, none⟩), .slice a k c, .int .i64 t] w fun e w' => e = .returned (.tuple #[]) ∧ DW R K B w' g pg n d p' m ∧ Mod (DF B) w w' := by
  subst hr
  refine (power_cut B pg p a c k l t w h.base h.pow hs hk hk2).mono ?_
  rintro e w' ⟨he, hp, hM⟩
  exact ⟨he, ⟨h.disk.pf hM, hp, h.ok, Nat.le_trans h.base hM.size, h.pend⟩, PF.df hM⟩
theorem DW.start {K : Nat → Prop} {B : Nat} {w : World} {g pg n : Nat} {d : DS} {p : PS} {m : Nat} (h : DW R K B w g pg n d p m) (hl0 : 0 ≤ p.life) (hl1 : p.life ≤ 4611686018427387904) {p' : PS} (hr : p.start = p') :
    Calls Try.prog 36 #[.pointer (some ⟨pg, 0, none⟩)] w fun e w' => e = .returned (.tuple #[]) ∧ DW R K B w' g pg n d p' m ∧ Mod (DF B) w w' := by
  subst hr
  refine (power_start B pg p w h.pow hl0 hl1).mono ?_
  rintro e w' ⟨he, hp, hM⟩
  exact ⟨he, ⟨h.disk.pf hM, hp, h.ok, Nat.le_trans h.base hM.size, h.pend⟩, PF.df hM⟩
theorem DW.arm {K : Nat → Prop} {B : Nat} {w : World} {g pg n : Nat} {d : DS} {p : PS} {m : Nat} (h : DW R K B w g pg n d p m) (N : Int) (a : Option Addr) (c k : Nat) (l : List Bool) (t : Int) (hs : Src (w.setCell ⟨pg, 4, none⟩ (.pointer none)) a (bovs l)) (hk : k = l.length) (hk2 : k ≤ 1000) (hN : N ≤ 9223372036854775807) {p' : PS} (hr : p.arm N l t = p') :
    Calls Try.prog 38 #[.pointer (some ⟨pg, 0, none⟩), .int .i64 N, .slice a k c, .int .i64 t] w fun e w' => e = .returned (.tuple #[]) ∧ DW R K B w' g pg n d p' m ∧ Mod (DF B) w w' := by
  subst hr
  refine (power_arm B pg p a c k l N t w h.base h.pow hs hk hk2 hN).mono ?_
  rintro e w' ⟨he, hp, hM⟩
  exact ⟨he, ⟨h.disk.pf hM, hp, h.ok, Nat.le_trans h.base hM.size, h.pend⟩, PF.df hM⟩
end Go.Proofs.Ytclkkhpnnbkfmaa
