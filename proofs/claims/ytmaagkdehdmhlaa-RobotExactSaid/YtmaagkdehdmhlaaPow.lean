/- power.Power: what its methods do, over a plain state; only blocks of its two types are written. -/
import Derived.Test.YtmaagkdehdmhlaaBase
import Derived.Test.YtmaagkdehdmhlaaRobotExactPartH
import Derived.Test.YtmaagkdehdmhlaaRobotExactPartA
import Derived.Test.YtmaagkdehdmhlaaProg
import Derived.Outline
import Derived.StillTailTactics
namespace Go.Proofs.Ytmaagkdehdmhlaa
open Go.RowKit

theorem infoBool : (Try.prog.info? 4).map (fun i => (i.zero, i.size, i.bytes)) = some (some (.bool false), 1, 1) := by kernel_rfl
theorem bovs_one (l : List Bool) : ∀ u ∈ bovs l, u.oneCell' = true := by
  intro u hu
  simp only [bovs, List.mem_map] at hu
  obtain ⟨b, _, rfl⟩ := hu
  rfl

set_option maxHeartbeats 400000 in
theorem clone_bools (a : Option Addr) (c n : Nat) (l : List Bool) (w : World) (hs : Src w a (bovs l)) (hn : n = l.length) (hl : n ≤ 140737488355328) :
    Calls Try.prog 46 #[.slice a n c] w fun e w' => ∃ a' c', e = .returned (.slice a' n c') ∧ Own w' w.heap.size 4 1 a' n c' (bovs l) ∧ Below w.heap.size w w' := by
  subst hn
  obtain ⟨i0, hi, hz0, hz1, hz2⟩ := info_parts infoBool
  go_enter Try.func46, Try.ntmps46
  have hnil := fun (wx : World) (aa : Option Addr) (n cc : Nat) => Lib.run_eql_slice_nil (P := Try.prog) wx 79 4 aa n cc 0 0 Try.underlying79
  cases a with
  | none =>
    have h0 : l = [] := by
      rcases hs with h | ⟨b, o, cs, T, m, ha, _⟩
      · simpa [bovs] using h
      · cases ha
    subst h0
    go_wp2
    go_ret
    exact ⟨none, 0, rfl, Own.nil _ _ _ _ _, Below.refl _ _⟩
  | some ad =>
    go_wp2_with (refine wpList_app rfl (.tmp 5) (.tmp 6) 79 rfl w.heap.size 4 i0 (.bool false) 1 1 Try.underlying79 hi hz0 hz1 hz2 rfl (by decide) (some ⟨w.heap.size, 0, none⟩) 0 0 [] rfl (Own.nil _ _ _ _ _) (some ad) l.length c (bovs l) rfl (by simp [bovs]) (hs.ext (ext_alloc w _)) (bovs_one l) (by unfold maxLen; omega) (by omega) (by simp) ?_; simp only [Nat.zero_add, List.nil_append]; intro a' c' w' hown hb)
    go_ret
    exact ⟨a', c', rfl, hown, (ext_alloc w _).trans hb⟩

def PCell (B : Nat) (w : World) (g : Nat) (off : Bool) (life : Int) (ka : Option Addr) (kn kc : Nat) (torn : Int) (tp : Option Addr) : Prop :=
  B ≤ g ∧ w.heap[g]? = some (.cells #[.bool off, .int .i64 life, .slice ka kn kc, .int .i64 torn, .pointer tp] 82 (0, 0))
def TCell (B : Nat) (w : World) (h : Nat) (n : Int) (ka : Option Addr) (kn kc : Nat) (torn : Int) : Prop :=
  B ≤ h ∧ w.heap[h]? = some (.cells #[.int .i64 n, .slice ka kn kc, .int .i64 torn] 97 (0, 0))
def Trip (B : Nat) (w : World) (tp : Option Addr) : Option (Int × List Bool × Int) → Prop
  | none => tp = none
  | some (n, l, t) => ∃ h a c, tp = some ⟨h, 0, none⟩ ∧ TCell B w h n a l.length c t ∧ Own w B 4 1 a l.length c (bovs l) ∧ l.length ≤ 1000 ∧ 1 ≤ n ∧ n ≤ 9223372036854775807
/-- The object in block g is the power s; all of it lies in blocks from B on. -/
def Pow (B : Nat) (w : World) (g : Nat) (s : PS) : Prop :=
  ∃ ka kc tp, PCell B w g s.off s.life ka s.keep.length kc s.torn tp ∧ Own w B 4 1 ka s.keep.length kc (bovs s.keep) ∧ s.keep.length ≤ 1000 ∧ Trip B w tp s.trip

/-- The same, but for what is armed. -/
def PowC (B : Nat) (w : World) (g : Nat) (s : PS) : Prop :=
  ∃ ka kc tp, PCell B w g s.off s.life ka s.keep.length kc s.torn tp ∧ Own w B 4 1 ka s.keep.length kc (bovs s.keep) ∧ s.keep.length ≤ 1000
theorem Pow.c {B : Nat} {w : World} {g : Nat} {s : PS} (h : Pow B w g s) : PowC B w g s := by
  obtain ⟨ka, kc, tp, hc, ho, hk, ht⟩ := h
  exact ⟨ka, kc, tp, hc, ho, hk⟩
theorem PowC.ext {B : Nat} {w w' : World} {g : Nat} {s : PS} (h : PowC B w g s) (hb : Below w.heap.size w w') : PowC B w' g s := by
  obtain ⟨ka, kc, tp, ⟨h1, h2⟩, ho, hk⟩ := h
  exact ⟨ka, kc, tp, ⟨h1, by rw [hb.block g (heap_lt h2)]; exact h2⟩, ho.ext hb, hk⟩

/-- What is owned stays as it is while an object of another type is written. -/
theorem Own.store {w w' : World} {B : Nat} {e : TypeId} {k : Nat} {a : Option Addr} {n c : Nat} {xs : List Value} (h : Own w B e k a n c xs) {g : Nat} {cs : Array Value} {T : TypeId} {m : Nat × Nat} (hg : w.heap[g]? = some (.cells cs T m)) (hT : T ≠ e)
    (hw : ∀ b, b ≠ g → w'.heap[b]? = w.heap[b]?) : Own w' B e k a n c xs := by
  obtain ⟨hl, h0 | ⟨g', cur, ha, hb', hh, rest⟩⟩ := h
  · exact ⟨hl, Or.inl h0⟩
  · refine ⟨hl, Or.inr ⟨g', cur, ha, hb', ?_, rest⟩⟩
    rw [hw g' ?_]
    · exact hh
    · rintro rfl
      rw [hg] at hh
      simp at hh
      exact hT hh.2.1
theorem setCell_ne {w : World} {g i : Nat} {v : Value} : ∀ b, b ≠ g → (w.setCell ⟨g, i, none⟩ v).heap[b]? = w.heap[b]? := fun b hb => Below.heap_setCell w ⟨g, i, none⟩ v b hb
theorem Trip.keep {B : Nat} {w w' : World} {tp : Option Addr} {t : Option (Int × List Bool × Int)} (h : Trip B w tp t) {g : Nat} {cs : Array Value} {m : Nat × Nat} (hg : w.heap[g]? = some (.cells cs 82 m))
    (hw : ∀ b, b ≠ g → w'.heap[b]? = w.heap[b]?) : Trip B w' tp t := by
  cases t with
  | none => exact h
  | some t =>
    obtain ⟨n, l, t⟩ := t
    obtain ⟨h, a, c, rfl, ⟨h1, h2⟩, ho, rest⟩ := h
    refine ⟨h, a, c, rfl, ⟨h1, ?_⟩, ho.store hg (by decide) hw, rest⟩
    rw [hw h ?_]
    · exact h2
    · rintro rfl
      rw [hg] at h2
      simp at h2
theorem Pow.ext {B : Nat} {w w' : World} {g : Nat} {s : PS} (h : Pow B w g s) (hb : Below w.heap.size w w') : Pow B w' g s := by
  obtain ⟨ka, kc, tp, ⟨h1, h2⟩, ho, hk, ht⟩ := h
  refine ⟨ka, kc, tp, ⟨h1, by rw [hb.block g (heap_lt h2)]; exact h2⟩, ho.ext hb, hk, ?_⟩
  generalize s.trip = t at *
  cases t with
  | none => exact ht
  | some t =>
    obtain ⟨n, l, t⟩ := t
    obtain ⟨h, a, c, rfl, ⟨h1, h2⟩, ho, rest⟩ := ht
    exact ⟨h, a, c, rfl, ⟨h1, by rw [hb.block h (heap_lt h2)]; exact h2⟩, ho.ext hb, rest⟩
theorem Pow.mono {B B' : Nat} {w : World} {g : Nat} {s : PS} (h : Pow B w g s) (hB : B' ≤ B) : Pow B' w g s := by
  obtain ⟨ka, kc, tp, ⟨h1, h2⟩, ho, hk, ht⟩ := h
  refine ⟨ka, kc, tp, ⟨by omega, h2⟩, ho.mono hB, hk, ?_⟩
  generalize s.trip = t at *
  cases t with
  | none => exact ht
  | some t =>
    obtain ⟨n, l, t⟩ := t
    obtain ⟨h, a, c, rfl, ⟨h1, h2⟩, ho, rest⟩ := ht
    exact ⟨h, a, c, rfl, ⟨by omega, h2⟩, ho.mono hB, rest⟩
theorem PCell.cells {B : Nat} {w : World} {g : Nat} {off : Bool} {life : Int} {ka : Option Addr} {kn kc : Nat} {torn : Int} {tp : Option Addr} (h : PCell B w g off life ka kn kc torn tp) :
    w.cell? ⟨g, 0, none⟩ = some (.bool off) ∧ w.cell? ⟨g, 1, none⟩ = some (.int .i64 life) ∧ w.cell? ⟨g, 2, none⟩ = some (.slice ka kn kc) ∧ w.cell? ⟨g, 3, none⟩ = some (.int .i64 torn) ∧ w.cell? ⟨g, 4, none⟩ = some (.pointer tp) ∧ (∀ j, w.frozen? ⟨g, j, none⟩ = false) ∧ g < w.heap.size := by
  obtain ⟨_, h⟩ := h
  refine ⟨?_, ?_, ?_, ?_, ?_, fun j => frozen_of_row w g j _ _ h, heap_lt h⟩ <;> (rw [cell_of_row w g _ _ _ _ h]; rfl)
theorem TCell.cells {B : Nat} {w : World} {h : Nat} {n : Int} {ka : Option Addr} {kn kc : Nat} {torn : Int} (hc : TCell B w h n ka kn kc torn) :
    w.cell? ⟨h, 0, none⟩ = some (.int .i64 n) ∧ w.cell? ⟨h, 1, none⟩ = some (.slice ka kn kc) ∧ w.cell? ⟨h, 2, none⟩ = some (.int .i64 torn) ∧ (∀ j, w.frozen? ⟨h, j, none⟩ = false) ∧ h < w.heap.size := by
  obtain ⟨_, hh⟩ := hc
  refine ⟨?_, ?_, ?_, fun j => frozen_of_row w h j _ _ hh, heap_lt hh⟩ <;> (rw [cell_of_row w h _ _ _ _ hh]; rfl)

theorem power_new (w : World) :
    Calls Try.prog 5 #[] w fun e w' => ∃ g, e = .returned (.pointer (some ⟨g, 0, none⟩)) ∧ Pow w.heap.size w' g PS.new ∧ Below w.heap.size w w' := by
  go_enter Try.func5, Try.ntmps5
  go_wp2
  go_ret
  refine ⟨w.heap.size, rfl, ⟨none, 0, none, ⟨Nat.le_refl _, heap_alloc_at w _⟩, Own.nil _ _ _ _ _, by simp [PS.new], rfl⟩, ext_alloc w _⟩
theorem power_off (B g : Nat) (s : PS) (w : World) (hp : Pow B w g s) :
    Calls Try.prog 47 #[.pointer (some ⟨g, 0, none⟩)] w fun e w' => e = .returned (.bool s.off) ∧ w = w' := by
  obtain ⟨ka, kc, tp, hc, ho, hk, ht⟩ := hp
  obtain ⟨h0, h1, h2, h3, h4, hf, hl⟩ := hc.cells
  go_enter Try.func47, Try.ntmps47
  go_wp2
  go_ret
  exact ⟨rfl, rfl⟩
theorem power_torn (B g : Nat) (s : PS) (w : World) (hp : Pow B w g s) :
    Calls Try.prog 53 #[.pointer (some ⟨g, 0, none⟩)] w fun e w' => e = .returned (.int .i64 s.torn) ∧ w = w' := by
  obtain ⟨ka, kc, tp, hc, ho, hk, ht⟩ := hp
  obtain ⟨h0, h1, h2, h3, h4, hf, hl⟩ := hc.cells
  go_enter Try.func53, Try.ntmps53
  go_wp2
  go_ret
  exact ⟨rfl, rfl⟩
def PT : List TypeId := [82, 97]
/-- What a power's methods may write. -/
abbrev PF (B : Nat) : Nat → TypeId → Prop := inT B PT
theorem PF_p {B g : Nat} (h : B ≤ g) : PF B g 82 := ⟨h, by decide⟩
theorem PF_a {B g : Nat} (h : B ≤ g) : PF B g 97 := ⟨h, by decide⟩
/-- What writes no power leaves it. -/
theorem Pow.mod {F : Nat → TypeId → Prop} {B : Nat} {w w' : World} {g : Nat} {s : PS} (h : Pow B w g s) (hm : Mod F w w') (hF : ∀ b T, F b T → T ≠ 82 ∧ T ≠ 97 ∧ T ≠ 4) : Pow B w' g s := by
  obtain ⟨ka, kc, tp, ⟨h1, h2⟩, ho, hk, ht⟩ := h
  refine ⟨ka, kc, tp, ⟨h1, hm.keep h2 fun hf => (hF _ _ hf).1 rfl⟩, ho.mod hm fun _ _ _ hf => (hF _ _ hf).2.2 rfl, hk, ?_⟩
  generalize s.trip = t at *
  cases t with
  | none => exact ht
  | some t =>
    obtain ⟨n, l, t⟩ := t
    obtain ⟨h, a, c, rfl, ⟨h1, h2⟩, ho, rest⟩ := ht
    exact ⟨h, a, c, rfl, ⟨h1, hm.keep h2 fun hf => (hF _ _ hf).2.1 rfl⟩, ho.mod hm fun _ _ _ hf => (hF _ _ hf).2.2 rfl, rest⟩
theorem power_start (B g : Nat) (s : PS) (w : World) (hp : Pow B w g s) (hl0 : 0 ≤ s.life) (hl1 : s.life ≤ 4611686018427387904) :
    Calls Try.prog 20 #[.pointer (some ⟨g, 0, none⟩)] w fun e w' => e = .returned (.tuple #[]) ∧ Pow B w' g s.start ∧ Mod (PF B) w w' := by
  have hp0 := hp
  obtain ⟨ka, kc, tp, hc, ho, hk, ht⟩ := hp
  obtain ⟨h0, h1, h2, h3, h4, hf, hl⟩ := hc.cells
  cases hoff : s.off with
  | false =>
    rw [hoff] at h0 hc
    have hs : s.start = s := by unfold PS.start; rw [hoff]; rfl
    rw [hs]
    clear hs
    go_enter Try.func20, Try.ntmps20
    go_wp2
    go_end0
    exact ⟨rfl, hp0, Mod.refl _ _⟩
  | true =>
    rw [hoff] at h0 hc
    have hs : s.start = { s with off := false, life := s.life + 1 } := by unfold PS.start; rw [hoff]; rfl
    rw [hs]
    clear hs
    go_enter Try.func20, Try.ntmps20
    go_wp2
    go_end0
    have hw : ∀ b, b ≠ g → ((w.setCell ⟨g, 0, none⟩ (.bool false)).setCell ⟨g, 1, none⟩ (.int .i64 (s.life + 1))).heap[b]? = w.heap[b]? := fun b hb => by rw [setCell_ne b hb, setCell_ne b hb]
    refine ⟨rfl, ⟨ka, kc, tp, ⟨hc.1, ?_⟩, ho.store hc.2 (by decide) hw, hk, ht.keep hc.2 hw⟩, ((Mod.refl _ _).setCell hc.2 (PF_p hc.1) _ _).setCell (heap_setCell_same w g 0 _ _ _ hc.2) (PF_p hc.1) _ _⟩
    rw [heap_setCell_same _ g 1 _ _ _ (heap_setCell_same w g 0 _ _ _ hc.2)]
    rfl
theorem power_cut_on (B g : Nat) (s : PS) (a : Option Addr) (c n : Nat) (l : List Bool) (t : Int) (w : World) (hB : B ≤ w.heap.size) (hp : PowC B w g s) (hoff : s.off = false) (hs : Src w a (bovs l)) (hn : n = l.length) (hn2 : n ≤ 1000) :
    Calls Try.prog 18 #[.pointer (some ⟨g, 0, none⟩), .slice a n c, .int .i64 t] w fun e w' => e = .returned (.tuple #[]) ∧ Pow B w' g (s.cut l t) ∧ Mod (PF B) w w' := by
  have hp0 := hp
  obtain ⟨ka, kc, tp, hc, ho, hk⟩ := hp
  obtain ⟨h0, h1, h2, h3, h4, hf, hl⟩ := hc.cells
  have hS : s.cut l t = { s with off := true, keep := l, torn := t, trip := none } := by unfold PS.cut; rw [hoff]; rfl
  rw [hS]
  clear hS
  have Hn := Lib.hid hn
  clear hn
  go_enter Try.func18, Try.ntmps18
  rw [hoff] at h0
  go_wp2_with fail
  refine (clone_bools a c n l w hs Hn.out (by omega)).mono ?_
  rintro e w1 ⟨a1, c1, rfl, ho1, hb1⟩
  clear h0 h1 h2 h3 h4 hf hl hc ho hoff
  obtain ⟨ka, kc, tp, hc, ho, hk⟩ := hp0.ext hb1
  obtain ⟨h0, h1, h2, h3, h4, hf, hl⟩ := hc.cells
  go_wp2_with fail
  go_end0
  have hn := Hn.out
  subst hn
  refine ⟨rfl, ⟨a1, c1, none, ⟨hc.1, ?_⟩, ?_, hn2, rfl⟩, ?_⟩
  · rw [heap_setCell_same _ g 4 _ _ _ (heap_setCell_same _ g 3 _ _ _ (heap_setCell_same _ g 2 _ _ _ (heap_setCell_same w1 g 0 _ _ _ hc.2)))]
    rfl
  · exact (ho1.mono hB).store hc.2 (by decide) fun b hb => by rw [setCell_ne b hb, setCell_ne b hb, setCell_ne b hb, setCell_ne b hb]
  · exact (((((bmod hb1 _).setCell hc.2 (PF_p hc.1) _ _).setCell (heap_setCell_same _ g 0 _ _ _ hc.2) (PF_p hc.1) _ _).setCell (heap_setCell_same _ g 2 _ _ _ (heap_setCell_same w1 g 0 _ _ _ hc.2)) (PF_p hc.1) _ _).setCell (heap_setCell_same _ g 3 _ _ _ (heap_setCell_same _ g 2 _ _ _ (heap_setCell_same w1 g 0 _ _ _ hc.2))) (PF_p hc.1) _ _)
theorem power_cut (B g : Nat) (s : PS) (a : Option Addr) (c n : Nat) (l : List Bool) (t : Int) (w : World) (hB : B ≤ w.heap.size) (hp : Pow B w g s) (hs : Src w a (bovs l)) (hn : n = l.length) (hn2 : n ≤ 1000) :
    Calls Try.prog 18 #[.pointer (some ⟨g, 0, none⟩), .slice a n c, .int .i64 t] w fun e w' => e = .returned (.tuple #[]) ∧ Pow B w' g (s.cut l t) ∧ Mod (PF B) w w' := by
  have hp0 := hp
  cases hoff : s.off with
  | true =>
    obtain ⟨ka, kc, tp, hc, ho, hk, ht⟩ := hp
    obtain ⟨h0, h1, h2, h3, h4, hf, hl⟩ := hc.cells
    rw [hoff] at h0 hc
    have hs : s.cut l t = s := by unfold PS.cut; rw [hoff]; rfl
    rw [hs]
    clear hs
    go_enter Try.func18, Try.ntmps18
    go_wp2
    refine bodyPost_ret (results_none rfl _ _ _) rfl ?_
    exact ⟨rfl, hp0, Mod.refl _ _⟩
  | false => exact power_cut_on B g s a c n l t w hB hp.c hoff hs hn hn2
theorem power_arm (B g : Nat) (s : PS) (a : Option Addr) (c N : Nat) (l : List Bool) (n t : Int) (w : World) (hB : B ≤ w.heap.size) (hp : Pow B w g s) (hs : Src (w.setCell ⟨g, 4, none⟩ (.pointer none)) a (bovs l)) (hN : N = l.length) (hn2 : N ≤ 1000) (hn : n ≤ 9223372036854775807) :
    Calls Try.prog 22 #[.pointer (some ⟨g, 0, none⟩), .int .i64 n, .slice a N c, .int .i64 t] w fun e w' => e = .returned (.tuple #[]) ∧ Pow B w' g (s.arm n l t) ∧ Mod (PF B) w w' := by
  obtain ⟨ka, kc, tp, hc, ho, hk, ht⟩ := hp
  obtain ⟨h0, h1, h2, h3, h4, hf, hl⟩ := hc.cells
  have hw0 : ∀ b, b ≠ g → (w.setCell ⟨g, 4, none⟩ (.pointer none)).heap[b]? = w.heap[b]? := fun b hb => setCell_ne b hb
  have hg0 := heap_setCell_same w g 4 _ _ (.pointer none) hc.2
  have hb0 : Mod (PF B) w (w.setCell ⟨g, 4, none⟩ (.pointer none)) := (Mod.refl _ _).setCell hc.2 (PF_p hc.1) _ _
  have hp0 : Pow B (w.setCell ⟨g, 4, none⟩ (.pointer none)) g { s with trip := none } := ⟨ka, kc, none, ⟨hc.1, hg0⟩, ho.store hc.2 (by decide) hw0, hk, rfl⟩
  have Hb0 := Lib.hid hb0
  by_cases h : 1 ≤ n
  · have hS : s.arm n l t = { s with trip := some (n, l, t) } := by unfold PS.arm; rw [if_pos h]
    rw [hS]
    have Hn := Lib.hid hN
    clear hS hN hg0 hw0 hb0
    have hsz : B ≤ (w.setCell ⟨g, 4, none⟩ (.pointer none)).heap.size := by have := Hb0.out.size; omega
    go_enter Try.func22, Try.ntmps22
    go_wp2_with fail
    generalize w.setCell ⟨g, 4, none⟩ (.pointer none) = w0 at *
    refine (clone_bools a c N l w0 hs Hn.out (by omega)).mono ?_
    rintro e w1 ⟨a1, c1, rfl, ho1, hb1⟩
    clear h0 h1 h2 h3 h4 hf hl hc ho ht
    have hp1 := hp0.ext hb1
    obtain ⟨ka, kc, tp, hc, ho, hk, ht⟩ := hp1
    obtain ⟨h0, h1, h2, h3, h4, hf, hl⟩ := hc.cells
    go_wp2_with fail
    go_end0
    have hN := Hn.out
    subst hN
    have hsz1 := hb1.size
    have hb2 := Mod.setCell (bmod hb1 (PF B)) hc.2 (PF_p hc.1) 4 (.pointer (some ⟨w1.heap.size, 0, none⟩))
    have hg2 := heap_setCell_same w1 g 4 _ _ (.pointer (some ⟨w1.heap.size, 0, none⟩)) hc.2
    have hw2 : ∀ b, b ≠ g → (w1.setCell ⟨g, 4, none⟩ (.pointer (some ⟨w1.heap.size, 0, none⟩))).heap[b]? = w1.heap[b]? := fun b hb => setCell_ne b hb
    have hz2 : (w1.setCell ⟨g, 4, none⟩ (.pointer (some ⟨w1.heap.size, 0, none⟩))).heap.size = w1.heap.size := World.size_setCell _ _ _
    generalize w1.setCell ⟨g, 4, none⟩ (.pointer (some ⟨w1.heap.size, 0, none⟩)) = w2 at *
    have hb3 := ext_alloc w2 (Obj.cells #[Value.int IntKind.i64 n, Value.slice a1 l.length c1, Value.int IntKind.i64 t] 97)
    refine ⟨rfl, ⟨ka, kc, some ⟨w1.heap.size, 0, none⟩, ⟨hc.1, ?_⟩, (ho.store hc.2 (by decide) hw2).ext hb3, hk, ?_⟩, (Hb0.out.trans hb2).trans (bmod hb3 _)⟩
    · rw [hb3.block g (by rw [hz2]; exact hl)]
      exact hg2
    · refine ⟨w1.heap.size, a1, c1, rfl, ⟨by omega, ?_⟩, (((ho1.mono hsz).store hc.2 (by decide) hw2).ext hb3), hn2, by omega, hn⟩
      rw [← hz2]
      exact heap_alloc_at w2 _
  · have hS : s.arm n l t = { s with trip := none } := by unfold PS.arm; rw [if_neg h]
    rw [hS]
    clear hS
    clear hg0 hw0 hb0
    go_enter Try.func22, Try.ntmps22
    go_wp2_with fail
    go_end0
    exact ⟨rfl, hp0, Hb0.out⟩
set_option maxRecDepth 100000 in
set_option maxHeartbeats 1000000 in
theorem power_spend (B g : Nat) (s : PS) (w : World) (hB : B ≤ w.heap.size) (hp : Pow B w g s) :
    Calls Try.prog 52 #[.pointer (some ⟨g, 0, none⟩)] w fun e w' => e = .returned (.bool s.spend.1) ∧ Pow B w' g s.spend.2 ∧ Mod (PF B) w w' := by
  have hp0 := hp
  obtain ⟨ka, kc, tp, hc, ho, hk, ht⟩ := hp
  obtain ⟨h0, h1, h2, h3, h4, hf, hl⟩ := hc.cells
  cases hoff : s.off with
  | true =>
    have hS : s.spend = (false, s) := by unfold PS.spend; rw [hoff]; rfl
    rw [hS]
    clear hS
    rw [hoff] at h0
    go_enter Try.func52, Try.ntmps52
    go_wp2
    go_ret
    exact ⟨rfl, hp0, Mod.refl _ _⟩
  | false =>
    rw [hoff] at h0
    cases htr : s.trip with
    | none =>
      have hS : s.spend = (true, s) := by unfold PS.spend; rw [hoff, htr]; rfl
      rw [hS]
      rw [htr] at ht
      have htp : tp = none := ht
      subst htp
      clear hS
      go_enter Try.func52, Try.ntmps52
      go_wp2
      go_ret
      exact ⟨rfl, hp0, Mod.refl _ _⟩
    | some tr =>
      obtain ⟨n, l, t⟩ := tr
      rw [htr] at ht
      obtain ⟨h, ta, tc, rfl, htc, hto, htl, hn0, hn1⟩ := ht
      obtain ⟨t0, t1, t2, htf, hth⟩ := htc.cells
      have hne : h ≠ g := by
        rintro rfl
        have := htc.2
        rw [hc.2] at this
        simp at this
      have hw1 : ∀ b, b ≠ h → (w.setCell ⟨h, 0, none⟩ (.int .i64 (n - 1))).heap[b]? = w.heap[b]? := fun b hb => setCell_ne b hb
      have hg1 := heap_setCell_same w h 0 _ _ (.int .i64 (n - 1)) htc.2
      have hb1 := Mod.setCell (Mod.refl (PF B) w) htc.2 (PF_a htc.1) 0 (.int .i64 (n - 1))
      have ho1 := ho.store htc.2 (by decide) hw1
      have hto1 := hto.store htc.2 (by decide) hw1
      have hc1 : PCell B (w.setCell ⟨h, 0, none⟩ (.int .i64 (n - 1))) g s.off s.life ka s.keep.length kc s.torn (some ⟨h, 0, none⟩) := ⟨hc.1, by rw [hw1 g (fun e => hne e.symm)]; exact hc.2⟩
      have hsz1 : (w.setCell ⟨h, 0, none⟩ (.int .i64 (n - 1))).heap.size = w.heap.size := World.size_setCell _ _ _
      have Hsz := Lib.hid hsz1
      have Hw1 := Lib.hid hw1
      have Hg1 := Lib.hid hg1
      clear hsz1 hw1 hg1
      by_cases h1n : 1 < n
      · have hS : s.spend = (true, { s with trip := some (n - 1, l, t) }) := by unfold PS.spend; rw [hoff, htr]; simp [h1n]
        rw [hS]
        clear hS
        go_enter Try.func52, Try.ntmps52
        go_wp2
        go_ret
        exact ⟨rfl, ⟨ka, kc, _, hc1, ho1, hk, ⟨h, ta, tc, rfl, ⟨htc.1, Hg1.out⟩, hto1, htl, by omega, by omega⟩⟩, hb1⟩
      · have hS : s.spend = (false, s.cut l t) := by unfold PS.spend; rw [hoff, htr]; simp [h1n]
        rw [hS]
        clear hS
        have hn1 : n = 1 := by omega
        subst hn1
        rw [show (1 : Int) - 1 = 0 from rfl] at ho1 hto1 hc1 hb1
        have htc1 : TCell B (w.setCell ⟨h, 0, none⟩ (.int .i64 0)) h 0 ta l.length tc t := ⟨htc.1, Hg1.out⟩
        have hd : Below (w.setCell ⟨h, 0, none⟩ (.int .i64 0)).heap.size (w.setCell ⟨h, 0, none⟩ (.int .i64 0)) (w.setCell ⟨h, 0, none⟩ (.int .i64 0)).drew := ext_drewN _ 1 _
        have hds : B ≤ (w.setCell ⟨h, 0, none⟩ (.int .i64 0)).drew.heap.size := by have := hd.size; rw [show (w.setCell ⟨h, 0, none⟩ (.int .i64 0)).heap.size = w.heap.size from Hsz.out] at this; omega
        have HC := Lib.hid (power_cut_on B g s ta tc l.length l t (w.setCell ⟨h, 0, none⟩ (.int .i64 0)).drew hds (PowC.ext ⟨ka, kc, _, hc1, ho1, hk⟩ hd) hoff (hto1.ext hd).src rfl htl)
        have Hd : Hid (Mod (PF B) (w.setCell ⟨h, 0, none⟩ (.int .i64 0)) (w.setCell ⟨h, 0, none⟩ (.int .i64 0)).drew) := Lib.hid (bmod (ext_drewN _ 1 _) _)
        clear hd hds
        have Hc4 := Lib.hid hc1.cells.2.2.2.2.1
        have Hc5 := Lib.hid htc1.cells.2.1
        have Hc6 := Lib.hid htc1.cells.2.2.1
        clear ho1 hto1 hc1 ho hto htc hc htr hoff hp0 htc1
        go_enter Try.func52, Try.ntmps52
        go_wp2_with fail
        clear h0 h1 h2 h3 h4 t0 t1 t2 hf htf hl hth
        have Hb1 := Lib.hid hb1
        clear hb1 Hg1 Hw1 Hsz
        generalize w.setCell ⟨h, 0, none⟩ (.int .i64 0) = W at *
        have c4 := Hc4.out
        have c5 := Hc5.out
        have c6 := Hc6.out
        go_still_tail 15, (by kernel_rfl)
        go_wp2_with fail
        refine HC.out.mono ?_
        rintro e w' ⟨rfl, hp2, hb2⟩
        go_wp2
        go_ret
        exact ⟨rfl, hp2, (Hb1.out.trans Hd.out).trans hb2⟩
end Go.Proofs.Ytmaagkdehdmhlaa
