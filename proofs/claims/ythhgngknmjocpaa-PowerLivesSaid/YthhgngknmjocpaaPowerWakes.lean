/- power: the contracts with their answers as variables; cellarerlaw08.wakes. -/
import Derived.Test.YthhgngknmjocpaaPower
namespace Go.Proofs.Ythhgngknmjocpaa
open Go.RowKit

theorem spend_some (L : Int) (K : List Bool) (T n : Int) (k : List Bool) (t : Int) : (PS.mk false L K T (some (n, k, t))).spend = if 1 < n then (true, ⟨false, L, K, T, some (n - 1, k, t)⟩) else (false, ⟨true, L, k, t, none⟩) := rfl
theorem spend_at {B g : Nat} {s s' : PS} {r : Bool} {w : World} (hB : B ≤ w.heap.size) (hp : Pow B w g s) (hs : s.spend = (r, s')) :
    Calls Try.prog 16 #[.pointer (some ⟨g, 0, none⟩)] w fun e w' => e = .returned (.bool r) ∧ Pow B w' g s' ∧ Below B w w' := by
  have h := power_spend B g s w hB hp
  rw [hs] at h
  exact h
theorem start_at {B g : Nat} {s s' : PS} {w : World} (hp : Pow B w g s) (hs : s.start = s') (hl0 : 0 ≤ s.life) (hl1 : s.life ≤ 4611686018427387904) :
    Calls Try.prog 18 #[.pointer (some ⟨g, 0, none⟩)] w fun e w' => e = .returned (.tuple #[]) ∧ Pow B w' g s' ∧ Below B w w' := by
  subst hs; exact power_start B g s w hp hl0 hl1
theorem arm_nil {B g : Nat} {s s' : PS} {n t : Int} {w : World} (hB : B ≤ w.heap.size) (hp : Pow B w g s) (hs : s.arm n [] t = s') (hn : n ≤ 9223372036854775807) :
    Calls Try.prog 15 #[.pointer (some ⟨g, 0, none⟩), .int .i64 n, .slice none 0 0, .int .i64 t] w fun e w' => e = .returned (.tuple #[]) ∧ Pow B w' g s' ∧ Below B w w' := by
  subst hs; exact power_arm B g s none 0 0 [] n t w hB hp (Src.nil _ _) rfl (by omega) hn
theorem cut_nil {B g : Nat} {s s' : PS} {t : Int} {w : World} (hB : B ≤ w.heap.size) (hp : Pow B w g s) (hs : s.cut [] t = s') :
    Calls Try.prog 23 #[.pointer (some ⟨g, 0, none⟩), .slice none 0 0, .int .i64 t] w fun e w' => e = .returned (.tuple #[]) ∧ Pow B w' g s' ∧ Below B w w' := by
  subst hs; exact power_cut B g s none 0 0 [] t w hB hp (Src.nil _ _) rfl (by omega)
theorem off_at {B g : Nat} {s : PS} {r : Bool} {w : World} (hp : Pow B w g s) (hs : s.off = r) :
    Calls Try.prog 17 #[.pointer (some ⟨g, 0, none⟩)] w fun e w' => e = .returned (.bool r) ∧ w = w' := by subst hs; exact power_off B g s w hp
theorem life_at {B g : Nat} {s : PS} {r : Int} {w : World} (hp : Pow B w g s) (hs : s.life = r) :
    Calls Try.prog 19 #[.pointer (some ⟨g, 0, none⟩)] w fun e w' => e = .returned (.int .i64 r) ∧ w = w' := by subst hs; exact power_life B g s w hp
theorem torn_at {B g : Nat} {s : PS} {r : Int} {w : World} (hp : Pow B w g s) (hs : s.torn = r) :
    Calls Try.prog 22 #[.pointer (some ⟨g, 0, none⟩)] w fun e w' => e = .returned (.int .i64 r) ∧ w = w' := by subst hs; exact power_torn B g s w hp
theorem kept_at {B g : Nat} {s : PS} {k : Int} {r : Bool} {w : World} (hp : Pow B w g s) (hs : s.kept k = r) :
    Calls Try.prog 21 #[.pointer (some ⟨g, 0, none⟩), .int .i64 k] w fun e w' => e = .returned (.bool r) ∧ w = w' := by subst hs; exact power_kept B g s k w hp

set_option maxHeartbeats 1000000 in
theorem wakes08_any (w : World) :
    Calls Try.prog 20 #[] w fun e w' => e = .returned (.bool true) ∧ Below w.heap.size w w' := by
  go_enter Try.func20, Try.ntmps20
  go_wp2_with fail
  refine (power_new w).mono ?_
  rintro e w1 ⟨g, rfl, hp, hb1⟩
  have hgl : g < w1.heap.size := by obtain ⟨_, _, _, hc, _⟩ := hp; exact heap_lt hc.2
  have hz1 := hb1.size
  go_wp2_with fail
  have hw2 := ext_alloc w1 (.cells #[.bool true] 4)
  have hs2 := src_new w1 [.bool true] 4
  have hz2 : (w1.alloc (.cells #[.bool true] 4)).heap.size = w1.heap.size + 1 := World.size_alloc _ _
  have hp2 := hp.ext hw2
  have hs3 : Src ((w1.alloc (.cells #[.bool true] 4)).setCell ⟨g, 4, none⟩ (.pointer none)) (some ⟨w1.heap.size, 0, none⟩) (bovs [true]) :=
    Src.keep hs2 fun b o h _ => setCell_ne b (by simp at h; omega)
  have hb2 := hb1.trans (hw2.mono hz1)
  refine (power_arm w.heap.size g PS.new (some ⟨w1.heap.size, 0, none⟩) 1 1 [true] 1 3 _ (by omega) hp2 hs3 rfl (by omega) (by omega)).mono ?_
  rintro e w3 ⟨rfl, hp3, hb3⟩
  clear hp hp2 hs2 hs3 hw2 hz2
  have hz3 := hb3.size
  have hz3' := (hb2.trans hb3).size
  go_wp2_with fail
  refine (spend_at (r := false) (s' := ⟨true, 0, [true], 3, none⟩) hz3' hp3 rfl).mono ?_
  rintro e w4 ⟨rfl, hp4, hb4⟩
  go_wp2_with fail
  refine (off_at hp4 rfl).mono ?_
  rintro e w5 ⟨rfl, rfl⟩
  go_wp2_with fail
  refine (kept_at (r := true) hp4 rfl).mono ?_
  rintro e w5 ⟨rfl, rfl⟩
  go_wp2_with fail
  refine (kept_at (r := false) hp4 rfl).mono ?_
  rintro e w5 ⟨rfl, rfl⟩
  go_wp2_with fail
  refine (torn_at hp4 rfl).mono ?_
  rintro e w5 ⟨rfl, rfl⟩
  go_wp2_with fail
  refine (life_at hp4 rfl).mono ?_
  rintro e w5 ⟨rfl, rfl⟩
  go_wp2
  go_ret
  exact ⟨rfl, (hb2.trans hb3).trans hb4⟩
end Go.Proofs.Ythhgngknmjocpaa
