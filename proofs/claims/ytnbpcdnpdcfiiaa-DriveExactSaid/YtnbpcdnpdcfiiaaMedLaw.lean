/- cellarerlaw07.Heavy, cellarerref07.Medium. -/
import Derived.Test.YtnbpcdnpdcfiiaaDriveExactPartD
namespace Go.Proofs.Ytnbpcdnpdcfiiaa
open Go.RowKit

theorem badC_mono (cs : List CellV) (k : Nat) (h : badC (cs.take k) = true) : badC cs = true := by
  rw [badC, List.any_eq_true] at h ⊢
  obtain ⟨x, hx, h⟩ := h
  exact ⟨x, List.mem_of_mem_take hx, h⟩
/-- A tape that the law plays. -/
def LightM (cs : List CellV) : Prop := cs.length ≤ 80 ∧ ∀ x ∈ cs, x.d.l.length ≤ 300

set_option maxRecDepth 100000 in
set_option maxHeartbeats 2000000 in
theorem heavy07 (cap : Int) (a : Option Addr) (c n : Nat) (cs : List CellV) (w : World) (hs : CMat w a cs) (hn : n = cs.length) (hn2 : n ≤ 9223372036854775807) :
    Calls Try.prog 9 #[.agg #[.int .i64 cap, .slice a n c]] w fun e w' => (e = .returned (.bool true) ∧ Below w.heap.size w w') ∨ (e = .returned (.bool false) ∧ Below w.heap.size w w' ∧ LightM cs) := by
  have hb := ext_alloc w (.cells #[.int .i64 cap, .slice a n c] 24)
  have hz := heap_alloc_new w (.cells #[.int .i64 cap, .slice a n c] 24)
  have hzl := heap_lt hz
  have Hs := Lib.hid hs
  have Hn := Lib.hid hn
  clear hs hn
  by_cases h80 : n ≤ 80
  · have g80 : ¬ 80 < n := by omega
    go_enter Try.func9, Try.ntmps9
    go_wp2_with fail
    go_loop [3] (fun i => ∃ (k : Nat), k ≤ n ∧ i = .int .i64 (k : Int) ∧ (∀ (j : Nat) (h : j < cs.length), j < k → cs[j].d.l.length ≤ 300)) (fun i => n - (intOf i).toNat)
    case atStart => exact ⟨0, by omega, rfl, fun j _ h => by omega⟩
    case round =>
      obtain ⟨k, hk, rfl, hall⟩ := hrel
      have Hall := Lib.hid hall
      clear hall
      have hbr := hb
      by_cases hlt : k < n
      · have hkl : k < cs.length := by have := Hn.out; omega
        have hx : cs[k].d.l.length = cs[k].d.l.length := rfl
        obtain ⟨b, o, rfl, hlb, hat⟩ := Hs.out.src.elem CellV.len (by decide) hkl
        have q1 := hat k hkl 1 (.slice cs[k].d.a cs[k].d.l.length cs[k].d.c) rfl
        have c1 := (World.cell?_of_block (w := w) (a := ⟨b, o + k * 3 + 1, none⟩) (hbr.block b hlb)).trans q1
        have hxl := (Hs.out.row _ (List.getElem_mem hkl)).2
        obtain ⟨L, hL⟩ : ∃ L, L = cs[k].d.l.length := ⟨_, rfl⟩
        rw [← hL] at c1 hxl
        have HLL := Lib.hid hL
        clear hat q1 hx hL
        by_cases h3 : L ≤ 300
        · have g3 : ¬ 300 < L := by omega
          go_wp2_with fail
          go_round
          case rel =>
            refine ⟨k + 1, by omega, by go_num, fun j hj hjk => ?_⟩
            by_cases hjk' : j = k
            · subst hjk'
              rw [← HLL.out]; exact h3
            · exact Hall.out j hj (by omega)
          case measure => simp [intOf]; omega
        · have g3 : 300 < L := by omega
          go_wp2
          go_ret
          exact .inl ⟨rfl, hb⟩
      · go_wp2
        go_ret
        refine .inr ⟨rfl, hb, by rw [← Hn.out]; exact h80, fun x hx => ?_⟩
        obtain ⟨j, hj, rfl⟩ := List.getElem_of_mem hx
        exact Hall.out j hj (by have := Hn.out; omega)
  · have g80 : 80 < n := by omega
    go_enter Try.func9, Try.ntmps9
    go_wp2
    go_ret
    exact .inl ⟨rfl, hb⟩

set_option maxRecDepth 100000 in
set_option maxHeartbeats 4000000 in
theorem refmed_any (cap : Int) (a : Option Addr) (c n : Nat) (cs : List CellV) (r : Bool) (w : World) (hs : CMat w a cs) (hn : n = cs.length) (hn2 : n ≤ 9223372036854775807) (hr : (medOf cap cs).ok = r) :
    Calls Try.prog 15 #[.agg #[.int .i64 cap, .slice a n c]] w fun e w' => e = .returned (.bool r) ∧ Below w.heap.size w w' := by
  have HR : Hid ((decide (1 ≤ cap ∧ cap ≤ 400 ∧ (n : Int) ≤ cap) && !badC cs) = r) := Lib.hid (by
    rw [← hr, Med.ok, badC_pls, Bool.not_not]
    show (decide (1 ≤ cap ∧ cap ≤ 400 ∧ (n : Int) ≤ cap) && (pls cs).all CellP.right) = (decide (1 ≤ cap ∧ cap ≤ 400 ∧ ((pls cs).length : Int) ≤ cap) && (pls cs).all CellP.right)
    rw [pls_length, hn])
  have Hs := Lib.hid hs
  have Hn := Lib.hid hn
  have hb := ext_alloc w (.cells #[.int .i64 cap, .slice a n c] 24)
  have hz := heap_alloc_new w (.cells #[.int .i64 cap, .slice a n c] 24)
  have hzl := heap_lt hz
  clear hr hs hn
  by_cases h1 : 1 ≤ cap
  · by_cases h4 : cap ≤ 400
    · by_cases h2 : (n : Int) ≤ cap
      · have HR2 := Lib.hid (show (!badC cs) = r by rw [← HR.out, decide_eq_true ⟨h1, h4, h2⟩, Bool.true_and])
        have g1 : ¬ cap < 1 := by omega
        have g4 : ¬ 400 < cap := by omega
        have g2 : ¬ cap < (n : Int) := by omega
        clear h1 h4 h2
        go_enter Try.func15, Try.ntmps15
        go_wp2_with fail
        go_loop [3] (fun i => ∃ (k : Nat), k ≤ n ∧ i = .int .i64 (k : Int) ∧ badC (cs.take k) = false) (fun i => n - (intOf i).toNat)
        case atStart => exact ⟨0, by omega, rfl, rfl⟩
        case round =>
          obtain ⟨k, hk, rfl, hbad⟩ := hrel
          have Hbad := Lib.hid hbad
          clear hbad
          have hbr := hb
          by_cases hlt : k < n
          · have hkl : k < cs.length := by have := Hn.out; omega
            have hc := List.getElem_mem hkl
            obtain ⟨b, o, rfl, hlb, hat⟩ := Hs.out.src.elem CellV.len (by decide) hkl
            have q0 := hat k hkl 0 _ rfl
            have q1 := hat k hkl 1 _ rfl
            have Htk := Lib.hid (badC_take cs k hkl)
            have hxl := (Hs.out.row _ hc).2
            have Hmem := Lib.hid hc
            generalize cs[k] = x at *
            obtain ⟨kd, ⟨xa, xc, xl⟩, bd⟩ := x
            dsimp only at *
            have c0 := (World.cell?_of_block (w := w) (a := ⟨b, o + k * 3, none⟩) (hbr.block b hlb)).trans q0
            have c1 := (World.cell?_of_block (w := w) (a := ⟨b, o + k * 3 + 1, none⟩) (hbr.block b hlb)).trans q1
            generalize xl.length = L at *
            clear hat q0 q1 hc
            clear hbr
            cases hrc : rightC kd L with
            | true =>
              have Htk2 := Lib.hid (show badC (cs.take (k + 1)) = false by rw [Htk.out, Hbad.out, hrc]; rfl)
              have h3 : kd = 1 ∧ 1 ≤ L ∧ L ≤ 256 ∨ kd = 2 ∧ L = 0 ∨ kd = 3 ∧ L ≤ 256 := by unfold rightC at hrc; rwa [decide_eq_true_eq] at hrc
              clear hrc
              rcases h3 with ⟨rfl, h5, h6⟩ | ⟨rfl, rfl⟩ | ⟨rfl, h6⟩
              · have f1 : ¬ L < 1 := by omega
                have f2 : ¬ 256 < L := by omega
                go_wp2_with fail
                go_round
                case rel => exact ⟨k + 1, by omega, by go_num, Htk2.out⟩
                case measure => simp [intOf]; omega
              · go_wp2_with fail
                go_round
                case rel => exact ⟨k + 1, by omega, by go_num, Htk2.out⟩
                case measure => simp [intOf]; omega
              · have f2 : ¬ 256 < L := by omega
                go_wp2_with fail
                go_round
                case rel => exact ⟨k + 1, by omega, by go_num, Htk2.out⟩
                case measure => simp [intOf]; omega
            | false =>
              have hbc : badC cs = true := by
                exact badC_mono cs (k + 1) (by rw [Htk.out, hrc]; simp)
              have hr : r = false := by rw [← HR2.out, hbc]; rfl
              subst hr
              have h3 : ¬ (kd = 1 ∧ 1 ≤ L ∧ L ≤ 256 ∨ kd = 2 ∧ L = 0 ∨ kd = 3 ∧ L ≤ 256) := by unfold rightC at hrc; rwa [decide_eq_false_iff_not] at hrc
              clear hrc hbc
              by_cases k1 : kd = 1
              · subst k1
                by_cases l0 : L = 0
                · subst l0
                  clear h3
                  go_wp2
                  go_ret
                  exact ⟨rfl, hb⟩
                · have f2 : 256 < L := by omega
                  clear h3
                  go_wp2
                  go_ret
                  exact ⟨rfl, hb⟩
              · by_cases k2 : kd = 2
                · subst k2
                  by_cases l2 : L ≤ 256
                  · have f2 : ¬ 256 < L := by omega
                    have f0 : 0 < L := by omega
                    clear h3
                    go_wp2
                    go_ret
                    exact ⟨rfl, hb⟩
                  · have f2 : 256 < L := by omega
                    clear h3
                    go_wp2
                    go_ret
                    exact ⟨rfl, hb⟩
                · by_cases k3 : kd = 3
                  · subst k3
                    have f2 : 256 < L := by omega
                    clear h3
                    go_wp2
                    go_ret
                    exact ⟨rfl, hb⟩
                  · have f1 : (kd != 1) = true := by simpa using k1
                    have f2 : (kd != 2) = true := by simpa using k2
                    have f3 : (kd != 3) = true := by simpa using k3
                    clear k1 k2 k3 h3
                    go_wp2
                    go_ret
                    exact ⟨rfl, hb⟩
          · have hbc : badC cs = false := by
              have h1 := Hbad.out
              rw [List.take_of_length_le (by have := Hn.out; omega)] at h1
              exact h1
            have hr : r = true := by rw [← HR2.out, hbc]; rfl
            subst hr
            clear hbc
            go_wp2
            go_ret
            exact ⟨rfl, hb⟩
      · have hr : r = false := by rw [← HR.out, decide_eq_false (by omega), Bool.false_and]
        subst hr
        have g1 : ¬ cap < 1 := by omega
        have g4 : ¬ 400 < cap := by omega
        have g2 : cap < (n : Int) := by omega
        clear h1 h4 h2
        go_enter Try.func15, Try.ntmps15
        go_wp2
        go_ret
        exact ⟨rfl, hb⟩
    · have hr : r = false := by rw [← HR.out, decide_eq_false (by omega), Bool.false_and]
      subst hr
      have g1 : ¬ cap < 1 := by omega
      have g4 : 400 < cap := by omega
      clear h1 h4
      go_enter Try.func15, Try.ntmps15
      go_wp2
      go_ret
      exact ⟨rfl, hb⟩
  · have hr : r = false := by rw [← HR.out, decide_eq_false (by omega), Bool.false_and]
    subst hr
    have g1 : cap < 1 := by omega
    clear h1
    go_enter Try.func15, Try.ntmps15
    go_wp2
    go_ret
    exact ⟨rfl, hb⟩
end Go.Proofs.Ytnbpcdnpdcfiiaa
