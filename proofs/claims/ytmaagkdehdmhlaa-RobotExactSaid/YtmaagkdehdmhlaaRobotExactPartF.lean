/- Several texts of this claim, one behind the other: MedBehind, MedRes, BoxM. -/
import Derived.Test.YtmaagkdehdmhlaaRobotExactPartC
import Derived.Test.YtmaagkdehdmhlaaRobotExactPartE
/- medium.Behind. -/
namespace Go.Proofs.Ytmaagkdehdmhlaa
open Go.RowKit


theorem marks_take (cs : List CellV) (k : Nat) (h : k < cs.length) : marks (pls (cs.take (k + 1))) = marks (pls (cs.take k)) + (if cs[k].kind = 2 then 1 else 0) := by
  rw [take_succ_list cs k h]
  unfold marks pls
  rw [List.map_append, List.countP_append]
  simp [CellV.pl, List.countP_cons]
theorem marks_le (cs : List CellP) : marks cs ≤ cs.length := List.countP_le_length

theorem behind_drop (cs : List CellV) (k : Nat) (n : Int) (h : k < cs.length) : behind (pls (cs.drop k)) k n = if cs[k].kind = 2 then (if n - 1 = 0 then ((k : Int) + 1, 0) else behind (pls (cs.drop (k + 1))) (k + 1) (n - 1)) else behind (pls (cs.drop (k + 1))) (k + 1) n := by
  rw [List.drop_eq_getElem_cons h]
  unfold pls
  rw [List.map_cons, behind]
  rfl
set_option maxRecDepth 100000 in
set_option maxHeartbeats 2000000 in
theorem behind_any (cap : Int) (a : Option Addr) (c n : Nat) (cs : List CellV) (N R E : Int) (w : World) (hs : CMat w a cs) (hn : n = cs.length) (hn2 : n ≤ 9223372036854775806) (hN0 : 0 ≤ N) (hN1 : N ≤ 9223372036854775807) (hr : (medOf cap cs).behind N = (R, E)) :
    Calls Try.prog 71 #[.agg #[.int .i64 cap, .slice a n c], .int .i64 N] w fun e w' => e = .returned (.tuple #[.int .i64 R, .int .i64 E]) ∧ Below w.heap.size w w' := by
  have hb := ext_alloc w (.cells #[.int .i64 cap, .slice a n c] 45)
  have HR := Lib.hid hr
  have Hs := Lib.hid hs
  have Hn := Lib.hid hn
  clear hr hs hn
  by_cases h0 : N = 0
  · subst h0
    have hl : R = 0 ∧ E = 0 := by have := HR.out; unfold Med.behind at this; simp at this; exact ⟨this.1.symm, this.2.symm⟩
    obtain ⟨rfl, rfl⟩ := hl
    go_enter Try.func71, Try.ntmps71
    go_wp2
    go_ret2
    exact ⟨rfl, hb⟩
  · have e0 : (N == 0) = false := by simpa using h0
    have hl : behind (pls cs) 0 N = (R, E) := by have := HR.out; unfold Med.behind at this; rw [if_neg h0] at this; exact this
    have HL := Lib.hid hl
    clear hl HR
    go_enter Try.func71, Try.ntmps71
    go_wp2_with fail
    go_loopw [1, 13] (fun v i wr => ∃ (k : Nat) (M : Int), k ≤ n ∧ i = .int .i64 (k : Int) ∧ v = .int .i64 M ∧ 1 ≤ M ∧ M ≤ N ∧ Below w.heap.size w wr ∧ behind (pls (cs.drop k)) k M = (R, E)) (fun _ i _ => n - (intOf i).toNat)
    case atStart => exact ⟨0, N, by omega, rfl, rfl, by omega, by omega, hb, HL.out⟩
    case round =>
      rename_i wr
      obtain ⟨k, M, hk, rfl, rfl, hM1, hMN, hbr, hbh⟩ := hrel
      have Hbh := Lib.hid hbh
      clear hbh hb e0 h0 HL
      by_cases hlt : k < n
      · have hkl : k < cs.length := by have := Hn.out; omega
        obtain ⟨b, o, rfl, hlb, hat⟩ := Hs.out.src.elem CellV.len (by decide) hkl
        have q0 := hat k hkl 0 _ rfl
        have q1 := hat k hkl 1 _ rfl
        have q2 := hat k hkl 2 _ rfl
        have Hdr := Lib.hid ((behind_drop cs k M hkl).symm.trans Hbh.out)
        generalize cs[k] = x at *
        obtain ⟨kd, ⟨xa, xc, xl⟩, bd⟩ := x
        dsimp only at *
        have c0 := (World.cell?_of_block (w := w) (a := ⟨b, o + k * 3, none⟩) (hbr.block b hlb)).trans q0
        have c1 := (World.cell?_of_block (w := w) (a := ⟨b, o + k * 3 + 1, none⟩) (hbr.block b hlb)).trans q1
        have c2 := (World.cell?_of_block (w := w) (a := ⟨b, o + k * 3 + 2, none⟩) (hbr.block b hlb)).trans q2
        have hput := CellAt.put wr #[.int .i64 0, .slice none 0 0, .bool false] _ rfl ⟨kd, ⟨xa, xc, xl⟩, bd⟩
        have hbp := below_putc wr #[.int .i64 0, .slice none 0 0, .bool false] _ rfl ⟨kd, ⟨xa, xc, xl⟩, bd⟩
        obtain ⟨m0, m1, m2⟩ := hput.cells
        dsimp only at hput hbp m0 m1 m2
        have hb02 := bthen hbr hbp (Nat.le_refl _)
        clear hat q0 q1 q2
        by_cases h2 : kd = 2
        · subst h2
          by_cases hM : M = 1
          · subst hM
            have hl : R = (k : Int) + 1 ∧ E = 0 := by have := Hdr.out; simp at this; exact ⟨this.1.symm, this.2.symm⟩
            obtain ⟨rfl, rfl⟩ := hl
            clear hMN hM1
            go_wp2_with (refine wpList_store_row rfl rfl 42 (.tmp 7) (.tmp 17) rfl wr.heap.size rfl 42 #[.int .i64 0, .slice none 0 0, .bool false] #[.int .i64 2, .slice xa xl.length xc, .bool bd] rfl (heap_alloc_new wr _) rfl (by kernel_rfl) (CellV.one ⟨2, ⟨xa, xc, xl⟩, bd⟩) ?_)
            go_ret2
            exact ⟨rfl, bthen hbr (ext_alloc _ _) (Nat.le_refl _)⟩
          · have eM : (M - 1 == 0) = false := by simp; omega
            have Hnx : Hid (behind (pls (cs.drop (k + 1))) (k + 1) (M - 1) = (R, E)) := Lib.hid (by have := Hdr.out; simp at this; rw [if_neg (by omega)] at this; exact this)
            go_wp2_with (refine wpList_store_row rfl rfl 42 (.tmp 7) (.tmp 17) rfl wr.heap.size rfl 42 #[.int .i64 0, .slice none 0 0, .bool false] #[.int .i64 2, .slice xa xl.length xc, .bool bd] rfl (heap_alloc_new wr _) rfl (by kernel_rfl) (CellV.one ⟨2, ⟨xa, xc, xl⟩, bd⟩) ?_)
            go_roundw
            case rel => exact ⟨k + 1, M - 1, by omega, by go_num, rfl, by omega, by omega, hb02, Hnx.out⟩
            case measure => simp [intOf]; omega
        · have e2 : (kd == 2) = false := by simpa using h2
          have Hnx : Hid (behind (pls (cs.drop (k + 1))) (k + 1) M = (R, E)) := Lib.hid (by have := Hdr.out; simp [h2] at this; exact this)
          clear h2 Hdr
          go_wp2_with (refine wpList_store_row rfl rfl 42 (.tmp 7) (.tmp 17) rfl wr.heap.size rfl 42 #[.int .i64 0, .slice none 0 0, .bool false] #[.int .i64 kd, .slice xa xl.length xc, .bool bd] rfl (heap_alloc_new wr _) rfl (by kernel_rfl) (CellV.one ⟨kd, ⟨xa, xc, xl⟩, bd⟩) ?_)
          go_roundw
          case rel => exact ⟨k + 1, M, by omega, by go_num, rfl, by omega, by omega, hb02, Hnx.out⟩
          case measure => simp [intOf]; omega
      · have hl : R = 0 ∧ E = 8 := by
          have := Hbh.out
          rw [List.drop_eq_nil_of_le (by have := Hn.out; omega)] at this
          simp [pls, behind] at this
          exact ⟨this.1.symm, this.2.symm⟩
        obtain ⟨rfl, rfl⟩ := hl
        go_wp2
        go_ret2
        exact ⟨rfl, hbr⟩
end Go.Proofs.Ytmaagkdehdmhlaa

/- An answer's tape. -/
namespace Go.Proofs.Ytmaagkdehdmhlaa
open Go.RowKit

theorem pls_take (cs : List CellV) (p : Nat) : pls (cs.take p) = (pls cs).take p := by simp [pls, List.map_take]
theorem pls_snoc (cs : List CellV) (x : CellV) : pls (cs ++ [x]) = pls cs ++ [x.pl] := by simp [pls]
theorem results_cellm {P : Program} {fn : Func} {p u : Tmp} {ty : TypeId} (h : fn.results = #[.cell p ty, .tmp u]) (tmps : Array Value) (w : World) (g : Nat) (t : TypeId) (cs : Array Value) (fr : Nat × Nat) (d : TypeDesc)
    (hp : tmps.getD p undef = .pointer (some ⟨g, 0, none⟩)) (hg : w.heap[g]? = some (.cells cs t fr))
    (hu : P.underlying ty = some d) (hd : (match d with | .struct _ | .array _ _ => true | _ => false) = true) (hi : (P.info? ty).map (·.size) = some cs.size) :
    (results fn tmps).run P w = .ok (.tuple #[.agg cs, tmps.getD u undef]) w := by
  rw [results_cell_tmp h, hp]
  simp [asAddr, run_loadVar_row w g t ty cs fr d hg hu hd hi, Result.andThen]
/-- A tape of the call's own, as an answer. -/
structure MedR (w : World) (B : Nat) (M : Med) (a : Option Addr) (k c : Nat) (cs : List CellV) : Prop where
  own : OwnM w B a c cs
  len : cs.length = k
  pls : pls cs = M.cells
theorem MedR.none (w : World) (B : Nat) : MedR w B Med.none Option.none 0 0 [] := ⟨OwnM.nil _ _ _, rfl, rfl⟩
theorem MedR.ext {w w' : World} {B : Nat} {M : Med} {a : Option Addr} {k c : Nat} {cs : List CellV} (h : MedR w B M a k c cs) (hb : Below w.heap.size w w') : MedR w' B M a k c cs := ⟨h.own.ext hb, h.len, h.pls⟩
theorem MedR.mono {w : World} {B B' : Nat} {M : Med} {a : Option Addr} {k c : Nat} {cs : List CellV} (h : MedR w B M a k c cs) (hB : B' ≤ B) : MedR w B' M a k c cs := ⟨h.own.mono hB, h.len, h.pls⟩
theorem MedR.setRow {w : World} {B g : Nat} {M : Med} {a : Option Addr} {k c : Nat} {cs : List CellV} {old new : Array Value} (h : MedR w B M a k c cs) (hg : w.heap[g]? = some (.cells old 45 (0, 0))) : MedR (w.setRow g new) B M a k c cs := by
  have hm : Mod (fun b T => T = 45) w (w.setRow g new) := Mod.one (bsetRow (Below.refl g _) (Nat.le_refl _) _) (fun b hb => setRow_other w _ b _ hb) hg (setRow_heap w _ _ _ _ _ hg) rfl
  exact ⟨h.own.mod hm fun b T hf => ⟨fun h => by subst hf; revert h; decide, fun h => by subst hf; revert h; decide⟩, h.len, h.pls⟩
theorem MedR.mat {w : World} {B : Nat} {M : Med} {a : Option Addr} {k c : Nat} {cs : List CellV} (h : MedR w B M a k c cs) : CMat w a cs := h.own.mat
theorem MedR.of {w : World} {B : Nat} {M : Med} {a : Option Addr} {k c : Nat} {cs : List CellV} (h : MedR w B M a k c cs) : medOf M.cap cs = M := by unfold medOf; rw [h.pls]
theorem short_of {cs : List CellV} {ps : List CellP} (h : pls cs = ps) {K : Nat} (hK : ∀ c ∈ ps, c.data.length ≤ K) : ∀ x ∈ cs, x.d.l.length ≤ K := fun x hx => hK x.pl (by rw [← h]; exact List.mem_map.2 ⟨x, hx, rfl⟩)
theorem MedR.short {w : World} {B : Nat} {M : Med} {a : Option Addr} {k c : Nat} {cs : List CellV} (h : MedR w B M a k c cs) {K : Nat} (hK : ∀ c ∈ M.cells, c.data.length ≤ K) : ∀ x ∈ cs, x.d.l.length ≤ K := short_of h.pls hK
end Go.Proofs.Ytmaagkdehdmhlaa

/- A tape in a variable. -/
namespace Go.Proofs.Ytmaagkdehdmhlaa
open Go.RowKit


/-- In block g stands a tape. -/
abbrev BoxM (w : World) (g : Nat) (cap : Int) (a : Option Addr) (n c : Nat) : Prop := w.heap[g]? = some (.cells #[.int .i64 cap, .slice a n c] 45 (0, 0))
theorem BoxM.ext {w w' : World} {g : Nat} {cap : Int} {a : Option Addr} {n c : Nat} (h : BoxM w g cap a n c) (hb : Below w.heap.size w w') : BoxM w' g cap a n c := (hb.block g (heap_lt h)).trans h
theorem BoxM.cells {w : World} {g : Nat} {cap : Int} {a : Option Addr} {n c : Nat} (h : BoxM w g cap a n c) : w.cell? ⟨g, 0, none⟩ = some (.int .i64 cap) ∧ w.cell? ⟨g, 1, none⟩ = some (.slice a n c) := ⟨cell_of_row w g 0 _ _ _ h, cell_of_row w g 1 _ _ _ h⟩
end Go.Proofs.Ytmaagkdehdmhlaa
