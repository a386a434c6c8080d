/- Several texts of this claim, one behind the other: LabelRead, MedFiles. -/
import Derived.Test.YtclkkhpnnbkfmaaVolumeBackPartT
import Derived.Laws.ResultCell
import Derived.BigRegion
import Derived.Test.YtclkkhpnnbkfmaaVolumeBackPartF
/- label.Read. -/
namespace Go.Proofs.Ytclkkhpnnbkfmaa
open Go.RowKit

set_option maxRecDepth 100000

theorem results_cell2 {P : Program} {fn : Func} {p u : Tmp} {ty : TypeId} (h : fn.results = #[.cell p ty, .tmp u]) (tmps : Array Value) (w : World) (g : Nat) (t : TypeId) (cs : Array Value) (fr : Nat × Nat) (d : TypeDesc)
    (hp : tmps.getD p undef = .pointer (some ⟨g, 0, none⟩)) (hg : w.heap[g]? = some (.cells cs t fr))
    (hu : P.underlying ty = some d) (hd : (match d with | .struct _ | .array _ _ => true | _ => false) = true) (hi : (P.info? ty).map (·.size) = some cs.size) :
    (results fn tmps).run P w = .ok (.tuple #[.agg cs, tmps.getD u undef]) w := by
  rw [results_cell_tmp h, hp]
  simp [asAddr, run_loadVar_row w g t ty cs fr d hg hu hd hi, Result.andThen]

theorem heap_own {w w' : World} {B g : Nat} {o : Obj} (hb : Below B w w') (hg : w.heap[g]? = some o) (hlt : g < B) : w'.heap[g]? = some o := (hb.block g hlt).trans hg

/-- Too short, or too long. -/
theorem labread_len (a : Option Addr) (L c : Nat) (w : World) (h : L ≠ 14) (hL : L ≤ 9223372036854775807) :
    Calls Try.prog 84 #[.slice a L c] w fun r w' => r = .returned (.tuple #[labV 0 0 0, .int .i64 13]) ∧ Below w.heap.size w w' := by
  have h1 : ((L : Int) != 14) = true := by simp; omega
  unfold labV
  go_enter Try.func84, Try.ntmps84
  have hg0 := heap_alloc_new w (.cells #[.int .i64 0, .int .i64 0, .int .i64 0] 37)
  go_wp2_with (refine wpList_store_row rfl rfl 37 (.tmp 2) (.tmp 13) rfl w.heap.size rfl 37 #[.int .i64 0, .int .i64 0, .int .i64 0] #[.int .i64 0, .int .i64 0, .int .i64 0] rfl hg0 rfl (by kernel_rfl) (by simp [Value.oneCell']) ?_)
  exact bodyPost_ret (results_cell2 (p := 2) (u := 3) rfl _ _ w.heap.size _ #[.int .i64 0, .int .i64 0, .int .i64 0] _ _ rfl (setRow_heap _ w.heap.size _ _ _ _ hg0) Try.underlying37 rfl (by kernel_rfl)) rfl
    ⟨rfl, bsetRow (ext_alloc w _) (Nat.le_refl _) _⟩

set_option maxHeartbeats 1000000 in
theorem labread_14 (a : Option Addr) (c : Nat) (l : List Byte) (V P E R : Int) (w : World) (hs : Src w a (bvs l)) (hL : l.length = 14) (hc : 14 ≤ c) (hR : labR l = (V, P, E, R)) :
    Calls Try.prog 84 #[.slice a 14 c] w fun r w' => r = .returned (.tuple #[labV V P E, .int .i64 R]) ∧ Below w.heap.size w w' := by
  have hG : Hid (∀ w', Below w.heap.size w w' → Calls Try.prog 121 #[.slice a 14 c, .int .i64 6, .int .i64 4] w' fun e w'' => e = .returned (.tuple #[.int .i64 ((numOf ((l.drop 6).take 4) : Nat) : Int), .int .i64 10, .int .i64 0]) ∧ w' = w'') :=
    Lib.hid fun w' hb => get_ok a c 14 l 6 4 _ _ w' (hs.ext hb) hL.symm rfl rfl (by omega) hc (by omega) (by omega) (by omega)
  obtain ⟨b, o, rfl, hlb, hat⟩ := src_bytes_at hs (show 0 < l.length by omega)
  have h4 := hat 4 (by omega)
  have h5 := hat 5 (by omega)
  have g4 : l.getD 4 0#8 = l[4]'(by omega) := by rw [List.getD_eq_getElem?_getD, List.getElem?_eq_getElem (by omega)]; rfl
  have g5 : l.getD 5 0#8 = l[5]'(by omega) := by rw [List.getD_eq_getElem?_getD, List.getElem?_eq_getElem (by omega)]; rfl
  unfold labR labOf at hR
  rw [g4, g5] at hR
  generalize l[4]'(by omega) = x at h4 hR
  generalize l[5]'(by omega) = y at h5 hR
  generalize numOf ((l.drop 6).take 4) = n at hG hR
  have HR := Lib.hid hR
  have HL := Lib.hid hL
  clear hR hL g4 g5 hat
  unfold labV
  go_enter Try.func84, Try.ntmps84
  have hg0 := heap_alloc_new w (.cells #[.int .i64 0, .int .i64 0, .int .i64 0] 37)
  go_wp2_with fail
  refine (hG.out _ (ext_alloc _ _)).mono ?_
  rintro e w1 ⟨rfl, rfl⟩
  go_wp2_with fail
  go_region
  clear h4 h5 hG
  have hb1 : Below w.heap.size w ((w.alloc (.cells #[.int .i64 0, .int .i64 0, .int .i64 0] 37)).alloc (.cells #[.int .i64 (x.toNat : Int), .int .i64 (y.toNat : Int), .int .i64 (n : Int)] 37)).drew := ((ext_alloc _ _).alloc (by simp) _).drew
  have hgA : ((w.alloc (.cells #[.int .i64 0, .int .i64 0, .int .i64 0] 37)).alloc (.cells #[.int .i64 (x.toNat : Int), .int .i64 (y.toNat : Int), .int .i64 (n : Int)] 37)).drew.heap[w.heap.size]? = some (.cells #[.int .i64 0, .int .i64 0, .int .i64 0] 37) := (heap_alloc_old _ _ (by simp)).trans hg0
  have hgB : ((w.alloc (.cells #[.int .i64 0, .int .i64 0, .int .i64 0] 37)).alloc (.cells #[.int .i64 (x.toNat : Int), .int .i64 (y.toNat : Int), .int .i64 (n : Int)] 37)).drew.heap[w.heap.size + 1]? = some (.cells #[.int .i64 (x.toNat : Int), .int .i64 (y.toNat : Int), .int .i64 (n : Int)] 37) := heap_alloc2_new w _ _
  generalize (((w.alloc (.cells #[.int .i64 0, .int .i64 0, .int .i64 0] 37)).alloc (.cells #[.int .i64 (x.toNat : Int), .int .i64 (y.toNat : Int), .int .i64 (n : Int)] 37)).drew) = w2 at *
  have hltA := heap_lt hgA
  have hltB := heap_lt hgB
  clear hg0
  cases hok : okL (x.toNat : Int) (y.toNat : Int) (n : Int) with
  | false =>
    have hV : V = 0 ∧ P = 0 ∧ E = 0 ∧ R = 13 := by
      have := HR.out
      simp only [hok] at this
      simp at this
      omega
    obtain ⟨rfl, rfl, rfl, rfl⟩ := hV
    have HB := Lib.hid (labbytes_no (x.toNat : Int) (y.toNat : Int) (n : Int) w2 hok)
    clear hok
    go_wp2_with (refine wpList_load_row rfl 37 (.tmp 7) rfl (w.heap.size + 1) rfl 37 #[.int .i64 (x.toNat : Int), .int .i64 (y.toNat : Int), .int .i64 (n : Int)] (0, 0) _ hgB Try.underlying37 rfl (by kernel_rfl) ?_)
    refine HB.out.mono ?_
    rintro r w3 ⟨rfl, hb3⟩
    have hgA3 := heap_own hb3 hgA hltA
    go_wp2_with (refine wpList_store_row rfl rfl 37 (.tmp 2) (.tmp 43) rfl w.heap.size rfl 37 #[.int .i64 0, .int .i64 0, .int .i64 0] #[.int .i64 0, .int .i64 0, .int .i64 0] rfl hgA3 rfl (by kernel_rfl) (by simp [Value.oneCell']) ?_)
    exact bodyPost_ret (results_cell2 (p := 2) (u := 3) rfl _ _ w.heap.size _ #[.int .i64 0, .int .i64 0, .int .i64 0] _ _ rfl (setRow_heap _ w.heap.size _ _ _ _ hgA3) Try.underlying37 rfl (by kernel_rfl)) rfl
      ⟨rfl, bsetRow (bthen hb1 hb3 (Nat.le_refl _)) (Nat.le_refl _) _⟩
  | true =>
    have HB := Lib.hid (labbytes_at (x.toNat : Int) (y.toNat : Int) (n : Int) 0 _ 14 w2 (labB_ok hok) (lbytes_length _ _ _) (labE_ok hok))
    by_cases hbl : lbytes (x.toNat : Int) (y.toNat : Int) (n : Int) = l
    · have hV : V = x.toNat ∧ P = y.toNat ∧ E = n ∧ R = 0 := by
        have := HR.out
        simp only [hok, hbl, HL.out] at this
        simp at this
        omega
      obtain ⟨rfl, rfl, rfl, rfl⟩ := hV
      have Hbl := Lib.hid hbl
      clear hok hbl
      go_wp2_with (refine wpList_load_row rfl 37 (.tmp 7) rfl (w.heap.size + 1) rfl 37 #[.int .i64 (x.toNat : Int), .int .i64 (y.toNat : Int), .int .i64 (n : Int)] (0, 0) _ hgB Try.underlying37 rfl (by kernel_rfl) ?_)
      refine HB.out.mono ?_
      rintro r w3 ⟨a3, c3, rfl, hown3, hb3⟩
      have hgA3 := heap_own hb3 hgA hltA
      have hgB3 := heap_own hb3 hgB hltB
      have hb13 := bthen hb1 hb3 (Nat.le_refl _)
      have hs3 := hown3.src
      have hl3 := hs.ext hb13
      rw [Hbl.out] at hs3
      clear hown3
      go_wp2_with fail
      refine (equal_at _ _ l _ _ l w3 14 14 true hs3 hl3 HL.out.symm HL.out.symm (by omega) (by omega) (by simp)).mono ?_
      rintro e w4 ⟨rfl, k, rfl⟩
      go_wp2_with (first
        | refine wpList_load_row rfl 37 (.tmp 7) rfl (w.heap.size + 1) rfl 37 #[.int .i64 (x.toNat : Int), .int .i64 (y.toNat : Int), .int .i64 (n : Int)] (0, 0) _ hgB3 Try.underlying37 rfl (by kernel_rfl) ?_
        | refine wpList_store_row rfl rfl 37 (.tmp 2) (.tmp 44) rfl w.heap.size rfl 37 #[.int .i64 0, .int .i64 0, .int .i64 0] #[.int .i64 (x.toNat : Int), .int .i64 (y.toNat : Int), .int .i64 (n : Int)] rfl hgA3 rfl (by kernel_rfl) (by simp [Value.oneCell']) ?_)
      exact bodyPost_ret (results_cell2 (p := 2) (u := 3) rfl _ _ w.heap.size _ #[.int .i64 (x.toNat : Int), .int .i64 (y.toNat : Int), .int .i64 (n : Int)] _ _ rfl (setRow_heap _ w.heap.size _ _ _ _ hgA3) Try.underlying37 rfl (by kernel_rfl)) rfl
        ⟨rfl, bsetRow (below_drewN hb13 k) (Nat.le_refl _) _⟩
    · have hV : V = 0 ∧ P = 0 ∧ E = 0 ∧ R = 13 := by
        have := HR.out
        simp only [hok, hbl, HL.out] at this
        simp at this
        omega
      obtain ⟨rfl, rfl, rfl, rfl⟩ := hV
      have Hbl := Lib.hid hbl
      clear hok hbl
      go_wp2_with (refine wpList_load_row rfl 37 (.tmp 7) rfl (w.heap.size + 1) rfl 37 #[.int .i64 (x.toNat : Int), .int .i64 (y.toNat : Int), .int .i64 (n : Int)] (0, 0) _ hgB Try.underlying37 rfl (by kernel_rfl) ?_)
      refine HB.out.mono ?_
      rintro r w3 ⟨a3, c3, rfl, hown3, hb3⟩
      have hgA3 := heap_own hb3 hgA hltA
      have hb13 := bthen hb1 hb3 (Nat.le_refl _)
      have hs3 := hown3.src
      have hl3 := hs.ext hb13
      clear hown3
      go_wp2_with fail
      refine (equal_at _ _ _ _ _ l w3 14 14 false hs3 hl3 (lbytes_length _ _ _).symm HL.out.symm (by omega) (by omega) (by simpa using Hbl.out)).mono ?_
      rintro e w4 ⟨rfl, k, rfl⟩
      go_wp2_with (refine wpList_store_row rfl rfl 37 (.tmp 2) (.tmp 43) rfl w.heap.size rfl 37 #[.int .i64 0, .int .i64 0, .int .i64 0] #[.int .i64 0, .int .i64 0, .int .i64 0] rfl hgA3 rfl (by kernel_rfl) (by simp [Value.oneCell']) ?_)
      exact bodyPost_ret (results_cell2 (p := 2) (u := 3) rfl _ _ w.heap.size _ #[.int .i64 0, .int .i64 0, .int .i64 0] _ _ rfl (setRow_heap _ w.heap.size _ _ _ _ hgA3) Try.underlying37 rfl (by kernel_rfl)) rfl
        ⟨rfl, bsetRow (below_drewN hb13 k) (Nat.le_refl _) _⟩

theorem labread_at (a : Option Addr) (L c : Nat) (l : List Byte) (V P E R : Int) (w : World) (hs : Src w a (bvs l)) (hL : L = l.length) (hl : L ≤ 9223372036854775807) (hc : L ≤ c) (hR : labR l = (V, P, E, R)) :
    Calls Try.prog 84 #[.slice a L c] w fun r w' => r = .returned (.tuple #[labV V P E, .int .i64 R]) ∧ Below w.heap.size w w' := by
  by_cases h : L = 14
  · subst h
    exact labread_14 a c l V P E R w hs hL.symm hc hR
  · rw [labR_len (by omega)] at hR
    simp only [Prod.mk.injEq] at hR
    obtain ⟨rfl, rfl, rfl, rfl⟩ := hR
    exact labread_len a L c w h hl
end Go.Proofs.Ytclkkhpnnbkfmaa

/- medium.Read, Files, Behind, File, New. -/
namespace Go.Proofs.Ytclkkhpnnbkfmaa
open Go.RowKit

set_option maxRecDepth 100000 in
set_option maxHeartbeats 2000000 in
theorem files_any (cap : Int) (a : Option Addr) (c n : Nat) (cs : List CellV) (R : Int) (w : World) (hs : CMat w a cs) (hn : n = cs.length) (hn2 : n ≤ 9223372036854775807) (hr : (medOf cap cs).files = R) :
    Calls Try.prog 76 #[.agg #[.int .i64 cap, .slice a n c]] w fun e w' => e = .returned (.int .i64 R) ∧ Below w.heap.size w w' := by
  have hb := ext_alloc w (.cells #[.int .i64 cap, .slice a n c] 31)
  have hz := heap_alloc_new w (.cells #[.int .i64 cap, .slice a n c] 31)
  have hzl := heap_lt hz
  have HR := Lib.hid hr
  have Hs := Lib.hid hs
  have Hn := Lib.hid hn
  clear hr hs hn
  cases hok : (medOf cap cs).ok with
  | false =>
    have hl : R = 0 := by have := HR.out; unfold Med.files at this; rw [if_pos hok] at this; exact this.symm
    subst hl
    go_enter Try.func76, Try.ntmps76
    go_wp2_with fail
    refine (check_any cap a c n cs false _ (Hs.out.ext hb) Hn.out hn2 hok).mono ?_
    rintro e w1 ⟨rfl, hb1⟩
    go_wp2
    go_ret
    exact ⟨rfl, bthen hb hb1 (Nat.le_refl _)⟩
  | true =>
    have hl : ((marks (pls cs) : Nat) : Int) = R := by have := HR.out; unfold Med.files at this; rw [if_neg (by rw [hok]; decide)] at this; exact this
    have HL := Lib.hid hl
    clear hl
    go_enter Try.func76, Try.ntmps76
    go_wp2_with fail
    refine (check_any cap a c n cs true _ (Hs.out.ext hb) Hn.out hn2 hok).mono ?_
    rintro e w1 ⟨rfl, hb1⟩
    have hz1 := (hb1.block _ hzl).trans hz
    have d1 := cell_of_row w1 w.heap.size 1 _ _ _ hz1
    have hb01 := bthen hb hb1 (Nat.le_refl _)
    clear hb1 hz hzl hok
    go_wp2_with fail
    clear d1 hz1
    go_loopw [3, 12] (fun cnt i wr => ∃ (k : Nat), k ≤ n ∧ i = .int .i64 (k : Int) ∧ cnt = .int .i64 ((marks (pls (cs.take k)) : Nat) : Int) ∧ Below w.heap.size w wr) (fun _ i _ => n - (intOf i).toNat)
    case atStart => exact ⟨0, by omega, rfl, rfl, hb01⟩
    case round =>
      rename_i wr
      obtain ⟨k, hk, rfl, rfl, hbr⟩ := hrel
      clear hb01
      by_cases hlt : k < n
      · have hkl : k < cs.length := by have := Hn.out; omega
        obtain ⟨b, o, rfl, hlb, hat⟩ := Hs.out.src.elem CellV.len (by decide) hkl
        have q0 := hat k hkl 0 _ rfl
        have q1 := hat k hkl 1 _ rfl
        have q2 := hat k hkl 2 _ rfl
        have Htk := Lib.hid (marks_take cs k hkl)
        have hml : marks (pls (cs.take k)) ≤ k := Nat.le_trans (marks_le _) (by rw [pls_length, List.length_take]; omega)
        generalize marks (pls (cs.take k)) = mk at *
        generalize cs[k] = x at *
        obtain ⟨kd, ⟨xa, xc, xl⟩, bd⟩ := x
        dsimp only at *
        have c0 := (World.cell?_of_block (w := w) (a := ⟨b, o + k * 3, none⟩) (hbr.block b hlb)).trans q0
        have c1 := (World.cell?_of_block (w := w) (a := ⟨b, o + k * 3 + 1, none⟩) (hbr.block b hlb)).trans q1
        have c2 := (World.cell?_of_block (w := w) (a := ⟨b, o + k * 3 + 2, none⟩) (hbr.block b hlb)).trans q2
        have hput := CellAt.put wr #[.int .i64 0, .slice none 0 0, .bool false] _ rfl ⟨kd, ⟨xa, xc, xl⟩, bd⟩
        have hbp := below_putc wr #[.int .i64 0, .slice none 0 0, .bool false] _ rfl ⟨kd, ⟨xa, xc, xl⟩, bd⟩
        obtain ⟨m0, m1, m2⟩ := hput.cells
        dsimp only at hput hbp m0 m1 m2
        have hb02 := bthen hbr hbp (Nat.le_refl _)
        clear hat q0 q1 q2
        by_cases h2 : kd = 2
        · subst h2
          go_wp2_with (refine wpList_store_row rfl rfl 74 (.tmp 5) (.tmp 15) rfl wr.heap.size rfl 74 #[.int .i64 0, .slice none 0 0, .bool false] #[.int .i64 2, .slice xa xl.length xc, .bool bd] rfl (heap_alloc_new wr _) rfl (by kernel_rfl) (CellV.one ⟨2, ⟨xa, xc, xl⟩, bd⟩) ?_)
          go_roundw
          case rel => exact ⟨k + 1, by omega, by go_num, by rw [Htk.out]; simp, hb02⟩
          case measure => simp [intOf]; omega
        · have e2 : (kd == 2) = false := by simpa using h2
          have Hne := Lib.hid h2
          clear h2
          go_wp2_with (refine wpList_store_row rfl rfl 74 (.tmp 5) (.tmp 15) rfl wr.heap.size rfl 74 #[.int .i64 0, .slice none 0 0, .bool false] #[.int .i64 kd, .slice xa xl.length xc, .bool bd] rfl (heap_alloc_new wr _) rfl (by kernel_rfl) (CellV.one ⟨kd, ⟨xa, xc, xl⟩, bd⟩) ?_)
          go_roundw
          case rel => exact ⟨k + 1, by omega, by go_num, by rw [Htk.out, if_neg Hne.out]; rfl, hb02⟩
          case measure => simp [intOf]; omega
      · have hfin : ((marks (pls (cs.take k)) : Nat) : Int) = R := by rw [List.take_of_length_le (by have := Hn.out; omega)]; exact HL.out
        have Hf := Lib.hid hfin
        clear hfin
        go_wp2
        go_ret
        exact ⟨by rw [← Hf.out]; rfl, hbr⟩
end Go.Proofs.Ytclkkhpnnbkfmaa
