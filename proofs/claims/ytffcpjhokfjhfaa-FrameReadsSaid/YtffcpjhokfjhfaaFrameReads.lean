/- The law FrameReads, walked. -/
import Derived.Test.YtffcpjhokfjhfaaFrameWakes
import Derived.Test.YtffcpjhokfjhfaaRefSplit
import Derived.Test.YtffcpjhokfjhfaaSpoil
namespace Go.Proofs.Ytffcpjhokfjhfaa
open Go.RowKit

set_option maxRecDepth 100000 in
set_option maxHeartbeats 2000000 in
theorem frameReads_walk (w : World) (a0 : Option Addr) (c0 : Nat) (l : List Byte) (ha : Src w a0 (bvs l)) (hl : l.length ≤ 9223372036854775807) (k0 : l.length ≤ c0) (A : Int) (hA : (Lit.int .i64 A).wf = true) :
    Calls Try.prog 7 #[.slice a0 l.length c0, .int .i64 A] w fun e w' => e = .returned (.bool true) ∧ Below w.heap.size w w' := by
  clear hA
  obtain ⟨L, hL⟩ : ∃ L, l.length = L := ⟨_, rfl⟩
  have HL := Lib.hid hL
  rw [hL] at hl k0 ⊢
  by_cases h4 : L ≤ 4000
  · obtain ⟨r, nx, E, hrd⟩ : ∃ r nx E, readF l A = (r, nx, E) := ⟨_, _, _, rfl⟩
    obtain ⟨rl, E2, hsp⟩ : ∃ rl E2, splitF l = (rl, E2) := ⟨_, _, rfl⟩
    have HRD := Lib.hid hrd
    have HSP := Lib.hid hsp
    have hrl : r.d.length ≤ 4000 := by
      have : r.d.length ≤ l.length := by
        unfold readF at hrd
        split at hrd
        · simp only [Prod.mk.injEq] at hrd; rw [← hrd.1]; simp [Rec.zero]
        · split at hrd
          · simp only [Prod.mk.injEq] at hrd; rw [← hrd.1]; simp [Rec.zero]
          · split at hrd
            · simp only [Prod.mk.injEq] at hrd; rw [← hrd.1]; simp [Rec.zero]
            · split at hrd
              · simp only [Prod.mk.injEq] at hrd; rw [← hrd.1]; simp; omega
              · simp only [Prod.mk.injEq] at hrd; rw [← hrd.1]; simp [Rec.zero]
      omega
    clear hrd hsp hL
    go_enter Try.func7, Try.ntmps7
    go_wp2_with fail
    refine (twin_at a0 c0 L l w ha HL.out.symm (by omega)).mono ?_
    rintro e w1 ⟨a1, c1, rfl, ho1, hb1⟩
    have hs1 := ho1.src
    have hlc := ho1.len.1
    have ha1 := ha.ext hb1
    clear ho1 ha
    go_wp2_with fail
    refine (frread_at a1 L c1 l A r nx E w1 hs1 HL.out.symm hlc (by omega) HRD.out).mono ?_
    rintro e w2 ⟨ad, cd, rfl, hod, hb2⟩
    have hput := RecAt.put w2 #[.int .i64 0, .int .i64 0, .slice none 0 0] rfl ⟨r.kind, r.seq, ⟨ad, cd, r.d⟩⟩
    have hbp := below_putr w2 #[.int .i64 0, .int .i64 0, .slice none 0 0] ⟨r.kind, r.seq, ⟨ad, cd, r.d⟩⟩
    have hb13 := bthen hb2 hbp (Nat.le_refl _)
    have hod3 := hod.ext hbp
    have ha3 := ha1.ext hb13
    clear hb2 hbp hod
    go_wp2_with (refine wpList_store_row rfl rfl 29 (.tmp 6) (.tmp 23) rfl w2.heap.size rfl 29 #[.int .i64 0, .int .i64 0, .slice none 0 0] #[.int .i64 r.kind, .int .i64 r.seq, .slice ad r.d.length cd] rfl (heap_alloc_new w2 _) rfl (by kernel_rfl) (by simp [Value.oneCell']) ?_)
    have hput : RecAt ((w2.alloc (.cells #[.int .i64 0, .int .i64 0, .slice none 0 0] 29)).setRow w2.heap.size #[.int .i64 r.kind, .int .i64 r.seq, .slice ad r.d.length cd]) w2.heap.size ⟨r.kind, r.seq, ⟨ad, cd, r.d⟩⟩ := hput
    have hb13 : Below w1.heap.size w1 ((w2.alloc (.cells #[.int .i64 0, .int .i64 0, .slice none 0 0] 29)).setRow w2.heap.size #[.int .i64 r.kind, .int .i64 r.seq, .slice ad r.d.length cd]) := hb13
    have hod3 : Own ((w2.alloc (.cells #[.int .i64 0, .int .i64 0, .slice none 0 0] 29)).setRow w2.heap.size #[.int .i64 r.kind, .int .i64 r.seq, .slice ad r.d.length cd]) w1.heap.size 5 1 ad r.d.length cd (bvs r.d) := hod3
    have ha3 : Src ((w2.alloc (.cells #[.int .i64 0, .int .i64 0, .slice none 0 0] 29)).setRow w2.heap.size #[.int .i64 r.kind, .int .i64 r.seq, .slice ad r.d.length cd]) a0 (bvs l) := ha3
    generalize hws : World.setRow _ _ _ = w3 at *
    clear hws
    generalize w2.heap.size = g6 at *
    refine (refreadf_at a0 L c0 l A r nx E w3 ha3 HL.out.symm k0 (by omega) HRD.out).mono ?_
    rintro e w4 ⟨ae, ce, rfl, hoe, hb4⟩
    have hput2 := RecAt.put w4 #[.int .i64 0, .int .i64 0, .slice none 0 0] rfl ⟨r.kind, r.seq, ⟨ae, ce, r.d⟩⟩
    have hbp := below_putr w4 #[.int .i64 0, .int .i64 0, .slice none 0 0] ⟨r.kind, r.seq, ⟨ae, ce, r.d⟩⟩
    have hb35 := bthen hb4 hbp (Nat.le_refl _)
    have hp5 := hput.ext hb35
    have hod5 := hod3.ext hb35
    have hoe5 := hoe.ext hbp
    have hb15 := bthen hb13 hb35 (Nat.le_refl _)
    have k0 : ((w4.alloc (.cells #[.int .i64 0, .int .i64 0, .slice none 0 0] 29)).setRow w4.heap.size #[.int .i64 r.kind, .int .i64 r.seq, .slice ae r.d.length ce]).cell? ⟨g6, 0, none⟩ = some (.int .i64 r.kind) := hp5.cells.1
    have k1 : ((w4.alloc (.cells #[.int .i64 0, .int .i64 0, .slice none 0 0] 29)).setRow w4.heap.size #[.int .i64 r.kind, .int .i64 r.seq, .slice ae r.d.length ce]).cell? ⟨g6, 1, none⟩ = some (.int .i64 r.seq) := hp5.cells.2.1
    have k2 : ((w4.alloc (.cells #[.int .i64 0, .int .i64 0, .slice none 0 0] 29)).setRow w4.heap.size #[.int .i64 r.kind, .int .i64 r.seq, .slice ae r.d.length ce]).cell? ⟨g6, 2, none⟩ = some (.slice ad r.d.length cd) := hp5.cells.2.2
    have m0 : ((w4.alloc (.cells #[.int .i64 0, .int .i64 0, .slice none 0 0] 29)).setRow w4.heap.size #[.int .i64 r.kind, .int .i64 r.seq, .slice ae r.d.length ce]).cell? ⟨w4.heap.size, 0, none⟩ = some (.int .i64 r.kind) := hput2.cells.1
    have m1 : ((w4.alloc (.cells #[.int .i64 0, .int .i64 0, .slice none 0 0] 29)).setRow w4.heap.size #[.int .i64 r.kind, .int .i64 r.seq, .slice ae r.d.length ce]).cell? ⟨w4.heap.size, 1, none⟩ = some (.int .i64 r.seq) := hput2.cells.2.1
    have m2 : ((w4.alloc (.cells #[.int .i64 0, .int .i64 0, .slice none 0 0] 29)).setRow w4.heap.size #[.int .i64 r.kind, .int .i64 r.seq, .slice ae r.d.length ce]).cell? ⟨w4.heap.size, 2, none⟩ = some (.slice ae r.d.length ce) := hput2.cells.2.2
    have t1 : ((E : Int) != E) = false := by simp
    have t2 : ((nx : Int) != nx) = false := by simp
    have HREC := record_at ⟨r.kind, r.seq, ⟨ad, cd, r.d⟩⟩ ⟨r.kind, r.seq, ⟨ae, ce, r.d⟩⟩ true _ ⟨hod5.src, by show r.d.length ≤ _; omega⟩ ⟨hoe5.src, by show r.d.length ≤ _; omega⟩ (by simp [RecV.pl])
    unfold RecV.val at HREC
    have HREC := Lib.hid HREC
    clear hput hbp hput2 hb4 hb35 hb13 hod3 ha3 hoe hoe5
    go_wp2_with (refine wpList_store_row rfl rfl 29 (.tmp 9) (.tmp 30) rfl w4.heap.size rfl 29 #[.int .i64 0, .int .i64 0, .slice none 0 0] #[.int .i64 r.kind, .int .i64 r.seq, .slice ae r.d.length ce] rfl (heap_alloc_new w4 _) rfl (by kernel_rfl) (by simp [Value.oneCell']) ?_)
    refine HREC.out.mono ?_
    rintro e w6 ⟨rfl, hb6⟩
    have hp6 := hp5.ext hb6
    have hod6 := hod5.ext hb6
    have hb16 := bthen hb15 hb6 (Nat.le_refl _)
    clear k0 k1 k2 m0 m1 m2 HREC hp5 hod5 hb15 hb6 t1 t2
    have k2 : w6.cell? ⟨g6, 2, none⟩ = some (.slice ad r.d.length cd) := hp6.cells.2.2
    go_wp2_with fail
    refine (spoil_any w1.heap.size ad cd r.d.length r.d w6 hod6 rfl (by omega)).mono ?_
    rintro e w7 ⟨rfl, hb7⟩
    have hb17 := hb16.trans hb7
    have hs7 := hs1.ext hb17
    have ha7 := ha1.ext hb17
    clear hp6 hod6 hb16 hb7 k2
    go_wp2_with fail
    refine (split_at a1 L c1 l rl E2 w7 hs7 HL.out.symm hlc (by omega) HSP.out).mono ?_
    rintro e w8 ⟨a8, c8, vs, rfl, hvs, hrv, hb8⟩
    have ha8 := ha7.ext hb8
    have hs8 := hs7.ext hb8
    have hm8 := hvs.mat
    have hvl : vs.length ≤ 9223372036854775807 := by have := hvs.row.len; simp only [maxLen] at this; omega
    clear hvs ha7 hs7
    go_wp2_with fail
    refine (refsplit_at a0 L c0 l rl E2 w8 ha8 HL.out.symm k0 (by omega) HSP.out).mono ?_
    rintro e w9 ⟨a9, c9, us, rfl, hus, hru, hb9⟩
    have ha9 := ha8.ext hb9
    have hs9 := hs8.ext hb9
    have hm9 := hm8.ext hb9
    have hn9 := hus.mat
    have hul : us.length ≤ 9223372036854775807 := by have := hus.row.len; simp only [maxLen] at this; omega
    have hb19 := bthen hb17 (bthen hb8 hb9 (Nat.le_refl _)) (by have := hb17.size; omega)
    have t1 : ((E2 : Int) == E2) = true := by simp
    clear hus ha8 hs8 hm8 hb8 hb9 hb17
    have Hrv := Lib.hid hrv
    have Hru := Lib.hid hru
    clear hrv hru
    go_wp2_with fail
    refine (records_at a8 c8 vs a9 c9 us w9 _ _ true hm9 hn9 rfl rfl hvl hul (by rw [Hrv.out, Hru.out]; simp)).mono ?_
    rintro e w10 ⟨rfl, hb10⟩
    have ha10 := ha9.ext hb10
    have hs10 := hs9.ext hb10
    have hb110 := bthen hb19 hb10 (by have := hb19.size; omega)
    clear ha9 hs9 hm9 hn9 hb19 hb10
    go_wp2_with fail
    refine (bytes_at a1 c1 l a0 c0 l w10 L L true hs10 ha10 HL.out.symm HL.out.symm (by omega) (by omega) (by simp)).mono ?_
    rintro e w11 ⟨rfl, nn, rfl⟩
    have hb111 := below_drewN hb110 nn
    go_wp2_with fail
    refine (wakes06_any _).mono ?_
    rintro e w12 ⟨rfl, hb12⟩
    go_wp2
    go_ret
    exact ⟨rfl, bthen hb1 (bthen hb111 hb12 (by have := hb111.size; omega)) (Nat.le_refl _)⟩
  · go_enter Try.func7, Try.ntmps7
    go_wp2
    go_ret
    exact ⟨rfl, Below.refl _ _⟩
end Go.Proofs.Ytffcpjhokfjhfaa
