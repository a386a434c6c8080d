/- The page's Frame. -/
import Derived.Test.YtogcejmnhiphgaaJoin
import Derived.Test.YtogcejmnhiphgaaRef01Be
import Derived.Test.YtogcejmnhiphgaaCrcRefs
namespace Go.Proofs.Ytogcejmnhiphgaa
open Go.RowKit

set_option maxRecDepth 100000

set_option maxHeartbeats 4000000 in
theorem refframe_ok (r : RecV) (w : World) (hd : r.d.ok w) (he : r.pl.e = 0) :
    Calls Try.prog 73 #[r.val] w fun e w' => ∃ a' c', e = .returned (.slice a' (13 + r.d.l.length) c') ∧ Own w' w.heap.size 5 1 a' (13 + r.d.l.length) c' (bvs (frameOf r.pl)) ∧ Below w.heap.size w w' := by
  obtain ⟨i0, hi, hz0, hz1, hz2⟩ := info_parts info8
  obtain ⟨q1, q2, q3, q4, q5⟩ := recE_ok.1 he
  have q1 : 1 ≤ r.kind := q1
  have q2 : r.kind ≤ 5 := q2
  have q3 : 0 ≤ r.seq := q3
  have q4 : r.seq < 1073741824 := q4
  have q5 : r.d.l.length ≤ 8000 := q5
  obtain ⟨kk, hkk⟩ := Int.eq_ofNat_of_zero_le (show 0 ≤ r.kind by omega)
  obtain ⟨sq, hsq⟩ := Int.eq_ofNat_of_zero_le q3
  have hfh := fhead_be r.pl
  rw [show r.pl.kind.toNat = kk from by show r.kind.toNat = kk; omega, show r.pl.seq.toNat = sq from by show r.seq.toNat = sq; omega, show r.pl.d.length = r.d.l.length from rfl] at hfh
  have hb1e : bvs (be kk 1) = [.int .u8 (kk : Int)] := by simp [be, bvs, u8v]; omega
  have Hbe := Lib.hid hb1e
  have Hfh := Lib.hid hfh
  have Hkk := Lib.hid hkk
  have Hsq := Lib.hid hsq
  have Q4 : Hid (sq < 1073741824) := Lib.hid (by omega)
  have K5 : Hid (kk ≤ 5) := Lib.hid (by omega)
  have hbW1 := ext_alloc w (.cells #[.int .i64 r.kind, .int .i64 r.seq, .slice r.d.a r.d.l.length r.d.c] 39)
  have hr1 : (w.alloc (.cells #[.int .i64 r.kind, .int .i64 r.seq, .slice r.d.a r.d.l.length r.d.c] 39)).heap[w.heap.size]? = some (.cells #[.int .i64 r.kind, .int .i64 r.seq, .slice r.d.a r.d.l.length r.d.c] 39 (0, 0)) := RecAt.new w r
  have hsz1 := World.size_alloc w (.cells #[.int .i64 r.kind, .int .i64 r.seq, .slice r.d.a r.d.l.length r.d.c] 39)
  clear hfh hkk hsq he hb1e
  unfold RecV.val
  go_enter Try.func73, Try.ntmps73
  go_wp2_with fail
  generalize w.alloc (.cells #[.int .i64 r.kind, .int .i64 r.seq, .slice r.d.a r.d.l.length r.d.c] 39) = w1 at *
  refine wp_region_chain (by kernel_rfl) [6, 7, 11, 12, 13] (KeepsO.rel (fun b o => b = w.heap.size ∨ ∃ v T m, o = .cells #[v] T m)) [SpT.eq (.pointer (some ⟨w.heap.size, 0, none⟩)), SpT.eq (.int .i64 r.kind), SpT.eq (.int .u8 (kk : Int)), ⟨fun w v => ∃ g, v = .slice (some ⟨g, 0, none⟩) 1 1 ∧ w.heap[g]? = some (.cells #[.int .u8 (kk : Int)] 5), fun _ _ _ ⟨g, h, hs⟩ hb => ⟨g, h, hb.block _ _ hs (.inr ⟨_, _, _, rfl⟩)⟩⟩, SpT.eq (.pointer (some ⟨w.heap.size, 1, none⟩)), SpT.eq (.int .i64 r.seq), SpT.top, SpT.top, SpT.eq (.pointer (some ⟨w.heap.size, 2, none⟩)), SpT.eq (.slice r.d.a r.d.l.length r.d.c), SpT.eq (.int .i64 (r.d.l.length : Int)), SpT.top, SpT.top, SpT.top] (by kernel_rfl) (by kernel_rfl) (by kernel_rfl) ?_ ?_
  · refine stepsF_free rfl ?_ (stepsF_free rfl ?_ (stepsF_free rfl ?_ (stepsF_free rfl ?_ (stepsF_free rfl ?_ (stepsF_free rfl ?_ (stepsF_chain rfl (stepsF_chain rfl (stepsF_free rfl ?_ (stepsF_free rfl ?_ (stepsF_free rfl ?_ (stepsF_chain rfl (stepsF_chain rfl (stepsF_chain rfl (stepsF_nil))))))))))))))
    · intro ρ w' E
      have e1 : ρ (.tmp 1) = .pointer (some ⟨w.heap.size, 0, none⟩) := E.out 1 rfl
      refine step_plain rfl ?_
      refine op_val (v := .pointer (some ⟨w.heap.size, 0, none⟩)) (w' := w') ?_ ⟨Below.refl _ _, rfl⟩
      have hcon := E.con
      clear E
      go_simp
    · intro ρ w' E
      have e5 : ρ (.tmp 5) = .pointer (some ⟨w.heap.size, 0, none⟩) := E.pre 0 rfl
      refine step_plain rfl ?_
      refine op_val (v := .int .i64 r.kind) (w' := w') ?_ ⟨Below.refl _ _, rfl⟩
      have hg : w'.heap[w.heap.size]? = _ := E.t.block _ _ hr1 (.inl rfl)
      have hk : w'.cell? ⟨w.heap.size, 0, none⟩ = some (.int .i64 r.kind) := cell_of_row w' w.heap.size 0 _ _ _ hg
      have hcon := E.con
      clear E hg
      go_simp
    · intro ρ w' E
      have e6 : ρ (.tmp 6) = .int .i64 r.kind := E.pre 1 rfl
      refine step_plain rfl ?_
      refine op_val (v := .int .u8 (kk : Int)) (w' := w') ?_ ⟨Below.refl _ _, rfl⟩
      have hkk := Hkk.out
      have hcon := E.con
      clear E
      go_simp
      rw [IntKind.wrap_u8]
      omega
    · intro ρ w' E
      have e7 : ρ (.tmp 7) = .int .u8 (kk : Int) := E.pre 2 rfl
      refine step_plain rfl ?_
      refine op_val (v := .slice (some ⟨w'.heap.size, 0, none⟩) 1 1) (w' := w'.alloc (.cells #[.int .u8 (kk : Int)] 5)) (by have hcon := E.con; clear E; go_simp) ⟨ext_alloc _ _, _, rfl, heap_alloc_new w' _⟩
    · intro ρ w' E
      have e1 : ρ (.tmp 1) = .pointer (some ⟨w.heap.size, 0, none⟩) := E.out 1 rfl
      refine step_plain rfl ?_
      refine op_val (v := .pointer (some ⟨w.heap.size, 1, none⟩)) (w' := w') ?_ ⟨Below.refl _ _, rfl⟩
      have hcon := E.con
      clear E
      go_simp
    · intro ρ w' E
      have e9 : ρ (.tmp 9) = .pointer (some ⟨w.heap.size, 1, none⟩) := E.pre 4 rfl
      refine step_plain rfl ?_
      refine op_val (v := .int .i64 r.seq) (w' := w') ?_ ⟨Below.refl _ _, rfl⟩
      have hg : w'.heap[w.heap.size]? = _ := E.t.block _ _ hr1 (.inl rfl)
      have hk : w'.cell? ⟨w.heap.size, 1, none⟩ = some (.int .i64 r.seq) := cell_of_row w' w.heap.size 1 _ _ _ hg
      have hcon := E.con
      clear E hg
      go_simp
    · intro ρ w' E
      have e1 : ρ (.tmp 1) = .pointer (some ⟨w.heap.size, 0, none⟩) := E.out 1 rfl
      refine step_plain rfl ?_
      refine op_val (v := .pointer (some ⟨w.heap.size, 2, none⟩)) (w' := w') ?_ ⟨Below.refl _ _, rfl⟩
      have hcon := E.con
      clear E
      go_simp
    · intro ρ w' E
      have e13 : ρ (.tmp 13) = .pointer (some ⟨w.heap.size, 2, none⟩) := E.pre 8 rfl
      refine step_plain rfl ?_
      refine op_val (v := .slice r.d.a r.d.l.length r.d.c) (w' := w') ?_ ⟨Below.refl _ _, rfl⟩
      have hg : w'.heap[w.heap.size]? = _ := E.t.block _ _ hr1 (.inl rfl)
      have hk : w'.cell? ⟨w.heap.size, 2, none⟩ = some (.slice r.d.a r.d.l.length r.d.c) := cell_of_row w' w.heap.size 2 _ _ _ hg
      have hcon := E.con
      clear E hg
      go_simp
    · intro ρ w' E
      have e14 : ρ (.tmp 14) = .slice r.d.a r.d.l.length r.d.c := E.pre 9 rfl
      refine step_plain rfl ?_
      refine op_val (v := .int .i64 (r.d.l.length : Int)) (w' := w') ?_ ⟨Below.refl _ _, rfl⟩
      have hcon := E.con
      clear E
      go_simp
  · intro ρ1 w1c G1 E1
    have e10 : ρ1 (.tmp 10) = .int .i64 r.seq := E1.pre 5 rfl rfl
    refine step_plain rfl ?_
    refine op_call (f := 81) (args := #[.int .i64 r.seq, .int .i64 4]) (w' := w1c) (by have hcon := E1.con; have hfn := E1.fn; clear E1; go_simp) ?_
    refine (be01_at sq 4 _ _ w1c Hsq.out rfl (by omega) (by have := Q4.out; omega)).mono ?_
    rintro e w1x ⟨a1x, c1x, rfl, ho1x, hb1x⟩
    refine ⟨_, rfl, KeepsO.of hb1x, ?_⟩
    intro ρ2 w2c G2 E2
    have p8 : (fun w v => ∃ g, v = .slice (some ⟨g, 0, none⟩) 1 1 ∧ w.heap[g]? = some (.cells #[.int .u8 (kk : Int)] 5)) w2c (ρ2 (.tmp 8)) := E2.pre 3 rfl rfl
    have e11 : ρ2 (.tmp 11) = .slice a1x 4 c1x := E2.chn 6 11 rfl rfl rfl
    refine step_plain rfl ?_
    obtain ⟨g8, e8, hg8⟩ := p8
    have hs8 : Src w2c (some ⟨g8, 0, none⟩) [.int .u8 (kk : Int)] := Or.inr ⟨g8, 0, _, _, _, rfl, hg8, rfl⟩
    have ho12 := ho1x.ext G2
    obtain ⟨b2, o2, rfl, _, _⟩ := src_bytes_at ho12.src (show 0 < (be sq 4).length by rw [be_length]; omega)
    refine op_app_arg' (s := .tmp 8) (x := .tmp 11) (t := 34) rfl 5 i0 (.int .u8 0) 1 1 Try.underlying34 hi hz0 hz1 hz2 rfl (by decide) g8 0 1 1 [.int .u8 (kk : Int)] e8 rfl hs8 b2 o2 4 c1x (bvs (be sq 4)) e11 (by rw [bvs_length, be_length]) ho12.src (by omega) (by unfold maxLen; omega) (by omega) ?_
    intro a2x c2x w2x ho2x hb2x
    refine ⟨KeepsO.of hb2x, ?_⟩
    intro ρ3 w3c G3 E3
    have e15 : ρ3 (.tmp 15) = .int .i64 (r.d.l.length : Int) := E3.pre 10 rfl rfl
    refine step_plain rfl ?_
    refine op_call (f := 81) (args := #[.int .i64 (r.d.l.length : Int), .int .i64 4]) (w' := w3c) (by have hcon := E3.con; have hfn := E3.fn; clear E3; go_simp) ?_
    refine (be01_at r.d.l.length 4 _ _ w3c rfl rfl (by omega) (by omega)).mono ?_
    rintro e w3x ⟨a3x, c3x, rfl, ho3x, hb3x⟩
    refine ⟨_, rfl, KeepsO.of hb3x, ?_⟩
    intro ρ4 w4c G4 E4
    have e12 : ρ4 (.tmp 12) = .slice a2x (1 + 4) c2x := E4.chn 7 12 rfl rfl rfl
    have e16 : ρ4 (.tmp 16) = .slice a3x 4 c3x := E4.chn 11 16 rfl rfl rfl
    refine step_plain rfl ?_
    have hoA := (ho2x.ext (bthen G3 hb3x (Nat.le_refl _))).ext G4
    have hoB := ho3x.ext G4
    have hB4 : w2c.heap.size ≤ w4c.heap.size := Nat.le_trans hb2x.size (Nat.le_trans G3.size (Nat.le_trans hb3x.size G4.size))
    refine op_app (s := .tmp 12) (x := .tmp 16) (t := 34) rfl w2c.heap.size 5 i0 (.int .u8 0) 1 1 Try.underlying34 hi hz0 hz1 hz2 rfl (by decide) a2x (1 + 4) c2x ([.int .u8 (kk : Int)] ++ bvs (be sq 4)) e12 hoA a3x 4 c3x (bvs (be r.d.l.length 4)) e16 (by rw [bvs_length, be_length]) hoB.src (bvs_one _) (by unfold maxLen; omega) (by omega) hB4 ?_
    intro a4x c4x w4x ho4x hb4x hf4x
    have hlA := hoA.len.1
    refine ⟨⟨hb4x.size, fun b o hb hK => ?_⟩, ?_⟩
    · rw [hf4x b (heap_lt hb) (.inr fun o' he => ?_)]
      · exact hb
      · rcases hK with rfl | ⟨v, T, m, rfl⟩
        · have := E4.t.block _ _ hr1 (.inl rfl)
          exact (own_ne_type hoA this (by decide)).elim (by omega) (fun h => h o' he)
        · obtain ⟨_, h0 | ⟨g', cur, ha, _, hh, _, _, hcs, _⟩⟩ := hoA
          · omega
          · rw [ha] at he
            simp only [Option.some.injEq, Addr.mk.injEq] at he
            rw [he.1, hb] at hh
            simp only [Option.some.injEq, Obj.cells.injEq] at hh
            rw [← hh.1] at hcs
            have h9 : (#[v] : Array Value).size = 1 := rfl
            omega
    intro ρ5 w5c G5 E5
    have e17 : ρ5 (.tmp 17) = .slice a4x (1 + 4 + 4) c4x := E5.chn 12 17 rfl rfl rfl
    refine step_plain rfl ?_
    refine op_move (.inr rfl) e17 ⟨(KeepsO.rel (fun b o => b = w.heap.size ∨ ∃ v T m, o = .cells #[v] T m)).of (Below.refl _ _), ?_⟩
    intro σ w2 GF TF hκ
    have h3 : σ 3 = .slice a4x (1 + 4 + 4) c4x := hκ 13 3 rfl rfl
    clear hκ
    simp only [upd, updL, dstsOf', elemB, List.filterMap_cons, List.filterMap_nil, Nat.reduceAdd, Nat.reduceBEq, Bool.or_false, Bool.false_or, Bool.or_true, Bool.true_or, cond_true, cond_false, Nat.zero_add, h3]
    have hGG := bthen G5 GF (Nat.le_refl _)
    have hoH := ((ho4x.ext hGG).mono (base' := w.heap.size) (by have := G1.size; have := hb1x.size; have := G2.size; omega))
    have hr2 : w2.heap[w.heap.size]? = _ := TF.block _ _ hr1 (.inl rfl)
    have hbW2 : Below w.heap.size w w2 := by
      have hx := bthen (bthen (bthen G1 hb1x (Nat.le_refl _)) (bthen G2 hb2x (Nat.le_refl _)) (Nat.le_refl _)) (bthen G3 hb3x (Nat.le_refl _)) (Nat.le_refl _)
      have hy := bthen hx G4 (Nat.le_refl _)
      have hz := hy.trans (hb4x.mono (Nat.le_trans G1.size (Nat.le_trans hb1x.size G2.size)))
      exact bthen hbW1 (bthen hz hGG (Nat.le_refl _)) (Nat.le_refl _)
    rw [show ([.int .u8 (kk : Int)] ++ bvs (be sq 4) ++ bvs (be r.d.l.length 4) : List Value) = bvs (fhead r.pl) by rw [← Hbe.out, ← bvs_append, ← bvs_append, Hfh.out]] at hoH
    have hHl := fhead_length r.pl
    have hfo : frameOf r.pl = fhead r.pl ++ (crcBytesOf (crc (fhead r.pl ++ r.d.l)) ++ r.d.l) := rfl
    generalize fhead r.pl = H at *
    generalize hz : crc (H ++ r.d.l) = z at *
    have HH := Lib.hid hHl
    have Hfo := Lib.hid hfo
    have Hz := Lib.hid hz
    clear hHl hfo hz Hfh ho1x ho2x ho3x ho4x hb1x hb2x hb3x hb4x hf4x E1 E2 E3 E4 E5 G1 G2 G3 G4 G5 GF TF hGG hr1 hbW1 h3
    generalize a4x = ah at *
    generalize c4x = ch at *
    have hl2 := heap_lt hr2
    go_wp2_with fail
    refine wp_region_chain (by kernel_rfl) [1, 4, 5, 6] (Keeps.rel (fun b => b = w.heap.size)) [SpT.eq (.slice ah 9 ch), SpT.top, SpT.eq (.pointer (some ⟨w.heap.size, 2, none⟩)), SpT.eq (.slice r.d.a r.d.l.length r.d.c), SpT.top, SpT.top, SpT.top] (by kernel_rfl) (by kernel_rfl) (by kernel_rfl) ?_ ?_
    · refine stepsF_free rfl ?_ (stepsF_chain rfl (stepsF_free rfl ?_ (stepsF_free rfl ?_ (stepsF_chain rfl (stepsF_chain rfl (stepsF_chain rfl (stepsF_nil)))))))
      · intro ρ w' E
        have e3 : ρ (.tmp 3) = .slice ah 9 ch := E.out 3 rfl
        refine step_plain rfl ?_
        exact op_move (.inl rfl) e3 ⟨Below.refl _ _, rfl⟩
      · intro ρ w' E
        have e1 : ρ (.tmp 1) = .pointer (some ⟨w.heap.size, 0, none⟩) := E.out 1 rfl
        refine step_plain rfl ?_
        refine op_val (v := .pointer (some ⟨w.heap.size, 2, none⟩)) (w' := w') ?_ ⟨Below.refl _ _, rfl⟩
        have hcon := E.con
        clear E
        go_simp
      · intro ρ w' E
        have e20 : ρ (.tmp 20) = .pointer (some ⟨w.heap.size, 2, none⟩) := E.pre 2 rfl
        refine step_plain rfl ?_
        refine op_val (v := .slice r.d.a r.d.l.length r.d.c) (w' := w') ?_ ⟨Below.refl _ _, rfl⟩
        have hg : w'.heap[w.heap.size]? = _ := (E.t.block _ rfl hl2).trans hr2
        have hk : w'.cell? ⟨w.heap.size, 2, none⟩ = some (.slice r.d.a r.d.l.length r.d.c) := cell_of_row w' w.heap.size 2 _ _ _ hg
        have hcon := E.con
        clear E hg
        go_simp
    · intro ρ1 w1c G1 E1
      have e18 : ρ1 (.tmp 18) = .slice ah 9 ch := E1.pre 0 rfl rfl
      refine step_plain rfl ?_
      refine op_call (f := 27) (args := #[.slice ah 9 ch]) (w' := w1c) (by have hcon := E1.con; have hfn := E1.fn; clear E1; go_simp) ?_
      refine (twin_at ah ch 9 H w1c (hoH.ext G1).src HH.out.symm (by omega)).mono ?_
      rintro e w1x ⟨a1x, c1x, rfl, ho1x, hb1x⟩
      refine ⟨_, rfl, Keeps.of hb1x, ?_⟩
      intro ρ2 w2c G2 E2
      have e19 : ρ2 (.tmp 19) = .slice a1x 9 c1x := E2.chn 1 19 rfl rfl rfl
      have e21 : ρ2 (.tmp 21) = .slice r.d.a r.d.l.length r.d.c := E2.pre 3 rfl rfl
      refine step_plain rfl ?_
      have hoT := ho1x.ext G2
      have hsz1 : w1c.heap.size ≤ w2c.heap.size := Nat.le_trans hb1x.size G2.size
      have hbd : Below w.heap.size w w2c := hbW2.trans ((G1.trans ((hb1x.mono G1.size).trans (G2.mono (Nat.le_trans G1.size hb1x.size)))).mono hbW2.size)
      refine op_app (s := .tmp 19) (x := .tmp 21) (t := 34) rfl w1c.heap.size 5 i0 (.int .u8 0) 1 1 Try.underlying34 hi hz0 hz1 hz2 rfl (by decide) a1x 9 c1x (bvs H) e19 hoT r.d.a r.d.l.length r.d.c (bvs r.d.l) e21 (by rw [bvs_length]; omega) (hd.1.keep fun b o e hl => hbd.block b hl) (bvs_one _) (by unfold maxLen; omega) (by omega) hsz1 ?_
      intro a2x c2x w2x ho2x hb2x hf2x
      have hlw1 : w.heap.size < w1c.heap.size := Nat.lt_of_lt_of_le hl2 G1.size
      refine ⟨⟨hb2x.size, fun b hb hl => hb2x.block b (by omega)⟩, ?_⟩
      intro ρ3 w3c G3 E3
      have e22 : ρ3 (.tmp 22) = .slice a2x (9 + r.d.l.length) c2x := E3.chn 4 22 rfl rfl rfl
      refine step_plain rfl ?_
      have hbA := bthen hb2x G3 hsz1
      have hSum := refsum_any a2x c2x (H ++ r.d.l) w3c (by rw [bvs_append]; exact (ho2x.ext G3).src) (by rw [List.length_append, HH.out]; omega)
      rw [show (H ++ r.d.l).length = 9 + r.d.l.length by rw [List.length_append, HH.out]] at hSum
      refine op_call (f := 82) (args := #[.slice a2x (9 + r.d.l.length) c2x]) (w' := w3c) (by have hcon := E3.con; have hfn := E3.fn; clear E3; go_simp) ?_
      refine hSum.mono ?_
      rintro e w3x ⟨a3x, rfl, ho3x, hb3x⟩
      refine ⟨_, rfl, Keeps.of hb3x, ?_⟩
      intro ρ4 w4c G4 E4
      have e23 : ρ4 (.tmp 23) = .slice a3x 4 4 := E4.chn 5 23 rfl rfl rfl
      refine step_plain rfl ?_
      refine op_move (.inr rfl) e23 ⟨(Keeps.rel (fun b => b = w.heap.size)).of (Below.refl _ _), ?_⟩
      intro σ2 w3 GF TF hκ
      have h4 : σ2 4 = .slice a3x 4 4 := hκ 6 4 rfl rfl
      clear hκ
      simp only [upd, updL, dstsOf', elemB, List.filterMap_cons, List.filterMap_nil, Nat.reduceAdd, Nat.reduceBEq, Bool.or_false, Bool.false_or, Bool.or_true, Bool.true_or, cond_true, cond_false, Nat.zero_add, h4]
      have hGG := bthen G4 GF (Nat.le_refl _)
      have hsS := (ho3x.ext hGG).src
      have hr3 : w3.heap[w.heap.size]? = _ := (TF.block _ rfl hl2).trans hr2
      have hx := bthen G1 hb1x (Nat.le_refl _)
      have hy := bthen hx G2 (Nat.le_refl _)
      have hz2 := hy.trans (hb2x.mono G1.size)
      have hz3 := bthen hz2 G3 (Nat.le_refl _)
      have hz4 := bthen (bthen hz3 hb3x (Nat.le_refl _)) hGG (Nat.le_refl _)
      have hoH3 := hoH.ext hz4
      have hbW3 := bthen hbW2 hz4 (Nat.le_refl _)
      clear ho1x ho2x ho3x hb1x hb2x hb3x hf2x E1 E2 E3 E4 G1 G2 G3 G4 GF TF hGG hx hy hz2 hz3 hz4 hr2 hbW2 h4 hl2
      rw [show crc (H ++ r.d.l) = z from Hz.out] at hsS
      generalize a3x = asx at *
      have hl3 := heap_lt hr3
      go_wp2_with fail
      refine wp_region_chain (by kernel_rfl) [2, 5, 6] (Keeps.rel (fun b => b = w.heap.size)) [SpT.eq (.slice ah 9 ch), SpT.eq (.slice asx 4 4), SpT.top, SpT.eq (.pointer (some ⟨w.heap.size, 2, none⟩)), SpT.eq (.slice r.d.a r.d.l.length r.d.c), SpT.top, SpT.top] (by kernel_rfl) (by kernel_rfl) (by kernel_rfl) ?_ ?_
      · refine stepsF_free rfl ?_ (stepsF_free rfl ?_ (stepsF_chain rfl (stepsF_free rfl ?_ (stepsF_free rfl ?_ (stepsF_chain rfl (stepsF_chain rfl (stepsF_nil)))))))
        · intro ρ w' E
          have e3 : ρ (.tmp 3) = .slice ah 9 ch := E.out 3 rfl
          refine step_plain rfl ?_
          exact op_move (.inl rfl) e3 ⟨Below.refl _ _, rfl⟩
        · intro ρ w' E
          have e4 : ρ (.tmp 4) = .slice asx 4 4 := E.out 4 rfl
          refine step_plain rfl ?_
          exact op_move (.inl rfl) e4 ⟨Below.refl _ _, rfl⟩
        · intro ρ w' E
          have e1 : ρ (.tmp 1) = .pointer (some ⟨w.heap.size, 0, none⟩) := E.out 1 rfl
          refine step_plain rfl ?_
          refine op_val (v := .pointer (some ⟨w.heap.size, 2, none⟩)) (w' := w') ?_ ⟨Below.refl _ _, rfl⟩
          have hcon := E.con
          clear E
          go_simp
        · intro ρ w' E
          have e27 : ρ (.tmp 27) = .pointer (some ⟨w.heap.size, 2, none⟩) := E.pre 3 rfl
          refine step_plain rfl ?_
          refine op_val (v := .slice r.d.a r.d.l.length r.d.c) (w' := w') ?_ ⟨Below.refl _ _, rfl⟩
          have hg : w'.heap[w.heap.size]? = _ := (E.t.block _ rfl hl3).trans hr3
          have hk : w'.cell? ⟨w.heap.size, 2, none⟩ = some (.slice r.d.a r.d.l.length r.d.c) := cell_of_row w' w.heap.size 2 _ _ _ hg
          have hcon := E.con
          clear E hg
          go_simp
      · intro ρ1 w1c G1 E1
        have e24 : ρ1 (.tmp 24) = .slice ah 9 ch := E1.pre 0 rfl rfl
        have e25 : ρ1 (.tmp 25) = .slice asx 4 4 := E1.pre 1 rfl rfl
        refine step_plain rfl ?_
        have ho1 := hoH3.ext G1
        refine op_app (s := .tmp 24) (x := .tmp 25) (t := 34) rfl w.heap.size 5 i0 (.int .u8 0) 1 1 Try.underlying34 hi hz0 hz1 hz2 rfl (by decide) ah 9 ch (bvs H) e24 ho1 asx 4 4 (bvs (crcBytesOf z)) e25 rfl (hsS.ext G1) (bvs_one _) (by unfold maxLen; omega) (by omega) (by have := G1.size; have := hbW3.size; omega) ?_
        intro a1x c1x w1x ho1x hb1x hf1x
        refine ⟨⟨hb1x.size, fun b hb hl => hf1x b hl ?_⟩, ?_⟩
        · subst hb
          exact own_ne_type ho1 ((E1.t.block _ rfl hl3).trans hr3) (by decide)
        intro ρ2 w2c G2 E2
        have e26 : ρ2 (.tmp 26) = .slice a1x (9 + 4) c1x := E2.chn 2 26 rfl rfl rfl
        have e28 : ρ2 (.tmp 28) = .slice r.d.a r.d.l.length r.d.c := E2.pre 4 rfl rfl
        refine step_plain rfl ?_
        have ho2 := ho1x.ext G2
        have hbd : Below w.heap.size w w2c := ((hbW3.trans (G1.mono hbW3.size)).trans hb1x).trans (G2.mono (by have := hb1x.size; have := G1.size; have := hbW3.size; omega))
        refine op_app (s := .tmp 26) (x := .tmp 28) (t := 34) rfl w.heap.size 5 i0 (.int .u8 0) 1 1 Try.underlying34 hi hz0 hz1 hz2 rfl (by decide) a1x (9 + 4) c1x (bvs H ++ bvs (crcBytesOf z)) e26 ho2 r.d.a r.d.l.length r.d.c (bvs r.d.l) e28 (by rw [bvs_length]; omega) (hd.1.keep fun b o e hl => hbd.block b hl) (bvs_one _) (by unfold maxLen; omega) (by omega) hbd.size ?_
        intro a2x c2x w2x ho2x hb2x hf2x
        refine ⟨⟨hb2x.size, fun b hb hl => hf2x b hl ?_⟩, ?_⟩
        · subst hb
          exact own_ne_type ho2 ((E2.t.block _ rfl hl3).trans hr3) (by decide)
        intro ρ3 w3c G3 E3
        have e29 : ρ3 (.tmp 29) = .slice a2x (9 + 4 + r.d.l.length) c2x := E3.chn 5 29 rfl rfl rfl
        refine step_plain rfl ?_
        refine op_move (.inr rfl) e29 ⟨(Keeps.rel (fun b => b = w.heap.size)).of (Below.refl _ _), ?_⟩
        intro σ3 w4 GF TF hκ
        have h2 : σ3 2 = .slice a2x (9 + 4 + r.d.l.length) c2x := hκ 6 2 rfl rfl
        clear hκ
        simp only [upd, updL, dstsOf', elemB, List.filterMap_cons, List.filterMap_nil, Nat.reduceAdd, Nat.reduceBEq, Bool.or_false, Bool.false_or, Bool.or_true, Bool.true_or, cond_true, cond_false, Nat.zero_add, h2]
        have hGG := bthen G3 GF (Nat.le_refl _)
        have hoF := ho2x.ext hGG
        have hbF := (hbd.trans hb2x).trans (hGG.mono (by have := hbd.size; have := hb2x.size; omega))
        go_wp2
        go_ret
        refine ⟨a2x, c2x, by rw [show 13 + r.d.l.length = 9 + 4 + r.d.l.length by omega]; rfl, ?_, hbF⟩
        rw [show 13 + r.d.l.length = 9 + 4 + r.d.l.length by omega, Hfo.out, bvs_append, bvs_append, ← List.append_assoc]
        exact hoF
end Go.Proofs.Ytogcejmnhiphgaa
