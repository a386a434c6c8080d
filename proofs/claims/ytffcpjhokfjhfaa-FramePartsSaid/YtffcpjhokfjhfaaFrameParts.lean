/- The law FrameParts, walked. -/
import Derived.Test.YtffcpjhokfjhfaaFrameWakes
import Derived.Test.YtffcpjhokfjhfaaFramePlain2
namespace Go.Proofs.Ytffcpjhokfjhfaa
open Go.RowKit

/-- The first five bytes of a frame. -/
theorem frame_head (r : Rec) (h : r.e = 0) : ∃ x0 x1 x2 x3 x4 t, frameOf r = x0 :: x1 :: x2 :: x3 :: x4 :: t ∧ (x0.toNat : Int) = r.kind ∧ ((x1.toNat * 16777216 + x2.toNat * 65536 + x3.toNat * 256 + x4.toNat : Nat) : Int) = r.seq := by
  obtain ⟨h1, h2, h3, h4, h5⟩ := recE_ok.1 h
  obtain ⟨K, hK⟩ := Int.eq_ofNat_of_zero_le (show 0 ≤ r.kind by omega)
  obtain ⟨S, hS⟩ := Int.eq_ofNat_of_zero_le h3
  have hk : r.kind.toNat = K := by omega
  have hs : r.seq.toNat = S := by omega
  refine ⟨BitVec.ofNat 8 K, BitVec.ofNat 8 (S / 256 ^ 3), BitVec.ofNat 8 (S / 256 ^ 2), BitVec.ofNat 8 (S / 256), BitVec.ofNat 8 S, be r.d.length 4 ++ (crcBytesOf (crc (fhead r ++ r.d)) ++ r.d), ?_, ?_, ?_⟩
  · simp [frameOf, fhead, be, hk, hs]
  · rw [BitVec.toNat_ofNat]; omega
  · simp only [BitVec.toNat_ofNat]
    have p3 : (256 : Nat) ^ 3 = 16777216 := by decide
    have p2 : (256 : Nat) ^ 2 = 65536 := by decide
    rw [p3, p2, hS]
    omega
theorem or4i (a b c d : Byte) : bits .or .i64 (bits .or .i64 (bits .or .i64 ((a.toNat : Int) * 16777216) ((b.toNat : Int) * 65536)) ((c.toNat : Int) * 256)) (d.toNat : Int) = ((a.toNat * 16777216 + b.toNat * 65536 + c.toNat * 256 + d.toNat : Nat) : Int) := by
  have ha := a.isLt
  have hb := b.isLt
  have hc := c.isLt
  have hd := d.isLt
  have s1 : bits .or .i64 ((a.toNat : Int) * 16777216) ((b.toNat : Int) * 65536) = ((a.toNat * 256 + b.toNat : Nat) : Int) * 65536 := by
    rw [bits_join .i64 63 (by decide) wraps_i64_63 24 _ _ (by omega) (by omega) (by omega) (by omega) (by omega) (by omega)]
    omega
  have s2 : bits .or .i64 (((a.toNat * 256 + b.toNat : Nat) : Int) * 65536) ((c.toNat : Int) * 256) = ((a.toNat * 65536 + b.toNat * 256 + c.toNat : Nat) : Int) * 256 := by
    rw [bits_join .i64 63 (by decide) wraps_i64_63 16 _ _ (by omega) (by omega) (by omega) (by omega) (by omega) (by omega)]
    omega
  rw [s1, s2, bits_join .i64 63 (by decide) wraps_i64_63 8 _ _ (by omega) (by omega) (by omega) (by omega) (by omega) (by omega)]
  omega
theorem frameOf_inj {a b : Rec} (ha : a.e = 0) (hb : b.e = 0) (h : frameOf a = frameOf b) : a = b := by
  have h1 := readF_frame0 a ha
  rw [h, readF_frame0 b hb] at h1
  simp only [Prod.mk.injEq] at h1
  exact h1.1.symm

set_option maxRecDepth 100000 in
set_option maxHeartbeats 2000000 in
theorem frameParts_walk (w : World) (ra : RecV) (hda : ra.d.ok w) (rb : RecV) (hdb : rb.d.ok w) :
    Calls Try.prog 5 #[ra.val, rb.val] w fun e w' => e = .returned (.bool true) ∧ Below w.heap.size w w' := by
  have hb1 := (ext_alloc w (.cells #[.int .i64 ra.kind, .int .i64 ra.seq, .slice ra.d.a ra.d.l.length ra.d.c] 29)).alloc (by simp) (.cells #[.int .i64 rb.kind, .int .i64 rb.seq, .slice rb.d.a rb.d.l.length rb.d.c] 29)
  have hA1 := (RecAt.new w ra).ext (ext_alloc _ (.cells #[.int .i64 rb.kind, .int .i64 rb.seq, .slice rb.d.a rb.d.l.length rb.d.c] 29))
  have hB1 := RecAt.new (w.alloc (.cells #[.int .i64 ra.kind, .int .i64 ra.seq, .slice ra.d.a ra.d.l.length ra.d.c] 29)) rb
  rw [World.size_alloc] at hB1
  have hsz1 : ((w.alloc (.cells #[.int .i64 ra.kind, .int .i64 ra.seq, .slice ra.d.a ra.d.l.length ra.d.c] 29)).alloc (.cells #[.int .i64 rb.kind, .int .i64 rb.seq, .slice rb.d.a rb.d.l.length rb.d.c] 29)).heap.size = w.heap.size + 1 + 1 := by simp
  obtain ⟨k0, k1, k2⟩ := hA1.cells
  obtain ⟨m0, m1, m2⟩ := hB1.cells
  obtain ⟨hv, hhv⟩ : ∃ hv, heavy06 [ra, rb] = hv := ⟨_, rfl⟩
  have HV := Lib.hid hhv
  unfold RecV.val
  go_enter Try.func5, Try.ntmps5
  go_wp2_with fail
  generalize (w.alloc (.cells #[.int .i64 ra.kind, .int .i64 ra.seq, .slice ra.d.a ra.d.l.length ra.d.c] 29)).alloc (.cells #[.int .i64 rb.kind, .int .i64 rb.seq, .slice rb.d.a rb.d.l.length rb.d.c] 29) = w1 at *
  have hb12 := ext_alloc w1 (.cells (rvs [ra, rb]).toArray 29)
  have hnew := src_new w1 (rvs [ra, rb]) 29
  rw [hsz1] at hnew
  have hb02 := bthen hb1 hb12 (Nat.le_refl _)
  have hmat : RMat (w1.alloc (.cells (rvs [ra, rb]).toArray 29)) (some ⟨w.heap.size + 1 + 1, 0, none⟩) [ra, rb] := ⟨hnew, fun r hr => by
    simp only [List.mem_cons, List.not_mem_nil, or_false] at hr
    rcases hr with rfl | rfl
    · exact hda.ext hb02
    · exact hdb.ext hb02⟩
  refine (heavy06_at _ _ 2 [ra, rb] hv _ hmat rfl (by omega) HV.out).mono ?_
  rintro e w2 ⟨rfl, rfl⟩
  have hA2 := hA1.ext hb12
  have hB2 := hB1.ext hb12
  have hda2 := hda.ext hb02
  have hdb2 := hdb.ext hb02
  clear k0 k1 k2 m0 m1 m2 hA1 hB1 hb1 hb12 hnew hmat hda hdb hhv hsz1
  cases hv with
  | true =>
    go_wp2
    go_ret
    exact ⟨rfl, hb02⟩
  | false =>
    obtain ⟨_, h400⟩ := heavy06_no HV.out
    have hna := h400 ra (by simp)
    have hnb := h400 rb (by simp)
    clear h400 HV
    generalize (w1.alloc (.cells (rvs [ra, rb]).toArray 29)) = w2 at *
    obtain ⟨E, hE⟩ : ∃ E, ra.pl.e = E := ⟨_, rfl⟩
    obtain ⟨G, hG⟩ : ∃ G, rb.pl.e = G := ⟨_, rfl⟩
    obtain ⟨lx, hlx⟩ : ∃ lx, (if ra.pl.e = 0 then frameOf ra.pl else []) = lx := ⟨_, rfl⟩
    obtain ⟨ly, hly⟩ : ∃ ly, (if rb.pl.e = 0 then frameOf rb.pl else []) = ly := ⟨_, rfl⟩
    obtain ⟨XL, hXL⟩ : ∃ XL, lx.length = XL := ⟨_, rfl⟩
    obtain ⟨YL, hYL⟩ : ∃ YL, ly.length = YL := ⟨_, rfl⟩
    have HE := Lib.hid hE
    have HG := Lib.hid hG
    have Hlx := Lib.hid hlx
    have Hly := Lib.hid hly
    have HXL := Lib.hid hXL
    have HYL := Lib.hid hYL
    have HBA := Lib.hid (frbytes_at ra E lx XL w2 hda2 hE hlx hXL)
    have HBB := Lib.hid fun wx hok => frbytes_at rb G ly YL wx hok hG hly hYL
    unfold RecV.val at HBA HBB
    clear hE hG hlx hly hXL hYL
    obtain ⟨k0, k1, k2⟩ := hA2.cells
    go_wp2_with fail
    refine HBA.out.mono ?_
    rintro e w3 ⟨a5, c5, rfl, ho5, hb3⟩
    have hx3 := ho5.src
    have hlc5 := ho5.len.1
    have hA3 := hA2.ext hb3
    have hB3 := hB2.ext hb3
    have hda3 := hda2.ext hb3
    have hdb3 := hdb2.ext hb3
    have hb03 := bthen hb02 hb3 (Nat.le_refl _)
    clear k0 k1 k2 ho5 HBA hA2 hB2 hda2 hdb2 hb02 hb3
    obtain ⟨m0, m1, m2⟩ := hB3.cells
    go_wp2_with fail
    refine (HBB.out w3 hdb3).mono ?_
    rintro e w6 ⟨a6, c6, rfl, ho6, hb6⟩
    have hy6 := ho6.src
    have hx6 := hx3.ext hb6
    have hA6 := hA3.ext hb6
    have hB6 := hB3.ext hb6
    have hda6 := hda3.ext hb6
    have hdb6 := hdb3.ext hb6
    have hb06 := bthen hb03 hb6 (Nat.le_refl _)
    clear m0 m1 m2 ho6 HBB hx3 hA3 hB3 hda3 hdb3 hb03 hb6
    have hXLn : E ≠ 0 → XL = 0 := fun h => by rw [← HXL.out, ← Hlx.out, if_neg (by rw [HE.out]; exact h)]; rfl
    have hYLn : G ≠ 0 → YL = 0 := fun h => by rw [← HYL.out, ← Hly.out, if_neg (by rw [HG.out]; exact h)]; rfl
    have HXLn := Lib.hid hXLn
    have HYLn := Lib.hid hYLn
    clear hXLn hYLn
    by_cases hE0 : E = 0
    · by_cases hG0 : G = 0
      · subst hE0
        subst hG0
        have hlx : lx = frameOf ra.pl := by rw [← Hlx.out, if_pos HE.out]
        have hly : ly = frameOf rb.pl := by rw [← Hly.out, if_pos HG.out]
        have hXn : XL = 13 + ra.d.l.length := by rw [← HXL.out, hlx]; exact frameOf_length _
        have hYn : YL = 13 + rb.d.l.length := by rw [← HYL.out, hly]; exact frameOf_length _
        have HXn := Lib.hid hXn
        have hx13 : 13 ≤ XL := by omega
        have hx413 : XL ≤ 413 := by omega
        have hy413 : YL ≤ 413 := by omega
        obtain ⟨bb, hbb⟩ : ∃ bb, decide (lx = ly) = bb := ⟨_, rfl⟩
        have Hb := Lib.hid hbb
        have Hr : Hid (decide (ra.pl = rb.pl) = bb) := Lib.hid (by
          rw [← hbb, hlx, hly]
          congr 1
          exact propext ⟨fun h => by rw [h], fun h => frameOf_inj HE.out HG.out h⟩)
        obtain ⟨x0, x1, x2, x3, x4, xt, hx, hxk, hxs⟩ := frame_head ra.pl HE.out
        rw [← hlx] at hx
        have Hlx2 := Lib.hid hlx
        have Hx := Lib.hid hx
        have Hx0 : Hid ((x0.toNat : Int) = ra.kind) := Lib.hid hxk
        have Hor : Hid (bits .or .i64 (bits .or .i64 (bits .or .i64 ((x1.toNat : Int) * 16777216) ((x2.toNat : Int) * 65536)) ((x3.toNat : Int) * 256)) (x4.toNat : Int) = ra.seq) := Lib.hid (by rw [or4i]; exact hxs)
        obtain ⟨bx, ox, rfl, hlxb, hat⟩ := src_bytes_at hx6 (show 0 < lx.length by rw [HXL.out]; omega)
        clear hlx hly hXn hYn hbb hx hxk hxs HXLn HYLn Hlx Hly hat
        go_wp2_with fail
        refine wp_region_sp (by kernel_rfl) [Sp.eq (.slice (some ⟨bx, ox, none⟩) XL c5), Sp.eq (.int .i64 (XL : Int)), Sp.eq (.pointer (some ⟨w.heap.size, 2, none⟩)), Sp.eq (.slice ra.d.a ra.d.l.length ra.d.c), Sp.eq (.int .i64 (ra.d.l.length : Int)), Sp.eq (.int .i64 (XL : Int)), Sp.eq (.bool false), Sp.eq (.bool false), Sp.eq (.slice (some ⟨bx, ox, none⟩) XL c5), Sp.eq (.slice a6 YL c6), Sp.eq (.bool bb), Sp.eq (ra.val), Sp.eq (rb.val), Sp.eq (.bool bb), Sp.eq (.bool false), Sp.eq (.bool false)] (by kernel_rfl) ?_ ?_
        · refine stepsOk_cons ?_ (stepsOk_cons ?_ (stepsOk_cons ?_ (stepsOk_cons ?_ (stepsOk_cons ?_ (stepsOk_cons ?_ (stepsOk_cons ?_ (stepsOk_cons ?_ (stepsOk_cons ?_ (stepsOk_cons ?_ (stepsOk_cons ?_ (stepsOk_cons ?_ (stepsOk_cons ?_ (stepsOk_cons ?_ (stepsOk_cons ?_ (stepsOk_cons ?_ (stepsOk_nil))))))))))))))))
          · intro ρ w' E
            have e5 : ρ (.tmp 5) = .slice (some ⟨bx, ox, none⟩) XL c5 := E.out 5 rfl
            refine step_plain rfl ?_
            exact op_move (.inl rfl) e5 ⟨Below.refl _ _, rfl⟩
          · intro ρ w' E
            have e50 : ρ (.tmp 50) = .slice (some ⟨bx, ox, none⟩) XL c5 := E.pre 0 rfl
            refine step_plain rfl ?_
            refine op_val (v := .int .i64 (XL : Int)) (w' := w') ?_ ⟨Below.refl _ _, rfl⟩
            have hcon := E.con
            clear E
            go_simp
          · intro ρ w' E
            have e2 : ρ (.tmp 2) = .pointer (some ⟨w.heap.size, 0, none⟩) := E.out 2 rfl
            refine step_plain rfl ?_
            refine op_val (v := .pointer (some ⟨w.heap.size, 2, none⟩)) (w' := w') ?_ ⟨Below.refl _ _, rfl⟩
            have hcon := E.con
            clear E
            go_simp
          · intro ρ w' E
            have e52 : ρ (.tmp 52) = .pointer (some ⟨w.heap.size, 2, none⟩) := E.pre 2 rfl
            refine step_plain rfl ?_
            refine op_val (v := .slice ra.d.a ra.d.l.length ra.d.c) (w' := w') ?_ ⟨Below.refl _ _, rfl⟩
            obtain ⟨k0, k1, k2⟩ := (hA6.ext E.below).cells
            have hcon := E.con
            clear E
            go_simp
          · intro ρ w' E
            have e53 : ρ (.tmp 53) = .slice ra.d.a ra.d.l.length ra.d.c := E.pre 3 rfl
            refine step_plain rfl ?_
            refine op_val (v := .int .i64 (ra.d.l.length : Int)) (w' := w') ?_ ⟨Below.refl _ _, rfl⟩
            have hcon := E.con
            clear E
            go_simp
          · intro ρ w' E
            have e54 : ρ (.tmp 54) = .int .i64 (ra.d.l.length : Int) := E.pre 4 rfl
            refine step_plain rfl ?_
            refine op_val (v := .int .i64 (XL : Int)) (w' := w') ?_ ⟨Below.refl _ _, rfl⟩
            have hcon := E.con
            clear E
            go_simp
            rw [IntKind.wrap_i64]
            have := HXn.out
            omega
          · intro ρ w' E
            have e51 : ρ (.tmp 51) = .int .i64 (XL : Int) := E.pre 1 rfl
            have e55 : ρ (.tmp 55) = .int .i64 (XL : Int) := E.pre 5 rfl
            refine step_plain rfl ?_
            refine op_val (v := .bool false) (w' := w') ?_ ⟨Below.refl _ _, rfl⟩
            have hcon := E.con
            clear E
            go_simp
          · intro ρ w' E
            have e56 : ρ (.tmp 56) = .bool false := E.pre 6 rfl
            refine step_plain rfl ?_
            exact op_move (.inl rfl) e56 ⟨Below.refl _ _, rfl⟩
          · intro ρ w' E
            have e5 : ρ (.tmp 5) = .slice (some ⟨bx, ox, none⟩) XL c5 := E.out 5 rfl
            refine step_yes rfl (E.pre 7 rfl) ?_
            exact op_move (.inl rfl) e5 ⟨Below.refl _ _, rfl⟩
          · intro ρ w' E
            have e7 : ρ (.tmp 7) = .slice a6 YL c6 := E.out 7 rfl
            refine step_yes rfl (E.pre 7 rfl) ?_
            exact op_move (.inl rfl) e7 ⟨Below.refl _ _, rfl⟩
          · intro ρ w' E
            have e58 : ρ (.tmp 58) = .slice (some ⟨bx, ox, none⟩) XL c5 := E.pre 8 rfl
            have e59 : ρ (.tmp 59) = .slice a6 YL c6 := E.pre 9 rfl
            refine step_yes rfl (E.pre 7 rfl) ?_
            refine op_call (f := 15) (args := #[.slice (some ⟨bx, ox, none⟩) XL c5, .slice a6 YL c6]) (w' := w') (by have hcon := E.con; have hfn := E.fn; clear E; go_simp) ?_
            refine (bytes_at _ c5 lx a6 c6 ly w' XL YL bb (hx6.ext E.below) (hy6.ext E.below) HXL.out.symm HYL.out.symm (by omega) (by omega) Hb.out).mono ?_
            rintro e w2 ⟨rfl, n, rfl⟩
            exact ⟨_, rfl, ext_drewN _ _ _, rfl⟩
          · intro ρ w' E
            have e2 : ρ (.tmp 2) = .pointer (some ⟨w.heap.size, 0, none⟩) := E.out 2 rfl
            refine step_yes rfl (E.pre 7 rfl) ?_
            refine op_val (v := ra.val) (w' := w') ?_ ⟨Below.refl _ _, rfl⟩
            unfold RecV.val
            obtain ⟨k0, k1, k2⟩ := (hA6.ext E.below).cells
            have hcon := E.con
            clear E
            go_simp
          · intro ρ w' E
            have e3 : ρ (.tmp 3) = .pointer (some ⟨w.heap.size + 1, 0, none⟩) := E.out 3 rfl
            refine step_yes rfl (E.pre 7 rfl) ?_
            refine op_val (v := rb.val) (w' := w') ?_ ⟨Below.refl _ _, rfl⟩
            unfold RecV.val
            obtain ⟨k0, k1, k2⟩ := (hB6.ext E.below).cells
            have hcon := E.con
            clear E
            go_simp
          · intro ρ w' E
            have e61 : ρ (.tmp 61) = ra.val := E.pre 11 rfl
            have e62 : ρ (.tmp 62) = rb.val := E.pre 12 rfl
            refine step_yes rfl (E.pre 7 rfl) ?_
            refine op_call (f := 22) (args := #[ra.val, rb.val]) (w' := w') (by have hcon := E.con; have hfn := E.fn; clear E; go_simp) ?_
            refine (record_at ra rb bb w' (hda6.ext E.below) (hdb6.ext E.below) Hr.out).mono ?_
            rintro e w2 ⟨rfl, hb2⟩
            exact ⟨_, rfl, hb2, rfl⟩
          · intro ρ w' E
            have e60 : ρ (.tmp 60) = .bool bb := E.pre 10 rfl
            have e63 : ρ (.tmp 63) = .bool bb := E.pre 13 rfl
            refine step_yes rfl (E.pre 7 rfl) ?_
            refine op_val (v := .bool false) (w' := w') ?_ ⟨Below.refl _ _, rfl⟩
            have hcon := E.con
            clear E
            go_simp
          · intro ρ w' E
            have e57 : ρ (.tmp 57) = .bool false := E.pre 7 rfl
            have e64 : ρ (.tmp 64) = .bool false := E.pre 14 rfl
            refine step_plain rfl ?_
            exact op_pick (b := false) rfl e57 rfl ⟨Below.refl _ _, e64⟩
        · intro σ w7 hb67 hall
          have h65 : σ 65 = .bool false := by obtain ⟨_, _, _, _, _, _, _, _, _, _, _, _, _, _, _, h, _⟩ := hall; exact h
          clear hall
          simp only [upd, updL, dstsOf', elemB, List.filterMap_cons, List.filterMap_nil, Nat.reduceAdd, Nat.reduceBEq, Bool.or_false, Bool.false_or, Bool.or_true, Bool.true_or, cond_true, cond_false, Nat.zero_add, h65]
          have hx7 := hx6.ext hb67
          have hA7 := hA6.ext hb67
          have hda7 := hda6.ext hb67
          have hb07 := bthen hb06 hb67 (Nat.le_refl _)
          have hlx7 : bx < w7.heap.size := Nat.lt_of_lt_of_le hlxb hb67.size
          have hs97 : Src w7 (some ⟨bx, ox, none⟩) (bvs (lx.take 9)) := by rw [bvs_take]; exact hx7.take 9
          have h9l : (lx.take 9).length = 9 := by simp; have := HXL.out; omega
          have h9h : lx.take 9 = fhead ra.pl := by rw [Hlx2.out, frameOf, List.take_left' (fhead_length _)]
          have hz : crc (flat [(⟨some ⟨bx, ox, none⟩, c5, lx.take 9⟩ : Bsl), ra.d]) = crc (fhead ra.pl ++ ra.d.l) := by simp [flat, h9h]
          generalize hl9 : lx.take 9 = l9 at *
          have Hl9 := Lib.hid h9l
          obtain ⟨z, hzz⟩ : ∃ z, crc (fhead ra.pl ++ ra.d.l) = z := ⟨_, rfl⟩
          rw [hzz] at hz
          have Hz := Lib.hid hz
          have Hzz := Lib.hid hzz
          clear h9l h9h hz hzz hl9 hx6 hA6 hda6 hb06 hB6 hdb6 hy6 hb67 Hb Hr HYL HG
          go_wp2_with fail
          refine wp_region_last2 _ _ (by simp only [lastSplit, Option.map_some]; rfl) (by kernel_rfl) [Sp.eq (.slice (some ⟨bx, ox, none⟩) XL c5), Sp.eq (.slice (some ⟨bx, ox, none⟩) 9 c5), Sp.eq (.pointer (some ⟨w.heap.size, 2, none⟩)), Sp.eq (.slice ra.d.a ra.d.l.length ra.d.c), ⟨fun w v => ∃ Bx, v = .slice (some ⟨Bx, 0, none⟩) 2 2 ∧ Mat w (some ⟨Bx, 0, none⟩) [⟨some ⟨bx, ox, none⟩, c5, l9⟩, ra.d], fun _ _ _ ⟨B, h, hm⟩ hb => ⟨B, h, hm.ext hb⟩⟩, Sp.eq (.agg (bvs (crcBytesOf z)).toArray), ⟨fun w v => ∃ g, v = .pointer (some ⟨g, 0, none⟩) ∧ w7.heap.size ≤ g ∧ w.heap[g]? = some (.cells #[.int .u8 0, .int .u8 0, .int .u8 0, .int .u8 0] 42), fun _ _ _ ⟨g, h, hle, hg⟩ hb => ⟨g, h, hle, (hb.block g (heap_lt hg)).trans hg⟩⟩] (by kernel_rfl) (by kernel_rfl) ?_ ?_
          · refine stepsOk_cons ?_ (stepsOk_cons ?_ (stepsOk_cons ?_ (stepsOk_cons ?_ (stepsOk_cons ?_ (stepsOk_cons ?_ (stepsOk_cons ?_ (stepsOk_nil)))))))
            · intro ρ w' E
              have e5 : ρ (.tmp 5) = .slice (some ⟨bx, ox, none⟩) XL c5 := E.out 5 rfl
              refine step_plain rfl ?_
              exact op_move (.inl rfl) e5 ⟨Below.refl _ _, rfl⟩
            · intro ρ w' E
              have e66 : ρ (.tmp 66) = .slice (some ⟨bx, ox, none⟩) XL c5 := E.pre 0 rfl
              refine step_plain rfl ?_
              refine op_val (v := .slice (some ⟨bx, ox, none⟩) 9 c5) (w' := w') ?_ ⟨Below.refl _ _, rfl⟩
              have hcon := E.con
              clear E
              go_simp
              intro hh
              omega
            · intro ρ w' E
              have e2 : ρ (.tmp 2) = .pointer (some ⟨w.heap.size, 0, none⟩) := E.out 2 rfl
              refine step_plain rfl ?_
              refine op_val (v := .pointer (some ⟨w.heap.size, 2, none⟩)) (w' := w') ?_ ⟨Below.refl _ _, rfl⟩
              have hcon := E.con
              clear E
              go_simp
            · intro ρ w' E
              have e68 : ρ (.tmp 68) = .pointer (some ⟨w.heap.size, 2, none⟩) := E.pre 2 rfl
              refine step_plain rfl ?_
              refine op_val (v := .slice ra.d.a ra.d.l.length ra.d.c) (w' := w') ?_ ⟨Below.refl _ _, rfl⟩
              obtain ⟨k0, k1, k2⟩ := (hA7.ext E.below).cells
              have hcon := E.con
              clear E
              go_simp
            · intro ρ w' E
              have e67 : ρ (.tmp 67) = .slice (some ⟨bx, ox, none⟩) 9 c5 := E.pre 1 rfl
              have e69 : ρ (.tmp 69) = .slice ra.d.a ra.d.l.length ra.d.c := E.pre 3 rfl
              refine step_plain rfl ?_
              refine op_val (v := .slice (some ⟨w'.heap.size, 0, none⟩) 2 2) (w' := w'.alloc (.cells #[.slice (some ⟨bx, ox, none⟩) 9 c5, .slice ra.d.a ra.d.l.length ra.d.c] 27)) (by have hcon := E.con; clear E; go_simp; try rfl) ⟨ext_alloc _ _, _, rfl, mat_new' rfl (by simp [Bsl.val, Hl9.out]) ?_⟩
              intro q hq
              simp only [List.mem_cons, List.not_mem_nil, or_false] at hq
              rcases hq with rfl | rfl
              · exact ⟨hs97.ext E.below, by show l9.length ≤ _; rw [Hl9.out]; omega⟩
              · exact hda7.ext E.below
            · intro ρ w' E
              have p70 : (fun w v => ∃ Bx, v = .slice (some ⟨Bx, 0, none⟩) 2 2 ∧ Mat w (some ⟨Bx, 0, none⟩) [⟨some ⟨bx, ox, none⟩, c5, l9⟩, ra.d]) w' (ρ (.tmp 70)) := E.pre 4 rfl
              refine step_plain rfl ?_
              refine op_call (f := 23) (args := #[ρ (.tmp 70)]) (w' := w') (by have hcon := E.con; have hfn := E.fn; clear E; go_simp) ?_
              obtain ⟨B', e1, hmat⟩ := p70
              rw [e1]
              refine (crcbytes_at _ _ _ _ 2 z hmat rfl (by omega) Hz.out).mono ?_
              rintro e w2 ⟨rfl, hb⟩
              exact ⟨_, rfl, hb, rfl⟩
            · intro ρ w' E
              refine step_plain rfl ?_
              refine op_val (v := .pointer (some ⟨w'.heap.size, 0, none⟩)) (w' := w'.alloc (.cells #[.int .u8 0, .int .u8 0, .int .u8 0, .int .u8 0] 42)) (by have hcon := E.con; clear E; go_simp; try rfl) ⟨ext_alloc _ _, _, rfl, E.below.size, heap_alloc_new _ _⟩
          · intro σ w8 hb78 hall
            obtain ⟨_, _, _, _, _, h71, ⟨g9, hp9, hg9, hgg⟩, _⟩ := hall
            have h71 : σ 71 = .agg (bvs (crcBytesOf z)).toArray := h71
            have hp9 : σ 9 = .pointer (some ⟨g9, 0, none⟩) := hp9
            simp only [upd, updL, dstsOf', elemB, List.filterMap_cons, List.filterMap_nil, Nat.reduceAdd, Nat.reduceBEq, Bool.or_false, Bool.false_or, Bool.or_true, Bool.true_or, cond_true, cond_false, Nat.zero_add, hp9, h71]
            have hrow := setRow_heap w8 g9 _ (bvs (crcBytesOf z)).toArray _ _ hgg
            have hwo : ∀ b', b' < w7.heap.size → (w8.setRow g9 (bvs (crcBytesOf z)).toArray).heap[b']? = w7.heap[b']? := fun b' hb' => (setRow_other w8 g9 b' _ (by omega)).trans (hb78.block b' hb')
            have hx9 : Src (w8.setRow g9 (bvs (crcBytesOf z)).toArray) (some ⟨bx, ox, none⟩) (bvs lx) := hx7.keep fun b' o' _ hl => hwo b' hl
            have hA9 : RecAt (w8.setRow g9 (bvs (crcBytesOf z)).toArray) w.heap.size ra := (hwo _ (heap_lt (show w7.heap[w.heap.size]? = _ from hA7))).trans hA7
            have hda9 : ra.d.ok (w8.setRow g9 (bvs (crcBytesOf z)).toArray) := ⟨hda7.1.keep fun b' o' _ hl => hwo b' hl, hda7.2⟩
            have hs9x0 : Src (w8.setRow g9 (bvs (crcBytesOf z)).toArray) (some ⟨g9, 0, none⟩) (bvs (crcBytesOf z)) := Or.inr ⟨_, 0, _, _, _, rfl, hrow, by simp [bvs, crcBytesOf]⟩
            have hb09 := bsetRow (bthen hb07 hb78 (Nat.le_refl _)) (show w.heap.size ≤ g9 by have := hb07.size; omega) (bvs (crcBytesOf z)).toArray
            go_wp2_with (refine wpList_store_row rfl rfl 42 (.tmp 9) (.tmp 71) rfl g9 rfl 42 #[.int .u8 0, .int .u8 0, .int .u8 0, .int .u8 0] (bvs (crcBytesOf z)).toArray rfl hgg rfl (by kernel_rfl) (by simpa using bvs_one (crcBytesOf z)) ?_)
            generalize hws : World.setRow _ _ _ = w9 at *
            clear hws hwo hrow hgg hb78 hx7 hA7 hda7 hb07 hs97 hp9 h71 hlx7
            obtain ⟨bx', ox', hbo, hlx, hat⟩ := src_bytes_at hx9 (show 0 < lx.length by rw [HXL.out]; omega)
            simp only [Option.some.injEq, Addr.mk.injEq, and_true] at hbo
            obtain ⟨rfl, rfl⟩ := hbo
            have hX := Hx.out
            have hget : ∀ k (hk : k < lx.length) v, (x0 :: x1 :: x2 :: x3 :: x4 :: xt)[k]? = some v → w9.cell? ⟨bx, ox + k, none⟩ = some (.int .u8 (v.toNat : Int)) := by
              intro k hk v hv
              rw [hat k hk]
              rw [← hX, List.getElem?_eq_getElem hk] at hv
              rw [Option.some.inj hv]
            have hl5 : 13 ≤ lx.length := by rw [HXL.out]; exact hx13
            have y0 : w9.cell? ⟨bx, ox, none⟩ = some (.int .u8 (x0.toNat : Int)) := by simpa using hget 0 (by omega) x0 rfl
            have y1 := hget 1 (by omega) x1 rfl
            have y2 := hget 2 (by omega) x2 rfl
            have y3 := hget 3 (by omega) x3 rfl
            have y4 := hget 4 (by omega) x4 rfl
            have HlL := Lib.hid hl5
            clear hget hat hX hl5
            refine wp_region_sp (by kernel_rfl) [Sp.eq (.slice (some ⟨bx, ox, none⟩) XL c5), Sp.eq (.pointer (some ⟨bx, ox + 1, none⟩)), Sp.eq (.int .u8 (x1.toNat : Int)), Sp.eq (.int .i64 (x1.toNat : Int)), Sp.eq (.int .i64 ((x1.toNat : Int) * 16777216)), Sp.eq (.slice (some ⟨bx, ox, none⟩) XL c5), Sp.eq (.pointer (some ⟨bx, ox + 2, none⟩)), Sp.eq (.int .u8 (x2.toNat : Int)), Sp.eq (.int .i64 (x2.toNat : Int)), Sp.eq (.int .i64 ((x2.toNat : Int) * 65536)), Sp.eq (.int .i64 (bits .or .i64 ((x1.toNat : Int) * 16777216) ((x2.toNat : Int) * 65536))), Sp.eq (.slice (some ⟨bx, ox, none⟩) XL c5), Sp.eq (.pointer (some ⟨bx, ox + 3, none⟩)), Sp.eq (.int .u8 (x3.toNat : Int)), Sp.eq (.int .i64 (x3.toNat : Int)), Sp.eq (.int .i64 ((x3.toNat : Int) * 256)), Sp.eq (.int .i64 (bits .or .i64 (bits .or .i64 ((x1.toNat : Int) * 16777216) ((x2.toNat : Int) * 65536)) ((x3.toNat : Int) * 256))), Sp.eq (.slice (some ⟨bx, ox, none⟩) XL c5), Sp.eq (.pointer (some ⟨bx, ox + 4, none⟩)), Sp.eq (.int .u8 (x4.toNat : Int)), Sp.eq (.int .i64 (x4.toNat : Int)), Sp.eq (.int .i64 ra.seq), Sp.eq (.int .i64 ra.seq)] (by kernel_rfl) ?_ ?_
            · refine stepsOk_cons ?_ (stepsOk_cons ?_ (stepsOk_cons ?_ (stepsOk_cons ?_ (stepsOk_cons ?_ (stepsOk_cons ?_ (stepsOk_cons ?_ (stepsOk_cons ?_ (stepsOk_cons ?_ (stepsOk_cons ?_ (stepsOk_cons ?_ (stepsOk_cons ?_ (stepsOk_cons ?_ (stepsOk_cons ?_ (stepsOk_cons ?_ (stepsOk_cons ?_ (stepsOk_cons ?_ (stepsOk_cons ?_ (stepsOk_cons ?_ (stepsOk_cons ?_ (stepsOk_cons ?_ (stepsOk_cons ?_ (stepsOk_cons ?_ (stepsOk_nil)))))))))))))))))))))))
              · intro ρ w' E
                have e5 : ρ (.tmp 5) = .slice (some ⟨bx, ox, none⟩) XL c5 := E.out 5 rfl
                refine step_plain rfl ?_
                exact op_move (.inl rfl) e5 ⟨Below.refl _ _, rfl⟩
              · intro ρ w' E
                have e72 : ρ (.tmp 72) = .slice (some ⟨bx, ox, none⟩) XL c5 := E.pre 0 rfl
                refine step_plain rfl ?_
                refine op_val (v := .pointer (some ⟨bx, ox + 1, none⟩)) (w' := w') ?_ ⟨Below.refl _ _, rfl⟩
                have hcon := E.con
                clear E
                go_simp
                intro hh
                omega
              · intro ρ w' E
                have e73 : ρ (.tmp 73) = .pointer (some ⟨bx, ox + 1, none⟩) := E.pre 1 rfl
                refine step_plain rfl ?_
                refine op_val (v := .int .u8 (x1.toNat : Int)) (w' := w') ?_ ⟨Below.refl _ _, rfl⟩
                have hk := (World.cell?_of_block (w := w9) (a := ⟨bx, ox + 1, none⟩) (E.below.block bx hlx)).trans y1
                have hcon := E.con
                clear E
                go_simp
              · intro ρ w' E
                have e74 : ρ (.tmp 74) = .int .u8 (x1.toNat : Int) := E.pre 2 rfl
                refine step_plain rfl ?_
                refine op_val (v := .int .i64 (x1.toNat : Int)) (w' := w') ?_ ⟨Below.refl _ _, rfl⟩
                have hcon := E.con
                clear E
                go_simp
                rw [IntKind.wrap_i64]
                have := x1.isLt
                omega
              · intro ρ w' E
                have e75 : ρ (.tmp 75) = .int .i64 (x1.toNat : Int) := E.pre 3 rfl
                refine step_plain rfl ?_
                refine op_val (v := .int .i64 ((x1.toNat : Int) * 16777216)) (w' := w') ?_ ⟨Below.refl _ _, rfl⟩
                have hb := x1.isLt
                have hcon := E.con
                clear E
                go_simp
                rw [IntKind.wrap_i64]
                omega
              · intro ρ w' E
                have e5 : ρ (.tmp 5) = .slice (some ⟨bx, ox, none⟩) XL c5 := E.out 5 rfl
                refine step_plain rfl ?_
                exact op_move (.inl rfl) e5 ⟨Below.refl _ _, rfl⟩
              · intro ρ w' E
                have e77 : ρ (.tmp 77) = .slice (some ⟨bx, ox, none⟩) XL c5 := E.pre 5 rfl
                refine step_plain rfl ?_
                refine op_val (v := .pointer (some ⟨bx, ox + 2, none⟩)) (w' := w') ?_ ⟨Below.refl _ _, rfl⟩
                have hcon := E.con
                clear E
                go_simp
                intro hh
                omega
              · intro ρ w' E
                have e78 : ρ (.tmp 78) = .pointer (some ⟨bx, ox + 2, none⟩) := E.pre 6 rfl
                refine step_plain rfl ?_
                refine op_val (v := .int .u8 (x2.toNat : Int)) (w' := w') ?_ ⟨Below.refl _ _, rfl⟩
                have hk := (World.cell?_of_block (w := w9) (a := ⟨bx, ox + 2, none⟩) (E.below.block bx hlx)).trans y2
                have hcon := E.con
                clear E
                go_simp
              · intro ρ w' E
                have e79 : ρ (.tmp 79) = .int .u8 (x2.toNat : Int) := E.pre 7 rfl
                refine step_plain rfl ?_
                refine op_val (v := .int .i64 (x2.toNat : Int)) (w' := w') ?_ ⟨Below.refl _ _, rfl⟩
                have hcon := E.con
                clear E
                go_simp
                rw [IntKind.wrap_i64]
                have := x2.isLt
                omega
              · intro ρ w' E
                have e80 : ρ (.tmp 80) = .int .i64 (x2.toNat : Int) := E.pre 8 rfl
                refine step_plain rfl ?_
                refine op_val (v := .int .i64 ((x2.toNat : Int) * 65536)) (w' := w') ?_ ⟨Below.refl _ _, rfl⟩
                have hb := x2.isLt
                have hcon := E.con
                clear E
                go_simp
                rw [IntKind.wrap_i64]
                omega
              · intro ρ w' E
                have e76 : ρ (.tmp 76) = .int .i64 ((x1.toNat : Int) * 16777216) := E.pre 4 rfl
                have e81 : ρ (.tmp 81) = .int .i64 ((x2.toNat : Int) * 65536) := E.pre 9 rfl
                refine step_plain rfl ?_
                refine op_val (v := .int .i64 (bits .or .i64 ((x1.toNat : Int) * 16777216) ((x2.toNat : Int) * 65536))) (w' := w') ?_ ⟨Below.refl _ _, rfl⟩
                have hcon := E.con
                clear E
                go_simp
              · intro ρ w' E
                have e5 : ρ (.tmp 5) = .slice (some ⟨bx, ox, none⟩) XL c5 := E.out 5 rfl
                refine step_plain rfl ?_
                exact op_move (.inl rfl) e5 ⟨Below.refl _ _, rfl⟩
              · intro ρ w' E
                have e83 : ρ (.tmp 83) = .slice (some ⟨bx, ox, none⟩) XL c5 := E.pre 11 rfl
                refine step_plain rfl ?_
                refine op_val (v := .pointer (some ⟨bx, ox + 3, none⟩)) (w' := w') ?_ ⟨Below.refl _ _, rfl⟩
                have hcon := E.con
                clear E
                go_simp
                intro hh
                omega
              · intro ρ w' E
                have e84 : ρ (.tmp 84) = .pointer (some ⟨bx, ox + 3, none⟩) := E.pre 12 rfl
                refine step_plain rfl ?_
                refine op_val (v := .int .u8 (x3.toNat : Int)) (w' := w') ?_ ⟨Below.refl _ _, rfl⟩
                have hk := (World.cell?_of_block (w := w9) (a := ⟨bx, ox + 3, none⟩) (E.below.block bx hlx)).trans y3
                have hcon := E.con
                clear E
                go_simp
              · intro ρ w' E
                have e85 : ρ (.tmp 85) = .int .u8 (x3.toNat : Int) := E.pre 13 rfl
                refine step_plain rfl ?_
                refine op_val (v := .int .i64 (x3.toNat : Int)) (w' := w') ?_ ⟨Below.refl _ _, rfl⟩
                have hcon := E.con
                clear E
                go_simp
                rw [IntKind.wrap_i64]
                have := x3.isLt
                omega
              · intro ρ w' E
                have e86 : ρ (.tmp 86) = .int .i64 (x3.toNat : Int) := E.pre 14 rfl
                refine step_plain rfl ?_
                refine op_val (v := .int .i64 ((x3.toNat : Int) * 256)) (w' := w') ?_ ⟨Below.refl _ _, rfl⟩
                have hb := x3.isLt
                have hcon := E.con
                clear E
                go_simp
                rw [IntKind.wrap_i64]
                omega
              · intro ρ w' E
                have e82 : ρ (.tmp 82) = .int .i64 (bits .or .i64 ((x1.toNat : Int) * 16777216) ((x2.toNat : Int) * 65536)) := E.pre 10 rfl
                have e87 : ρ (.tmp 87) = .int .i64 ((x3.toNat : Int) * 256) := E.pre 15 rfl
                refine step_plain rfl ?_
                refine op_val (v := .int .i64 (bits .or .i64 (bits .or .i64 ((x1.toNat : Int) * 16777216) ((x2.toNat : Int) * 65536)) ((x3.toNat : Int) * 256))) (w' := w') ?_ ⟨Below.refl _ _, rfl⟩
                have hcon := E.con
                clear E
                go_simp
              · intro ρ w' E
                have e5 : ρ (.tmp 5) = .slice (some ⟨bx, ox, none⟩) XL c5 := E.out 5 rfl
                refine step_plain rfl ?_
                exact op_move (.inl rfl) e5 ⟨Below.refl _ _, rfl⟩
              · intro ρ w' E
                have e89 : ρ (.tmp 89) = .slice (some ⟨bx, ox, none⟩) XL c5 := E.pre 17 rfl
                refine step_plain rfl ?_
                refine op_val (v := .pointer (some ⟨bx, ox + 4, none⟩)) (w' := w') ?_ ⟨Below.refl _ _, rfl⟩
                have hcon := E.con
                clear E
                go_simp
                intro hh
                omega
              · intro ρ w' E
                have e90 : ρ (.tmp 90) = .pointer (some ⟨bx, ox + 4, none⟩) := E.pre 18 rfl
                refine step_plain rfl ?_
                refine op_val (v := .int .u8 (x4.toNat : Int)) (w' := w') ?_ ⟨Below.refl _ _, rfl⟩
                have hk := (World.cell?_of_block (w := w9) (a := ⟨bx, ox + 4, none⟩) (E.below.block bx hlx)).trans y4
                have hcon := E.con
                clear E
                go_simp
              · intro ρ w' E
                have e91 : ρ (.tmp 91) = .int .u8 (x4.toNat : Int) := E.pre 19 rfl
                refine step_plain rfl ?_
                refine op_val (v := .int .i64 (x4.toNat : Int)) (w' := w') ?_ ⟨Below.refl _ _, rfl⟩
                have hcon := E.con
                clear E
                go_simp
                rw [IntKind.wrap_i64]
                have := x4.isLt
                omega
              · intro ρ w' E
                have e88 : ρ (.tmp 88) = .int .i64 (bits .or .i64 (bits .or .i64 ((x1.toNat : Int) * 16777216) ((x2.toNat : Int) * 65536)) ((x3.toNat : Int) * 256)) := E.pre 16 rfl
                have e92 : ρ (.tmp 92) = .int .i64 (x4.toNat : Int) := E.pre 20 rfl
                refine step_plain rfl ?_
                refine op_val (v := .int .i64 ra.seq) (w' := w') ?_ ⟨Below.refl _ _, rfl⟩
                have ho := Hor.out
                have hcon := E.con
                clear E
                go_simp
              · intro ρ w' E
                have e93 : ρ (.tmp 93) = .int .i64 ra.seq := E.pre 21 rfl
                refine step_plain rfl ?_
                exact op_move (.inr rfl) e93 ⟨Below.refl _ _, rfl⟩
            · intro σ2 w10 hb910 hall
              have h10 : σ2 10 = .int .i64 ra.seq := by obtain ⟨_, _, _, _, _, _, _, _, _, _, _, _, _, _, _, _, _, _, _, _, _, _, h, _⟩ := hall; exact h
              clear hall
              simp only [upd, updL, dstsOf', elemB, List.filterMap_cons, List.filterMap_nil, Nat.reduceAdd, Nat.reduceBEq, Bool.or_false, Bool.false_or, Bool.or_true, Bool.true_or, cond_true, cond_false, Nat.zero_add, h10]
              have hx10 := hx9.ext hb910
              have hA10 := hA9.ext hb910
              have hda10 := hda9.ext hb910
              have hs9x := hs9x0.ext hb910
              have hb10 := bthen hb09 hb910 (Nat.le_refl _)
              have hlx10 : bx < w10.heap.size := Nat.lt_of_lt_of_le hlx hb910.size
              have y0 : w10.cell? ⟨bx, ox, none⟩ = some (.int .u8 (x0.toNat : Int)) := (World.cell?_of_block (w := w9) (a := ⟨bx, ox, none⟩) (hb910.block bx hlx)).trans y0
              have hlxx := Hlx2.out
              have hs4x : Src w10 (some ⟨bx, ox + 9, none⟩) (bvs (crcBytesOf z)) := by
                have h1 := hx10.sub 9 4
                rw [← bvs_drop, ← bvs_take] at h1
                rw [show (lx.drop 9).take 4 = crcBytesOf z by rw [hlxx, frameOf, List.drop_left' (fhead_length _), List.take_left' (crcBytesOf_len _)]; exact congrArg crcBytesOf Hzz.out] at h1
                exact h1
              have hsdx : Src w10 (if c5 = 13 then some ⟨bx, ox, none⟩ else some ⟨bx, ox + 13, none⟩) (bvs ra.d.l) := by
                have hdl : lx.drop 13 = ra.d.l := by rw [hlxx, frameOf, show (13 : Nat) = 9 + 4 from rfl, ← List.drop_drop, List.drop_left' (fhead_length _), List.drop_left' (crcBytesOf_len _)]; rfl
                have h1 := src_drop hx10 c5 13 (by rw [bvs_length, HXL.out]; exact hlc5)
                rw [← bvs_drop, hdl] at h1
                have e : (⟨bx, ox, none⟩ : Addr).add 13 = ⟨bx, ox + 13, none⟩ := by unfold Addr.add; split <;> simp_all
                simpa [e] using h1
              clear y1 y2 y3 y4 hx9 hA9 hda9 hs9x0 hb09 hx10 hlxx hb910 hlx h10 Hor
              go_wp2_with fail
              refine wp_region_sp (by kernel_rfl) [Sp.eq (.slice (some ⟨bx, ox, none⟩) XL c5), Sp.eq (.pointer (some ⟨bx, ox, none⟩)), Sp.eq (.int .u8 (x0.toNat : Int)), Sp.eq (.int .i64 ra.kind), Sp.eq (.pointer (some ⟨w.heap.size, 0, none⟩)), Sp.eq (.int .i64 ra.kind), Sp.eq (.bool true), Sp.eq (.bool true), Sp.eq (.int .i64 ra.seq), Sp.eq (.pointer (some ⟨w.heap.size, 1, none⟩)), Sp.eq (.int .i64 ra.seq), Sp.eq (.bool true), Sp.eq (.bool true), Sp.eq (.bool true), Sp.eq (.slice (some ⟨bx, ox, none⟩) XL c5), Sp.eq (.slice (some ⟨bx, ox + 9, none⟩) 4 (c5 - 9)), Sp.eq (.slice (some ⟨g9, 0, none⟩) 4 4), Sp.eq (.bool true), Sp.eq (.bool true), Sp.eq (.bool true), Sp.eq (.slice (some ⟨bx, ox, none⟩) XL c5), Sp.eq (.slice (if c5 = 13 then some ⟨bx, ox, none⟩ else some ⟨bx, ox + 13, none⟩) (XL - 13) (c5 - 13)), Sp.eq (.pointer (some ⟨w.heap.size, 2, none⟩)), Sp.eq (.slice ra.d.a ra.d.l.length ra.d.c), Sp.eq (.bool true), Sp.eq (.bool true), Sp.eq (.bool true), Sp.eq (.bool true), Sp.eq (.bool true), Sp.eq (.bool true)] (by kernel_rfl) ?_ ?_
              · refine stepsOk_cons ?_ (stepsOk_cons ?_ (stepsOk_cons ?_ (stepsOk_cons ?_ (stepsOk_cons ?_ (stepsOk_cons ?_ (stepsOk_cons ?_ (stepsOk_cons ?_ (stepsOk_cons ?_ (stepsOk_cons ?_ (stepsOk_cons ?_ (stepsOk_cons ?_ (stepsOk_cons ?_ (stepsOk_cons ?_ (stepsOk_cons ?_ (stepsOk_cons ?_ (stepsOk_cons ?_ (stepsOk_cons ?_ (stepsOk_cons ?_ (stepsOk_cons ?_ (stepsOk_cons ?_ (stepsOk_cons ?_ (stepsOk_cons ?_ (stepsOk_cons ?_ (stepsOk_cons ?_ (stepsOk_cons ?_ (stepsOk_cons ?_ (stepsOk_cons ?_ (stepsOk_cons ?_ (stepsOk_cons ?_ (stepsOk_nil))))))))))))))))))))))))))))))
                · intro ρ w' E
                  have e5 : ρ (.tmp 5) = .slice (some ⟨bx, ox, none⟩) XL c5 := E.out 5 rfl
                  refine step_plain rfl ?_
                  exact op_move (.inl rfl) e5 ⟨Below.refl _ _, rfl⟩
                · intro ρ w' E
                  have e94 : ρ (.tmp 94) = .slice (some ⟨bx, ox, none⟩) XL c5 := E.pre 0 rfl
                  refine step_plain rfl ?_
                  refine op_val (v := .pointer (some ⟨bx, ox, none⟩)) (w' := w') ?_ ⟨Below.refl _ _, rfl⟩
                  have hcon := E.con
                  clear E
                  go_simp
                  intro hh
                  omega
                · intro ρ w' E
                  have e95 : ρ (.tmp 95) = .pointer (some ⟨bx, ox, none⟩) := E.pre 1 rfl
                  refine step_plain rfl ?_
                  refine op_val (v := .int .u8 (x0.toNat : Int)) (w' := w') ?_ ⟨Below.refl _ _, rfl⟩
                  have hk := (World.cell?_of_block (w := w10) (a := ⟨bx, ox, none⟩) (E.below.block bx hlx10)).trans y0
                  have hcon := E.con
                  clear E
                  go_simp
                · intro ρ w' E
                  have e96 : ρ (.tmp 96) = .int .u8 (x0.toNat : Int) := E.pre 2 rfl
                  refine step_plain rfl ?_
                  refine op_val (v := .int .i64 ra.kind) (w' := w') ?_ ⟨Below.refl _ _, rfl⟩
                  have h0 := Hx0.out
                  have hcon := E.con
                  clear E
                  go_simp
                  rw [IntKind.wrap_i64]
                  have := x0.isLt
                  omega
                · intro ρ w' E
                  have e2 : ρ (.tmp 2) = .pointer (some ⟨w.heap.size, 0, none⟩) := E.out 2 rfl
                  refine step_plain rfl ?_
                  refine op_val (v := .pointer (some ⟨w.heap.size, 0, none⟩)) (w' := w') ?_ ⟨Below.refl _ _, rfl⟩
                  have hcon := E.con
                  clear E
                  go_simp
                · intro ρ w' E
                  have e98 : ρ (.tmp 98) = .pointer (some ⟨w.heap.size, 0, none⟩) := E.pre 4 rfl
                  refine step_plain rfl ?_
                  refine op_val (v := .int .i64 ra.kind) (w' := w') ?_ ⟨Below.refl _ _, rfl⟩
                  obtain ⟨k0, k1, k2⟩ := (hA10.ext E.below).cells
                  have hcon := E.con
                  clear E
                  go_simp
                · intro ρ w' E
                  have e97 : ρ (.tmp 97) = .int .i64 ra.kind := E.pre 3 rfl
                  have e99 : ρ (.tmp 99) = .int .i64 ra.kind := E.pre 5 rfl
                  refine step_plain rfl ?_
                  refine op_val (v := .bool true) (w' := w') ?_ ⟨Below.refl _ _, rfl⟩
                  have hcon := E.con
                  clear E
                  go_simp
                · intro ρ w' E
                  have e100 : ρ (.tmp 100) = .bool true := E.pre 6 rfl
                  refine step_plain rfl ?_
                  exact op_move (.inl rfl) e100 ⟨Below.refl _ _, rfl⟩
                · intro ρ w' E
                  have e10 : ρ (.tmp 10) = .int .i64 ra.seq := E.out 10 rfl
                  refine step_yes rfl (E.pre 7 rfl) ?_
                  exact op_move (.inl rfl) e10 ⟨Below.refl _ _, rfl⟩
                · intro ρ w' E
                  have e2 : ρ (.tmp 2) = .pointer (some ⟨w.heap.size, 0, none⟩) := E.out 2 rfl
                  refine step_yes rfl (E.pre 7 rfl) ?_
                  refine op_val (v := .pointer (some ⟨w.heap.size, 1, none⟩)) (w' := w') ?_ ⟨Below.refl _ _, rfl⟩
                  have hcon := E.con
                  clear E
                  go_simp
                · intro ρ w' E
                  have e103 : ρ (.tmp 103) = .pointer (some ⟨w.heap.size, 1, none⟩) := E.pre 9 rfl
                  refine step_yes rfl (E.pre 7 rfl) ?_
                  refine op_val (v := .int .i64 ra.seq) (w' := w') ?_ ⟨Below.refl _ _, rfl⟩
                  obtain ⟨k0, k1, k2⟩ := (hA10.ext E.below).cells
                  have hcon := E.con
                  clear E
                  go_simp
                · intro ρ w' E
                  have e102 : ρ (.tmp 102) = .int .i64 ra.seq := E.pre 8 rfl
                  have e104 : ρ (.tmp 104) = .int .i64 ra.seq := E.pre 10 rfl
                  refine step_yes rfl (E.pre 7 rfl) ?_
                  refine op_val (v := .bool true) (w' := w') ?_ ⟨Below.refl _ _, rfl⟩
                  have hcon := E.con
                  clear E
                  go_simp
                · intro ρ w' E
                  have e101 : ρ (.tmp 101) = .bool true := E.pre 7 rfl
                  have e105 : ρ (.tmp 105) = .bool true := E.pre 11 rfl
                  refine step_plain rfl ?_
                  exact op_pick (b := true) rfl e101 rfl ⟨Below.refl _ _, e105⟩
                · intro ρ w' E
                  have e106 : ρ (.tmp 106) = .bool true := E.pre 12 rfl
                  refine step_plain rfl ?_
                  exact op_move (.inl rfl) e106 ⟨Below.refl _ _, rfl⟩
                · intro ρ w' E
                  have e5 : ρ (.tmp 5) = .slice (some ⟨bx, ox, none⟩) XL c5 := E.out 5 rfl
                  refine step_yes rfl (E.pre 13 rfl) ?_
                  exact op_move (.inl rfl) e5 ⟨Below.refl _ _, rfl⟩
                · intro ρ w' E
                  have e108 : ρ (.tmp 108) = .slice (some ⟨bx, ox, none⟩) XL c5 := E.pre 14 rfl
                  refine step_yes rfl (E.pre 13 rfl) ?_
                  refine op_val (v := .slice (some ⟨bx, ox + 9, none⟩) 4 (c5 - 9)) (w' := w') ?_ ⟨Below.refl _ _, rfl⟩
                  have hcon := E.con
                  clear E
                  go_simp
                  rw [if_pos (by omega), if_neg (by omega)]
                · intro ρ w' E
                  have e9 : ρ (.tmp 9) = .pointer (some ⟨g9, 0, none⟩) := E.out 9 rfl
                  refine step_yes rfl (E.pre 13 rfl) ?_
                  refine op_val (v := .slice (some ⟨g9, 0, none⟩) 4 4) (w' := w') ?_ ⟨Below.refl _ _, rfl⟩
                  have hcon := E.con
                  clear E
                  go_simp
                · intro ρ w' E
                  have e109 : ρ (.tmp 109) = .slice (some ⟨bx, ox + 9, none⟩) 4 (c5 - 9) := E.pre 15 rfl
                  have e110 : ρ (.tmp 110) = .slice (some ⟨g9, 0, none⟩) 4 4 := E.pre 16 rfl
                  refine step_yes rfl (E.pre 13 rfl) ?_
                  refine op_call (f := 15) (args := #[.slice (some ⟨bx, ox + 9, none⟩) 4 (c5 - 9), .slice (some ⟨g9, 0, none⟩) 4 4]) (w' := w') (by have hcon := E.con; have hfn := E.fn; clear E; go_simp) ?_
                  refine (bytes_at _ _ (crcBytesOf z) _ _ (crcBytesOf z) w' 4 4 true (hs4x.ext E.below) (hs9x.ext E.below) rfl rfl (by omega) (by omega) (by simp)).mono ?_
                  rintro e w2 ⟨rfl, n, rfl⟩
                  exact ⟨_, rfl, ext_drewN _ _ _, rfl⟩
                · intro ρ w' E
                  have e107 : ρ (.tmp 107) = .bool true := E.pre 13 rfl
                  have e111 : ρ (.tmp 111) = .bool true := E.pre 17 rfl
                  refine step_plain rfl ?_
                  exact op_pick (b := true) rfl e107 rfl ⟨Below.refl _ _, e111⟩
                · intro ρ w' E
                  have e112 : ρ (.tmp 112) = .bool true := E.pre 18 rfl
                  refine step_plain rfl ?_
                  exact op_move (.inl rfl) e112 ⟨Below.refl _ _, rfl⟩
                · intro ρ w' E
                  have e5 : ρ (.tmp 5) = .slice (some ⟨bx, ox, none⟩) XL c5 := E.out 5 rfl
                  refine step_yes rfl (E.pre 19 rfl) ?_
                  exact op_move (.inl rfl) e5 ⟨Below.refl _ _, rfl⟩
                · intro ρ w' E
                  have e114 : ρ (.tmp 114) = .slice (some ⟨bx, ox, none⟩) XL c5 := E.pre 20 rfl
                  refine step_yes rfl (E.pre 19 rfl) ?_
                  refine op_val (v := .slice (if c5 = 13 then some ⟨bx, ox, none⟩ else some ⟨bx, ox + 13, none⟩) (XL - 13) (c5 - 13)) (w' := w') ?_ ⟨Below.refl _ _, rfl⟩
                  have hcon := E.con
                  clear E
                  go_simp
                  intro hh
                  omega
                · intro ρ w' E
                  have e2 : ρ (.tmp 2) = .pointer (some ⟨w.heap.size, 0, none⟩) := E.out 2 rfl
                  refine step_yes rfl (E.pre 19 rfl) ?_
                  refine op_val (v := .pointer (some ⟨w.heap.size, 2, none⟩)) (w' := w') ?_ ⟨Below.refl _ _, rfl⟩
                  have hcon := E.con
                  clear E
                  go_simp
                · intro ρ w' E
                  have e116 : ρ (.tmp 116) = .pointer (some ⟨w.heap.size, 2, none⟩) := E.pre 22 rfl
                  refine step_yes rfl (E.pre 19 rfl) ?_
                  refine op_val (v := .slice ra.d.a ra.d.l.length ra.d.c) (w' := w') ?_ ⟨Below.refl _ _, rfl⟩
                  obtain ⟨k0, k1, k2⟩ := (hA10.ext E.below).cells
                  have hcon := E.con
                  clear E
                  go_simp
                · intro ρ w' E
                  have e115 : ρ (.tmp 115) = .slice (if c5 = 13 then some ⟨bx, ox, none⟩ else some ⟨bx, ox + 13, none⟩) (XL - 13) (c5 - 13) := E.pre 21 rfl
                  have e117 : ρ (.tmp 117) = .slice ra.d.a ra.d.l.length ra.d.c := E.pre 23 rfl
                  refine step_yes rfl (E.pre 19 rfl) ?_
                  refine op_call (f := 15) (args := #[.slice (if c5 = 13 then some ⟨bx, ox, none⟩ else some ⟨bx, ox + 13, none⟩) (XL - 13) (c5 - 13), .slice ra.d.a ra.d.l.length ra.d.c]) (w' := w') (by have hcon := E.con; have hfn := E.fn; clear E; go_simp) ?_
                  refine (bytes_at _ _ ra.d.l _ _ ra.d.l w' (XL - 13) _ true (hsdx.ext E.below) (hda10.ext E.below).1 (by have := HXn.out; omega) rfl (by omega) hda10.2 (by simp)).mono ?_
                  rintro e w2 ⟨rfl, n, rfl⟩
                  exact ⟨_, rfl, ext_drewN _ _ _, rfl⟩
                · intro ρ w' E
                  have e113 : ρ (.tmp 113) = .bool true := E.pre 19 rfl
                  have e118 : ρ (.tmp 118) = .bool true := E.pre 24 rfl
                  refine step_plain rfl ?_
                  exact op_pick (b := true) rfl e113 rfl ⟨Below.refl _ _, e118⟩
                · intro ρ w' E
                  have e119 : ρ (.tmp 119) = .bool true := E.pre 25 rfl
                  refine step_plain rfl ?_
                  exact op_move (.inl rfl) e119 ⟨Below.refl _ _, rfl⟩
                · intro ρ w' E
                  refine step_yes rfl (E.pre 26 rfl) ?_
                  refine op_call (f := 20) (args := #[]) (w' := w') (by have hcon := E.con; have hfn := E.fn; clear E; go_simp) ?_
                  refine (wakes06_any w').mono ?_
                  rintro e w2 ⟨rfl, hb⟩
                  exact ⟨_, rfl, hb, rfl⟩
                · intro ρ w' E
                  have e120 : ρ (.tmp 120) = .bool true := E.pre 26 rfl
                  have e121 : ρ (.tmp 121) = .bool true := E.pre 27 rfl
                  refine step_plain rfl ?_
                  exact op_pick (b := true) rfl e120 rfl ⟨Below.refl _ _, e121⟩
                · intro ρ w' E
                  have e122 : ρ (.tmp 122) = .bool true := E.pre 28 rfl
                  refine step_plain rfl ?_
                  exact op_move (.inr rfl) e122 ⟨Below.refl _ _, rfl⟩
              · intro σ3 w11 hb1011 hall
                have h4 : σ3 4 = .bool true := by obtain ⟨_, _, _, _, _, _, _, _, _, _, _, _, _, _, _, _, _, _, _, _, _, _, _, _, _, _, _, _, _, h, _⟩ := hall; exact h
                clear hall
                simp only [upd, updL, dstsOf', elemB, List.filterMap_cons, List.filterMap_nil, Nat.reduceAdd, Nat.reduceBEq, Bool.or_false, Bool.false_or, Bool.or_true, Bool.true_or, cond_true, cond_false, Nat.zero_add, h4]
                have hbF := bthen hb10 hb1011 (Nat.le_refl _)
                go_wp2
                go_ret
                exact ⟨rfl, hbF⟩
      · have hYL0 := HYLn.out hG0
        have t1 : ((G : Int) != 0) = true := by simpa using hG0
        have t2 : (((YL : Nat) : Int) == 0) = true := by rw [hYL0]; rfl
        have t3 : ((G : Int) == 0) = false := by simpa using hG0
        subst hE0
        clear hG0 hYL0
        go_wp2_with fail
        refine (wakes06_any _).mono ?_
        rintro e w11 ⟨rfl, hb11⟩
        go_wp2
        go_ret
        exact ⟨rfl, bthen hb06 hb11 (Nat.le_refl _)⟩
    · have hXL0 := HXLn.out hE0
      have t1 : ((E : Int) != 0) = true := by simpa using hE0
      have t2 : (((XL : Nat) : Int) == 0) = true := by rw [hXL0]; rfl
      have t3 : ((E : Int) == 0) = false := by simpa using hE0
      by_cases hG0 : G = 0
      · subst hG0
        clear hE0 hXL0
        go_wp2_with fail
        refine (wakes06_any _).mono ?_
        rintro e w11 ⟨rfl, hb11⟩
        go_wp2
        go_ret
        exact ⟨rfl, bthen hb06 hb11 (Nat.le_refl _)⟩
      · have hYL0 := HYLn.out hG0
        have t4 : (((YL : Nat) : Int) == 0) = true := by rw [hYL0]; rfl
        have t5 : ((G : Int) == 0) = false := by simpa using hG0
        clear hE0 hXL0 hG0 hYL0
        go_wp2_with fail
        refine (wakes06_any _).mono ?_
        rintro e w11 ⟨rfl, hb11⟩
        go_wp2
        go_ret
        exact ⟨rfl, bthen hb06 hb11 (Nat.le_refl _)⟩
end Go.Proofs.Ytffcpjhokfjhfaa
