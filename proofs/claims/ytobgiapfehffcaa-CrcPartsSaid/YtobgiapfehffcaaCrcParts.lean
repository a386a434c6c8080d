/- The law CrcParts, walked. -/
import Derived.Test.YtobgiapfehffcaaCrcBytes
namespace Go.Proofs.Ytobgiapfehffcaa
open Go.RowKit

set_option maxRecDepth 100000 in
set_option maxHeartbeats 1000000 in
theorem crcParts_walk (w : World) (a : Option Addr) (c : Nat) (ps : List Bsl) (hm : Mat w a ps) (hn : ps.length ≤ 9223372036854775807) (cut : Int) (hcut : (Lit.int .i64 cut).wf = true) :
    Calls Try.prog 6 #[.slice a ps.length c, .int .i64 cut] w fun e w' => e = .returned (.bool true) ∧ Below w.heap.size w w' := by
  cases hh : heavyB ps with
  | true =>
    have Hh := Lib.hid hh
    clear hh
    go_enter Try.func6, Try.ntmps6
    go_wp2_with fail
    refine (heavy_any a c ps w hm hn).mono ?_
    rintro e w' ⟨rfl, rfl⟩
    rw [Hh.out]
    go_wp2
    go_ret
    exact ⟨rfl, Below.refl _ _⟩
  | false =>
    obtain ⟨hl20, hl300⟩ := heavyB_no hh
    have Hh := Lib.hid hh
    clear hh
    have hfl : (flat ps).length ≤ 6000 := by
      have := flat_le ps ps.length hl300
      rw [List.take_length] at this
      omega
    go_enter Try.func6, Try.ntmps6
    go_wp2_with fail
    refine (heavy_any a c ps w hm hn).mono ?_
    rintro e w' ⟨rfl, rfl⟩
    rw [Hh.out]
    go_wp2_with fail
    refine (flat_any a c ps w hm hl20 hl300).mono ?_
    rintro e w1 ⟨a1, c1, rfl, hown1, hb1⟩
    have hm1 := hm.ext hb1
    go_wp2_with fail
    obtain ⟨k, hk, ek⟩ := umod cut ((flat ps).length + 1) (by omega) (by omega)
    rw [ek]
    clear ek hcut
    refine (sum_any a c ps w1 hm1 hn).mono ?_
    rintro e w2 ⟨rfl, hb2⟩
    have hs1 := hown1.src
    have hs2 := hs1.ext hb2
    have hlc := hown1.len
    have hb12 := bthen hb1 hb2 (Nat.le_refl _)
    generalize hF : flat ps = l at *
    generalize hz : crc l = z
    have Hz := Lib.hid hz
    clear hz hF hown1 hm hm1 hl300
    go_wp2_with fail
    refine (crcbytes_at _ _ [⟨a1, c1, l⟩] _ 1 z (mat_one (w := w2) rfl ⟨hs2, by simp; omega⟩ rfl rfl rfl) rfl (by omega) (by rw [← Hz.out]; simp [flat])).mono ?_
    rintro e w3 ⟨rfl, hb3⟩
    have hb23 := bthen (ext_alloc w2 _) hb3 (by simp)
    have hs3 := hs2.ext hb23
    have hb13 := bthen hb12 hb23 (Nat.le_refl _)
    clear hb1 hb2 hb3 hb12 hs1 hb23 hs2
    have hb34 := bsetRow (ext_alloc w3 (.cells #[.int .u8 0, .int .u8 0, .int .u8 0, .int .u8 0] 35)) (Nat.le_refl _) (bvs (crcBytesOf z)).toArray
    have hrow := setRow_heap (w3.alloc (.cells #[.int .u8 0, .int .u8 0, .int .u8 0, .int .u8 0] 35)) w3.heap.size _ (bvs (crcBytesOf z)).toArray _ _ (heap_alloc_new w3 _)
    go_wp2_with (refine wpList_store_row rfl rfl 35 (.tmp 8) (.tmp 25) rfl w3.heap.size rfl 35 #[.int .u8 0, .int .u8 0, .int .u8 0, .int .u8 0] (bvs (crcBytesOf z)).toArray rfl (heap_alloc_new w3 _) rfl (by kernel_rfl) (by simpa using bvs_one (crcBytesOf z)) ?_)
    have hs4 := hs3.ext hb34
    have hb14 := bthen hb13 hb34 (Nat.le_refl _)
    have hs4t : Src _ (some ⟨w3.heap.size, 0, none⟩) (bvs (crcBytesOf z)) := Or.inr ⟨_, 0, _, _, _, rfl, hrow, by simp [bvs, crcBytesOf]⟩
    clear hb34 hrow hs3 hb13
    generalize World.setRow _ _ _ = w4 at hs4 hs4t hb14 ⊢
    generalize w3.heap.size = B at hs4t ⊢
    have hk1 : k ≤ l.length := by omega
    have hk2 : k ≤ c1 := by omega
    refine wp_region_sp (by kernel_rfl) [Sp.eq (.int .u32 (z.toNat : Int)), Sp.eq (.slice a1 l.length c1), ⟨fun w v => ∃ Bx, v = .slice (some ⟨Bx, 0, none⟩) 1 1 ∧ Mat w (some ⟨Bx, 0, none⟩) [⟨a1, c1, l⟩], fun _ _ _ ⟨B, h, hm⟩ hb => ⟨B, h, hm.ext hb⟩⟩, Sp.eq (.int .u32 ((z : BitVec 32).toNat : Int)), Sp.eq (.bool true), Sp.eq (.bool true), Sp.eq (.int .u32 (z.toNat : Int)), Sp.eq (.slice a1 l.length c1), Sp.eq (.int .i64 (k : Int)), Sp.eq (.slice a1 k c1), Sp.eq (.slice a1 l.length c1), Sp.eq (.int .i64 (k : Int)), Sp.eq (.slice (if c1 = k then a1 else Option.map (fun x => x.add k) a1) (l.length - k) (c1 - k)), ⟨fun w v => ∃ Bx, v = .slice (some ⟨Bx, 0, none⟩) 3 3 ∧ Mat w (some ⟨Bx, 0, none⟩) [⟨a1, c1, l.take k⟩, ⟨none, 0, []⟩, ⟨if c1 = k then a1 else Option.map (fun x => x.add k) a1, c1 - k, l.drop k⟩], fun _ _ _ ⟨B, h, hm⟩ hb => ⟨B, h, hm.ext hb⟩⟩, Sp.eq (.int .u32 ((z : BitVec 32).toNat : Int)), Sp.eq (.bool true), Sp.eq (.bool true), Sp.eq (.bool true), Sp.eq (.slice a1 l.length c1), Sp.eq (.slice (some ⟨B, 0, none⟩) 4 4), ⟨fun w v => ∃ Bx, v = .slice (some ⟨Bx, 0, none⟩) 2 2 ∧ Mat w (some ⟨Bx, 0, none⟩) [⟨a1, c1, l⟩, ⟨some ⟨B, 0, none⟩, 4, crcBytesOf z⟩], fun _ _ _ ⟨B, h, hm⟩ hb => ⟨B, h, hm.ext hb⟩⟩, Sp.eq (.int .u32 ((558161692#32 : BitVec 32).toNat : Int)), Sp.eq (.bool true), Sp.eq (.bool true), Sp.eq (.bool true), Sp.eq (.bool true), Sp.eq (.bool true), Sp.eq (.bool true)] (by kernel_rfl) ?_ ?_
    · refine stepsOk_cons ?_ (stepsOk_cons ?_ (stepsOk_cons ?_ (stepsOk_cons ?_ (stepsOk_cons ?_ (stepsOk_cons ?_ (stepsOk_cons ?_ (stepsOk_cons ?_ (stepsOk_cons ?_ (stepsOk_cons ?_ (stepsOk_cons ?_ (stepsOk_cons ?_ (stepsOk_cons ?_ (stepsOk_cons ?_ (stepsOk_cons ?_ (stepsOk_cons ?_ (stepsOk_cons ?_ (stepsOk_cons ?_ (stepsOk_cons ?_ (stepsOk_cons ?_ (stepsOk_cons ?_ (stepsOk_cons ?_ (stepsOk_cons ?_ (stepsOk_cons ?_ (stepsOk_cons ?_ (stepsOk_cons ?_ (stepsOk_cons ?_ (stepsOk_cons ?_ (stepsOk_nil))))))))))))))))))))))))))))
      · intro ρ w' E
        have e7 : ρ (.tmp 7) = .int .u32 (z.toNat : Int) := E.out 7 rfl
        refine step_plain rfl ?_
        exact op_move (.inl rfl) e7 ⟨Below.refl _ _, rfl⟩
      · intro ρ w' E
        have e5 : ρ (.tmp 5) = .slice a1 l.length c1 := E.out 5 rfl
        refine step_plain rfl ?_
        exact op_move (.inl rfl) e5 ⟨Below.refl _ _, rfl⟩
      · intro ρ w' E
        have e27 : ρ (.tmp 27) = .slice a1 l.length c1 := E.pre 1 rfl
        refine step_plain rfl ?_
        have hs := hs4.ext E.below
        have ht := hs4t.ext E.below
        
        refine op_val (v := .slice (some ⟨w'.heap.size, 0, none⟩) 1 1) (w' := w'.alloc (.cells (([⟨a1, c1, l⟩] : List Bsl).map Bsl.val).toArray 22)) (by have hcon := E.con; clear E; go_simp; try rfl) ⟨ext_alloc _ _, _, rfl, mat_new w' _ _ ?_⟩
        intro q hq
        simp only [List.mem_cons, List.not_mem_nil, or_false] at hq
        subst hq; exact ⟨hs, by simp; omega⟩
      · intro ρ w' E
        have p28 : (fun w v => ∃ Bx, v = .slice (some ⟨Bx, 0, none⟩) 1 1 ∧ Mat w (some ⟨Bx, 0, none⟩) [⟨a1, c1, l⟩]) w' (ρ (.tmp 28)) := E.pre 2 rfl
        refine step_plain rfl ?_
        refine op_call (f := 15) (args := #[ρ (.tmp 28)]) (w' := w') (by have hcon := E.con; have hfn := E.fn; clear E; go_simp) ?_
        obtain ⟨B', e1, hmat⟩ := p28
        rw [e1]
        refine (sum_at _ _ _ _ 1 z hmat rfl (by omega) (by rw [← Hz.out]; simp [flat])).mono ?_
        rintro e w2 ⟨rfl, hb⟩
        exact ⟨_, rfl, hb, rfl⟩
      · intro ρ w' E
        have e26 : ρ (.tmp 26) = .int .u32 (z.toNat : Int) := E.pre 0 rfl
        have e29 : ρ (.tmp 29) = .int .u32 ((z : BitVec 32).toNat : Int) := E.pre 3 rfl
        refine step_plain rfl ?_
        refine op_val (v := .bool true) (w' := w') ?_ ⟨Below.refl _ _, rfl⟩
        have hcon := E.con
        clear E
        go_simp
      · intro ρ w' E
        have e30 : ρ (.tmp 30) = .bool true := E.pre 4 rfl
        refine step_plain rfl ?_
        exact op_move (.inl rfl) e30 ⟨Below.refl _ _, rfl⟩
      · intro ρ w' E
        have e7 : ρ (.tmp 7) = .int .u32 (z.toNat : Int) := E.out 7 rfl
        refine step_yes rfl (E.pre 5 rfl) ?_
        exact op_move (.inl rfl) e7 ⟨Below.refl _ _, rfl⟩
      · intro ρ w' E
        have e5 : ρ (.tmp 5) = .slice a1 l.length c1 := E.out 5 rfl
        refine step_yes rfl (E.pre 5 rfl) ?_
        exact op_move (.inl rfl) e5 ⟨Below.refl _ _, rfl⟩
      · intro ρ w' E
        have e6 : ρ (.tmp 6) = .int .i64 (k : Int) := E.out 6 rfl
        refine step_yes rfl (E.pre 5 rfl) ?_
        exact op_move (.inl rfl) e6 ⟨Below.refl _ _, rfl⟩
      · intro ρ w' E
        have e33 : ρ (.tmp 33) = .slice a1 l.length c1 := E.pre 7 rfl
        have e34 : ρ (.tmp 34) = .int .i64 (k : Int) := E.pre 8 rfl
        refine step_yes rfl (E.pre 5 rfl) ?_
        refine op_val (v := .slice a1 k c1) (w' := w') ?_ ⟨Below.refl _ _, rfl⟩
        have hcon := E.con
        clear E
        go_simp
      · intro ρ w' E
        have e5 : ρ (.tmp 5) = .slice a1 l.length c1 := E.out 5 rfl
        refine step_yes rfl (E.pre 5 rfl) ?_
        exact op_move (.inl rfl) e5 ⟨Below.refl _ _, rfl⟩
      · intro ρ w' E
        have e6 : ρ (.tmp 6) = .int .i64 (k : Int) := E.out 6 rfl
        refine step_yes rfl (E.pre 5 rfl) ?_
        exact op_move (.inl rfl) e6 ⟨Below.refl _ _, rfl⟩
      · intro ρ w' E
        have e36 : ρ (.tmp 36) = .slice a1 l.length c1 := E.pre 10 rfl
        have e37 : ρ (.tmp 37) = .int .i64 (k : Int) := E.pre 11 rfl
        refine step_yes rfl (E.pre 5 rfl) ?_
        refine op_val (v := .slice (if c1 = k then a1 else Option.map (fun x => x.add k) a1) (l.length - k) (c1 - k)) (w' := w') ?_ ⟨Below.refl _ _, rfl⟩
        have hcon := E.con
        clear E
        go_simp
      · intro ρ w' E
        have e35 : ρ (.tmp 35) = .slice a1 k c1 := E.pre 9 rfl
        have e38 : ρ (.tmp 38) = .slice (if c1 = k then a1 else Option.map (fun x => x.add k) a1) (l.length - k) (c1 - k) := E.pre 12 rfl
        refine step_yes rfl (E.pre 5 rfl) ?_
        have hs := hs4.ext E.below
        have ht := hs4t.ext E.below
        refine op_val (v := .slice (some ⟨w'.heap.size, 0, none⟩) 3 3) (w' := w'.alloc (.cells #[.slice a1 k c1, .slice none 0 0, .slice (if c1 = k then a1 else Option.map (fun x => x.add k) a1) (l.length - k) (c1 - k)] 22)) (by have hcon := E.con; clear E; go_simp; try rfl) ⟨ext_alloc _ _, _, rfl, mat_new' rfl (by simp [Bsl.val, Nat.min_eq_left hk1]) ?_⟩
        intro q hq
        simp only [List.mem_cons, List.not_mem_nil, or_false] at hq
        rcases hq with rfl | rfl | rfl
        · exact ⟨by rw [bvs_take]; exact hs.take k, by simp; omega⟩
        · exact ⟨Src.nil _ _, by simp⟩
        · exact ⟨by rw [bvs_drop]; exact src_drop hs c1 k (by simpa using hlc.1), by simp; omega⟩
      · intro ρ w' E
        have p39 : (fun w v => ∃ Bx, v = .slice (some ⟨Bx, 0, none⟩) 3 3 ∧ Mat w (some ⟨Bx, 0, none⟩) [⟨a1, c1, l.take k⟩, ⟨none, 0, []⟩, ⟨if c1 = k then a1 else Option.map (fun x => x.add k) a1, c1 - k, l.drop k⟩]) w' (ρ (.tmp 39)) := E.pre 13 rfl
        refine step_yes rfl (E.pre 5 rfl) ?_
        refine op_call (f := 15) (args := #[ρ (.tmp 39)]) (w' := w') (by have hcon := E.con; have hfn := E.fn; clear E; go_simp) ?_
        obtain ⟨B', e1, hmat⟩ := p39
        rw [e1]
        refine (sum_at _ _ _ _ 3 z hmat rfl (by omega) (by rw [← Hz.out]; simp [flat])).mono ?_
        rintro e w2 ⟨rfl, hb⟩
        exact ⟨_, rfl, hb, rfl⟩
      · intro ρ w' E
        have e32 : ρ (.tmp 32) = .int .u32 (z.toNat : Int) := E.pre 6 rfl
        have e40 : ρ (.tmp 40) = .int .u32 ((z : BitVec 32).toNat : Int) := E.pre 14 rfl
        refine step_yes rfl (E.pre 5 rfl) ?_
        refine op_val (v := .bool true) (w' := w') ?_ ⟨Below.refl _ _, rfl⟩
        have hcon := E.con
        clear E
        go_simp
      · intro ρ w' E
        have e31 : ρ (.tmp 31) = .bool true := E.pre 5 rfl
        have e41 : ρ (.tmp 41) = .bool true := E.pre 15 rfl
        refine step_plain rfl ?_
        exact op_pick (b := true) rfl e31 rfl ⟨Below.refl _ _, e41⟩
      · intro ρ w' E
        have e42 : ρ (.tmp 42) = .bool true := E.pre 16 rfl
        refine step_plain rfl ?_
        exact op_move (.inl rfl) e42 ⟨Below.refl _ _, rfl⟩
      · intro ρ w' E
        have e5 : ρ (.tmp 5) = .slice a1 l.length c1 := E.out 5 rfl
        refine step_yes rfl (E.pre 17 rfl) ?_
        exact op_move (.inl rfl) e5 ⟨Below.refl _ _, rfl⟩
      · intro ρ w' E
        have e8 : ρ (.tmp 8) = .pointer (some ⟨B, 0, none⟩) := E.out 8 rfl
        refine step_yes rfl (E.pre 17 rfl) ?_
        refine op_val (v := .slice (some ⟨B, 0, none⟩) 4 4) (w' := w') ?_ ⟨Below.refl _ _, rfl⟩
        have hcon := E.con
        clear E
        go_simp
      · intro ρ w' E
        have e44 : ρ (.tmp 44) = .slice a1 l.length c1 := E.pre 18 rfl
        have e45 : ρ (.tmp 45) = .slice (some ⟨B, 0, none⟩) 4 4 := E.pre 19 rfl
        refine step_yes rfl (E.pre 17 rfl) ?_
        have hs := hs4.ext E.below
        have ht := hs4t.ext E.below
        
        refine op_val (v := .slice (some ⟨w'.heap.size, 0, none⟩) 2 2) (w' := w'.alloc (.cells (([⟨a1, c1, l⟩, ⟨some ⟨B, 0, none⟩, 4, crcBytesOf z⟩] : List Bsl).map Bsl.val).toArray 22)) (by have hcon := E.con; clear E; go_simp; try rfl) ⟨ext_alloc _ _, _, rfl, mat_new w' _ _ ?_⟩
        intro q hq
        simp only [List.mem_cons, List.not_mem_nil, or_false] at hq
        rcases hq with rfl | rfl
        · exact ⟨hs, by simp; omega⟩
        · exact ⟨ht, by simp [crcBytesOf]⟩
      · intro ρ w' E
        have p46 : (fun w v => ∃ Bx, v = .slice (some ⟨Bx, 0, none⟩) 2 2 ∧ Mat w (some ⟨Bx, 0, none⟩) [⟨a1, c1, l⟩, ⟨some ⟨B, 0, none⟩, 4, crcBytesOf z⟩]) w' (ρ (.tmp 46)) := E.pre 20 rfl
        refine step_yes rfl (E.pre 17 rfl) ?_
        refine op_call (f := 15) (args := #[ρ (.tmp 46)]) (w' := w') (by have hcon := E.con; have hfn := E.fn; clear E; go_simp) ?_
        obtain ⟨B', e1, hmat⟩ := p46
        rw [e1]
        refine (sum_at _ _ _ _ 2 558161692#32 hmat rfl (by omega) (by rw [← Hz.out]; simpa [flat] using crc_residue l)).mono ?_
        rintro e w2 ⟨rfl, hb⟩
        exact ⟨_, rfl, hb, rfl⟩
      · intro ρ w' E
        have e47 : ρ (.tmp 47) = .int .u32 ((558161692#32 : BitVec 32).toNat : Int) := E.pre 21 rfl
        refine step_yes rfl (E.pre 17 rfl) ?_
        refine op_val (v := .bool true) (w' := w') ?_ ⟨Below.refl _ _, rfl⟩
        have hcon := E.con
        clear E
        go_simp
      · intro ρ w' E
        have e43 : ρ (.tmp 43) = .bool true := E.pre 17 rfl
        have e48 : ρ (.tmp 48) = .bool true := E.pre 22 rfl
        refine step_plain rfl ?_
        exact op_pick (b := true) rfl e43 rfl ⟨Below.refl _ _, e48⟩
      · intro ρ w' E
        have e49 : ρ (.tmp 49) = .bool true := E.pre 23 rfl
        refine step_plain rfl ?_
        exact op_move (.inl rfl) e49 ⟨Below.refl _ _, rfl⟩
      · intro ρ w' E
        refine step_yes rfl (E.pre 24 rfl) ?_
        refine op_call (f := 17) (args := #[]) (w' := w') (by have hcon := E.con; have hfn := E.fn; clear E; go_simp) ?_
        refine (wakes_any w').mono ?_
        rintro e w2 ⟨rfl, hb⟩
        exact ⟨_, rfl, hb, rfl⟩
      · intro ρ w' E
        have e50 : ρ (.tmp 50) = .bool true := E.pre 24 rfl
        have e51 : ρ (.tmp 51) = .bool true := E.pre 25 rfl
        refine step_plain rfl ?_
        exact op_pick (b := true) rfl e50 rfl ⟨Below.refl _ _, e51⟩
      · intro ρ w' E
        have e52 : ρ (.tmp 52) = .bool true := E.pre 26 rfl
        refine step_plain rfl ?_
        exact op_move (.inr rfl) e52 ⟨Below.refl _ _, rfl⟩
    · intro σ w5 hb5 hall
      have h4 : σ 4 = .bool true := by obtain ⟨_, _, _, _, _, _, _, _, _, _, _, _, _, _, _, _, _, _, _, _, _, _, _, _, _, _, _, h, _⟩ := hall; exact h
      have hb15 := bthen hb14 hb5 (Nat.le_refl _)
      clear hall
      generalize hact : upd _ _ σ = act
      have hr : act.tmps.getD 4 undef = .bool true := by rw [← hact]; exact h4
      have hd : act.defers = [] := by rw [← hact]; rfl
      go_wp2
      exact bodyPost_ret (results_tmp rfl _ _ _) hd ⟨by rw [hr], hb15⟩
end Go.Proofs.Ytobgiapfehffcaa
