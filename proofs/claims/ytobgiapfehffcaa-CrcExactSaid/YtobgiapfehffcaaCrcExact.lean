/- The law CrcExact, walked. -/
import Derived.Test.YtobgiapfehffcaaCrcBytes
import Derived.Test.YtobgiapfehffcaaTwinRows
namespace Go.Proofs.Ytobgiapfehffcaa
open Go.RowKit

theorem mat_of_own {w : World} {base : Nat} {e e2 : TypeId} {a : Option Addr} {n c : Nat} {qs : List Bsl} (h : Own w base e 1 a n c (qs.map Bsl.val)) (hq : ∀ q ∈ qs, Own w base e2 1 q.a q.l.length q.c (bvs q.l)) : Mat w a qs :=
  ⟨h.src, fun q hqq => ⟨(hq q hqq).src, by have := (hq q hqq).len; simp only [maxLen] at this; omega⟩⟩

set_option maxRecDepth 100000 in
set_option maxHeartbeats 1000000 in
theorem crcExact_walk (w : World) (a : Option Addr) (c : Nat) (ps : List Bsl) (hm : Mat w a ps) (hn : ps.length ≤ 9223372036854775807) :
    Calls Try.prog 5 #[.slice a ps.length c] w fun e w' => e = .returned (.bool true) ∧ Below w.heap.size w w' := by
  cases hh : heavyB ps with
  | true =>
    have Hh := Lib.hid hh
    clear hh
    go_enter Try.func5, Try.ntmps5
    go_wp2_with fail
    refine (heavy_any a c ps w hm hn).mono ?_
    rintro e w' ⟨rfl, rfl⟩
    rw [Hh.out]
    go_wp2
    go_ret
    exact ⟨rfl, Below.refl _ _⟩
  | false =>
    obtain ⟨hl20, hl300⟩ := heavyB_no hh
    have Hh := Lib.hid hh
    clear hh
    have hfl : (flat ps).length ≤ 6000 := by
      have := flat_le ps ps.length hl300
      rw [List.take_length] at this
      omega
    go_enter Try.func5, Try.ntmps5
    go_wp2_with fail
    refine (heavy_any a c ps w hm hn).mono ?_
    rintro e w' ⟨rfl, rfl⟩
    rw [Hh.out]
    go_wp2_with fail
    refine (twinrows_any a c ps w hm (by omega) (fun p hp => by have := hl300 p hp; omega)).mono ?_
    rintro e w1 ⟨a2, c2, qs, rfl, hql, ho1, hq1, hb1⟩
    have hq := mat_of_own ho1 hq1
    have hm1 := hm.ext hb1
    have hql := Lib.hid hql
    go_wp2_with fail
    refine (flat_any a c ps w1 hm1 hl20 hl300).mono ?_
    rintro e w2 ⟨a1, c1, rfl, hown1, hb2⟩
    have hs := hown1.src
    have hm2 := hm1.ext hb2
    have hq2 := hq.ext hb2
    have hb12 := bthen hb1 hb2 (Nat.le_refl _)
    clear hm hm1 hq ho1 hq1 hown1 hb1 hb2
    have hlen : qs.length = ps.length := by rw [← List.length_map (f := Bsl.l), hql.out, List.length_map]
    have Hlen := Lib.hid hlen
    clear hlen
    go_wp2_with fail
    refine (sum_at a2 c2 qs w2 _ (crc (flat ps)) hq2 Hlen.out.symm (by omega) (by rw [flat, hql.out]; rfl)).mono ?_
    rintro e w3 ⟨rfl, hb3⟩
    have hq3 := hq2.ext hb3
    go_wp2_with fail
    refine (crcbytes_at a2 c2 qs w3 _ (crc (flat ps)) hq3 Hlen.out.symm (by omega) (by rw [flat, hql.out]; rfl)).mono ?_
    rintro e w4 ⟨rfl, hb4⟩
    have hq4 := hq3.ext hb4
    have hb34 := bthen hb3 hb4 (Nat.le_refl _)
    have hm4 := hm2.ext hb34
    have hs4 := hs.ext hb34
    have hb14 := bthen hb12 hb34 (Nat.le_refl _)
    clear hq2 hq3 hm2 hs hb3 hb4 hb34 hb12
    generalize hF : flat ps = l at *
    generalize hz : crc l = z
    have Hz := Lib.hid hz
    clear hz hF
    have hb5 := bsetRow (ext_alloc w4 (.cells #[.int .u8 0, .int .u8 0, .int .u8 0, .int .u8 0] 35)) (Nat.le_refl _) (bvs (crcBytesOf z)).toArray
    have hrow := setRow_heap (w4.alloc (.cells #[.int .u8 0, .int .u8 0, .int .u8 0, .int .u8 0] 35)) w4.heap.size _ (bvs (crcBytesOf z)).toArray _ _ (heap_alloc_new w4 _)
    go_wp2_with (refine wpList_store_row rfl rfl 35 (.tmp 6) (.tmp 16) rfl w4.heap.size rfl 35 #[.int .u8 0, .int .u8 0, .int .u8 0, .int .u8 0] (bvs (crcBytesOf z)).toArray rfl (heap_alloc_new w4 _) rfl (by kernel_rfl) (by simpa using bvs_one (crcBytesOf z)) ?_)
    have hs := hs4.ext hb5
    have hm := hm4.ext hb5
    have hq := hq4.ext hb5
    have hb15 := bthen hb14 hb5 (Nat.le_refl _)
    have ht : Src _ (some ⟨w4.heap.size, 0, none⟩) (bvs (crcBytesOf z)) := Or.inr ⟨_, 0, _, _, _, rfl, hrow, by simp [bvs, crcBytesOf]⟩
    clear hb5 hrow hs4 hm4 hq4 hb14
    generalize World.setRow _ _ _ = w5 at *
    generalize w4.heap.size = B at *
    refine wp_region_sp (by kernel_rfl) [Sp.eq (.int .u32 (z.toNat : Int)), Sp.eq (.slice a1 l.length c1), Sp.eq (.int .u32 (z.toNat : Int)), Sp.eq (.bool true), Sp.eq (.bool true), Sp.eq (.slice (some ⟨B, 0, none⟩) 4 4), Sp.eq (.slice a1 l.length c1), ⟨fun w v => ∃ ax, v = .slice ax 4 4 ∧ Src w ax (bvs (crcBytesOf z)), fun _ _ _ ⟨ax, h, hs⟩ hb => ⟨ax, h, hs.ext hb⟩⟩, Sp.eq (.bool true), Sp.eq (.bool true), Sp.eq (.bool true), Sp.eq (.slice a2 ps.length c2), Sp.eq (.slice a ps.length c), Sp.eq (.bool true), Sp.eq (.bool true), Sp.eq (.bool true), Sp.eq (.bool true), Sp.eq (.bool true), Sp.eq (.bool true)] (by kernel_rfl) ?_ ?_
    · refine stepsOk_cons ?_ (stepsOk_cons ?_ (stepsOk_cons ?_ (stepsOk_cons ?_ (stepsOk_cons ?_ (stepsOk_cons ?_ (stepsOk_cons ?_ (stepsOk_cons ?_ (stepsOk_cons ?_ (stepsOk_cons ?_ (stepsOk_cons ?_ (stepsOk_cons ?_ (stepsOk_cons ?_ (stepsOk_cons ?_ (stepsOk_cons ?_ (stepsOk_cons ?_ (stepsOk_cons ?_ (stepsOk_cons ?_ (stepsOk_cons ?_ (stepsOk_nil)))))))))))))))))))
      · intro ρ w' E
        have e5 : ρ (.tmp 5) = .int .u32 (z.toNat : Int) := E.out 5 rfl
        refine step_plain rfl ?_
        exact op_move (.inl rfl) e5 ⟨Below.refl _ _, rfl⟩
      · intro ρ w' E
        have e4 : ρ (.tmp 4) = .slice a1 l.length c1 := E.out 4 rfl
        refine step_plain rfl ?_
        exact op_move (.inl rfl) e4 ⟨Below.refl _ _, rfl⟩
      · intro ρ w' E
        have e18 : ρ (.tmp 18) = .slice a1 l.length c1 := E.pre 1 rfl
        refine step_plain rfl ?_
        refine op_call (f := 22) (args := #[.slice a1 l.length c1]) (w' := w') (by have hcon := E.con; have hfn := E.fn; clear E; go_simp) ?_
        refine (refcrc_any a1 c1 l w' (hs.ext E.below) (by omega)).mono ?_
        rintro e w2 ⟨rfl, rfl⟩
        exact ⟨_, rfl, Below.refl _ _, by rw [Hz.out]; rfl⟩
      · intro ρ w' E
        have e17 : ρ (.tmp 17) = .int .u32 (z.toNat : Int) := E.pre 0 rfl
        have e19 : ρ (.tmp 19) = .int .u32 (z.toNat : Int) := E.pre 2 rfl
        refine step_plain rfl ?_
        refine op_val (v := .bool true) (w' := w') ?_ ⟨Below.refl _ _, rfl⟩
        have hcon := E.con
        clear E
        go_simp
      · intro ρ w' E
        have e20 : ρ (.tmp 20) = .bool true := E.pre 3 rfl
        refine step_plain rfl ?_
        exact op_move (.inl rfl) e20 ⟨Below.refl _ _, rfl⟩
      · intro ρ w' E
        have e6 : ρ (.tmp 6) = .pointer (some ⟨B, 0, none⟩) := E.out 6 rfl
        refine step_yes rfl (E.pre 4 rfl) ?_
        refine op_val (v := .slice (some ⟨B, 0, none⟩) 4 4) (w' := w') ?_ ⟨Below.refl _ _, rfl⟩
        have hcon := E.con
        clear E
        go_simp
      · intro ρ w' E
        have e4 : ρ (.tmp 4) = .slice a1 l.length c1 := E.out 4 rfl
        refine step_yes rfl (E.pre 4 rfl) ?_
        exact op_move (.inl rfl) e4 ⟨Below.refl _ _, rfl⟩
      · intro ρ w' E
        have e23 : ρ (.tmp 23) = .slice a1 l.length c1 := E.pre 6 rfl
        refine step_yes rfl (E.pre 4 rfl) ?_
        refine op_call (f := 23) (args := #[.slice a1 l.length c1]) (w' := w') (by have hcon := E.con; have hfn := E.fn; clear E; go_simp) ?_
        refine (refsum_any a1 c1 l w' (hs.ext E.below) (by omega)).mono ?_
        rintro e w2 ⟨ax, rfl, ho, hb⟩
        exact ⟨_, rfl, hb, ax, rfl, by rw [Hz.out] at ho; exact ho.src⟩
      · intro ρ w' E
        have e22 : ρ (.tmp 22) = .slice (some ⟨B, 0, none⟩) 4 4 := E.pre 5 rfl
        have p24 : (fun w v => ∃ ax, v = .slice ax 4 4 ∧ Src w ax (bvs (crcBytesOf z))) w' (ρ (.tmp 24)) := E.pre 7 rfl
        refine step_yes rfl (E.pre 4 rfl) ?_
        refine op_call (f := 16) (args := #[.slice (some ⟨B, 0, none⟩) 4 4, ρ (.tmp 24)]) (w' := w') (by have hcon := E.con; have hfn := E.fn; clear E; go_simp) ?_
        obtain ⟨ax, e1, hs2⟩ := p24
        rw [e1]
        refine (bytes_any (some ⟨B, 0, none⟩) 4 (crcBytesOf z) ax 4 (crcBytesOf z) w' (ht.ext E.below) hs2 (by simp [crcBytesOf]) (by simp [crcBytesOf])).mono ?_
        rintro e w2 ⟨rfl, n, rfl⟩
        exact ⟨_, rfl, ext_drewN _ _ _, by simp [spAt, Sp.eq]⟩
      · intro ρ w' E
        have e21 : ρ (.tmp 21) = .bool true := E.pre 4 rfl
        have e25 : ρ (.tmp 25) = .bool true := E.pre 8 rfl
        refine step_plain rfl ?_
        exact op_pick (b := true) rfl e21 rfl ⟨Below.refl _ _, e25⟩
      · intro ρ w' E
        have e26 : ρ (.tmp 26) = .bool true := E.pre 9 rfl
        refine step_plain rfl ?_
        exact op_move (.inl rfl) e26 ⟨Below.refl _ _, rfl⟩
      · intro ρ w' E
        have e3 : ρ (.tmp 3) = .slice a2 ps.length c2 := E.out 3 rfl
        refine step_yes rfl (E.pre 10 rfl) ?_
        exact op_move (.inl rfl) e3 ⟨Below.refl _ _, rfl⟩
      · intro ρ w' E
        have e0 : ρ (.tmp 0) = .slice a ps.length c := E.out 0 rfl
        refine step_yes rfl (E.pre 10 rfl) ?_
        exact op_move (.inl rfl) e0 ⟨Below.refl _ _, rfl⟩
      · intro ρ w' E
        have e28 : ρ (.tmp 28) = .slice a2 ps.length c2 := E.pre 11 rfl
        have e29 : ρ (.tmp 29) = .slice a ps.length c := E.pre 12 rfl
        refine step_yes rfl (E.pre 10 rfl) ?_
        refine op_call (f := 24) (args := #[.slice a2 ps.length c2, .slice a ps.length c]) (w' := w') (by have hcon := E.con; have hfn := E.fn; clear E; go_simp) ?_
        refine (rows_any a2 c2 qs a c ps w' _ _ (hq.ext E.below) (hm.ext E.below) Hlen.out.symm rfl (by rw [Hlen.out]; exact hn) hn).mono ?_
        rintro e w2 ⟨rfl, n, rfl⟩
        exact ⟨_, rfl, ext_drewN _ _ _, by rw [decide_eq_true hql.out]; rfl⟩
      · intro ρ w' E
        have e27 : ρ (.tmp 27) = .bool true := E.pre 10 rfl
        have e30 : ρ (.tmp 30) = .bool true := E.pre 13 rfl
        refine step_plain rfl ?_
        exact op_pick (b := true) rfl e27 rfl ⟨Below.refl _ _, e30⟩
      · intro ρ w' E
        have e31 : ρ (.tmp 31) = .bool true := E.pre 14 rfl
        refine step_plain rfl ?_
        exact op_move (.inl rfl) e31 ⟨Below.refl _ _, rfl⟩
      · intro ρ w' E
        refine step_yes rfl (E.pre 15 rfl) ?_
        refine op_call (f := 17) (args := #[]) (w' := w') (by have hcon := E.con; have hfn := E.fn; clear E; go_simp) ?_
        refine (wakes_any w').mono ?_
        rintro e w2 ⟨rfl, hb⟩
        exact ⟨_, rfl, hb, rfl⟩
      · intro ρ w' E
        have e32 : ρ (.tmp 32) = .bool true := E.pre 15 rfl
        have e33 : ρ (.tmp 33) = .bool true := E.pre 16 rfl
        refine step_plain rfl ?_
        exact op_pick (b := true) rfl e32 rfl ⟨Below.refl _ _, e33⟩
      · intro ρ w' E
        have e34 : ρ (.tmp 34) = .bool true := E.pre 17 rfl
        refine step_plain rfl ?_
        exact op_move (.inr rfl) e34 ⟨Below.refl _ _, rfl⟩
    · intro σ w6 hb6 hall
      have h2 : σ 2 = .bool true := by obtain ⟨_, _, _, _, _, _, _, _, _, _, _, _, _, _, _, _, _, _, h, _⟩ := hall; exact h
      have hb16 := bthen hb15 hb6 (Nat.le_refl _)
      clear hall
      generalize hact : upd _ _ σ = act
      have hr : act.tmps.getD 2 undef = .bool true := by rw [← hact]; exact h2
      have hd : act.defers = [] := by rw [← hact]; rfl
      go_wp2
      exact bodyPost_ret (results_tmp rfl _ _ _) hd ⟨by rw [hr], hb16⟩
end Go.Proofs.Ytobgiapfehffcaa
