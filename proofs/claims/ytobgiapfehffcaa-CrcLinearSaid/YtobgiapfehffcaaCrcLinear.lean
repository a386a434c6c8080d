/- The law CrcLinear, walked. -/
import Derived.Test.YtobgiapfehffcaaCrcBytes
import Derived.StillTailTactics
namespace Go.Proofs.Ytobgiapfehffcaa
open Go.RowKit

def x3 (la lb lc : List Byte) (n k : Nat) : List Byte := List.ofFn (n := n) fun i => if i.val < k then la.getD i 0#8 ^^^ lb.getD i 0#8 ^^^ lc.getD i 0#8 else 0#8
theorem x3_length (la lb lc : List Byte) (n k : Nat) : (x3 la lb lc n k).length = n := by simp [x3]
theorem x3_zero (la lb lc : List Byte) (n : Nat) : x3 la lb lc n 0 = List.replicate n 0#8 := by
  apply List.ext_getElem
  · simp [x3]
  · intro i h1 h2; simp [x3]
theorem x3_succ (la lb lc : List Byte) (n k : Nat) (hk : k < n) : (x3 la lb lc n k).set k (la.getD k 0#8 ^^^ lb.getD k 0#8 ^^^ lc.getD k 0#8) = x3 la lb lc n (k + 1) := by
  apply List.ext_getElem
  · simp [x3]
  · intro i h1 h2
    simp only [x3, List.getElem_set, List.getElem_ofFn]
    by_cases h : k = i
    · subst h; simp
    · rw [if_neg h]
      by_cases h' : i < k
      · simp [h', show i < k + 1 by omega]
      · simp [h', show ¬ i < k + 1 by omega]
theorem x3_full (la lb lc : List Byte) (n : Nat) (ha : n ≤ la.length) (hb : n ≤ lb.length) (hc : n ≤ lc.length) : x3 la lb lc n n = xorL (xorL (la.take n) (lb.take n)) (lc.take n) := by
  apply List.ext_getElem
  · simp [x3, xorL]; omega
  · intro i h1 h2
    have hi : i < n := by simpa [x3] using h1
    simp [x3, xorL, hi, show i < la.length by omega, show i < lb.length by omega, show i < lc.length by omega]

set_option maxRecDepth 100000 in
set_option maxHeartbeats 1000000 in
theorem crcLinear_walk (w : World) (a0 : Option Addr) (c0 : Nat) (la : List Byte) (ha : Src w a0 (bvs la)) (hla : la.length ≤ 9223372036854775807) (k0 : la.length ≤ c0) (a1 : Option Addr) (c1 : Nat) (lb : List Byte) (hb : Src w a1 (bvs lb)) (hlb : lb.length ≤ 9223372036854775807) (k1 : lb.length ≤ c1)
    (a2 : Option Addr) (c2 : Nat) (lc : List Byte) (hc : Src w a2 (bvs lc)) (hlc : lc.length ≤ 9223372036854775807) (k2 : lc.length ≤ c2) :
    Calls Try.prog 4 #[.slice a0 la.length c0, .slice a1 lb.length c1, .slice a2 lc.length c2] w fun e w' => e = .returned (.bool true) ∧ Below w.heap.size w w' := by
  by_cases h1 : la.length ≤ 300
  · by_cases h2 : lb.length ≤ 300
    · by_cases h3 : lc.length ≤ 300
      · obtain ⟨i0, hi, hz0, hz1, hz2⟩ := info_parts info8
        obtain ⟨n, hn⟩ : ∃ n, n = min la.length (min lb.length lc.length) := ⟨_, rfl⟩
        have na : n ≤ la.length := by omega
        have nb : n ≤ lb.length := by omega
        have nc : n ≤ lc.length := by omega
        have Hn : Hid (n = min la.length (min lb.length lc.length)) := Lib.hid hn
        obtain ⟨m, hm⟩ : ∃ m, m = min lb.length lc.length := ⟨_, rfl⟩
        have e1 : (if lc.length < lb.length then ((lc.length : Nat) : Int) else ((lb.length : Nat) : Int)) = (m : Int) := by rw [hm]; split <;> omega
        have e2 : (if m < la.length then ((m : Nat) : Int) else ((la.length : Nat) : Int)) = (n : Int) := by rw [hn, ← hm]; split <;> omega
        clear hn hm
        go_enter Try.func4, Try.ntmps4
        go_wp2_with (refine wpList_make_full w rfl (.tmp 31) (.tmp 31) 22 rfl w.heap.size 5 i0 (.int .u8 0) 1 Try.underlying22 hi hz0 hz1 .i64 .i64 _ _ n rfl rfl rfl rfl (by rw [hz2]; omega) (by unfold maxLen; omega) (Nat.le_refl _) ?_; intro w1 hown hg)
        clear e1 e2
        have hown1 := own_of_row hown
        rw [show (Value.int IntKind.u8 0).cells = #[.int .u8 0] from rfl, made_bytes, ← x3_zero la lb lc n] at hown1
        have hb1 := (Below.refl w.heap.size w).grown hg (Nat.le_refl _) (by simp)
        clear hown hg
        go_loopw [9] (fun i wr => ∃ k, k ≤ n ∧ i = .int .i64 (k : Nat) ∧ Own wr w.heap.size 5 1 (some ⟨w.heap.size, 0, none⟩) n n (bvs (x3 la lb lc n k)) ∧ Below w.heap.size w wr) (fun i _ => n - (intOf i).toNat)
        case atStart => exact ⟨0, by omega, rfl, hown1, hb1⟩
        case round =>
          rename_i wr
          obtain ⟨k, hk, rfl, hown, hbr⟩ := hrel
          by_cases hlt : k < n
          · obtain ⟨b0, o0, rfl, _, hat0⟩ := src_bytes_at (ha.ext hbr) (show k < la.length by omega)
            obtain ⟨b1', o1, rfl, _, hat1⟩ := src_bytes_at (hb.ext hbr) (show k < lb.length by omega)
            obtain ⟨b2, o2, rfl, _, hat2⟩ := src_bytes_at (hc.ext hbr) (show k < lc.length by omega)
            have ka : k < la.length := by omega
            have kb : k < lb.length := by omega
            have kc : k < lc.length := by omega
            have hc0 := hat0 k ka
            have hc1 := hat1 k kb
            have hc2 := hat2 k kc
            generalize hx : la[k] = x at hc0
            generalize hy : lb[k] = y at hc1
            generalize hz : lc[k] = z at hc2
            obtain ⟨g, hg, _, hgl, hgc, hgf⟩ := hown.at hlt
            simp only [Option.some.injEq, Addr.mk.injEq, and_true] at hg
            subst hg
            have hgk := hgc k (by rw [bvs_length, x3_length]; exact hlt)
            have hgfk := hgf k
            clear hat0 hat1 hat2 hgc hgf
            have ia : (k : Int) < (la.length : Int) := by omega
            have ib : (k : Int) < (lb.length : Int) := by omega
            have ic : (k : Int) < (lc.length : Int) := by omega
            have ig : (k : Int) < (n : Int) := by omega
            have hset := (hown.ext (ext_drewN wr 1 _)).set k (.int .u8 ((x ^^^ y ^^^ z : Byte).toNat : Int)) hlt
            rw [bvs_set] at hset
            have hq : x ^^^ y ^^^ z = la.getD k 0#8 ^^^ lb.getD k 0#8 ^^^ lc.getD k 0#8 := by
              rw [← hx, ← hy, ← hz]; simp [ka, kb, kc]
            have hx3 := x3_succ la lb lc n k hlt
            rw [← hq] at hx3
            rw [hx3] at hset
            have hbr2 : Below w.heap.size w ((wr.drewN 1).setCell ⟨w.heap.size, k, none⟩ (.int .u8 ((x ^^^ y ^^^ z : Byte).toNat : Int))) := (below_drewN hbr 1).setCell (Nat.le_refl _) _
            have ex1 := xor8 x y
            have ex2 := xor8 (x ^^^ y) z
            generalize (bvs (x3 la lb lc n k))[k]'(by rw [bvs_length, x3_length]; exact hlt) = v0 at hgk
            clear hq hx3 hx hy hz ka kb kc
            generalize x ^^^ y ^^^ z = r at hset hbr2 ex2
            generalize x ^^^ y = q at ex1 ex2
            have Hset := Lib.hid hset
            have Hbr := Lib.hid hbr2
            clear hset hbr2 hown hbr ha hb hc
            go_wp2_with fail
            go_still_tail 17, (by kernel_rfl)
            go_wp2
            go_roundw
            case rel => exact ⟨k + 1, by omega, by go_num, Hset.out, Hbr.out⟩
            case measure => simp [intOf]; omega
          · obtain rfl : k = n := by omega
            rw [x3_full la lb lc k na nb nc] at hown
            clear hown1 hb1
            have hsx := hown.src
            have hsa := (ha.ext hbr).take k
            have hsb := (hb.ext hbr).take k
            have hsc := (hc.ext hbr).take k
            rw [← bvs_take] at hsa hsb hsc
            have hxl : (xorL (xorL (la.take k) (lb.take k)) (lc.take k)).length = k := by simp [xorL]; omega
            have hta : (la.take k).length = k := by simp; omega
            have htb : (lb.take k).length = k := by simp; omega
            have htc : (lc.take k).length = k := by simp; omega
            have hlin := crc_linear (la.take k) (lb.take k) (lc.take k) (by rw [hta, htb]) (by rw [hta, htc])
            have ka : k ≤ c0 := by omega
            have kb : k ≤ c1 := by omega
            have kc : k ≤ c2 := by omega
            clear hown ha hb hc
            generalize xorL (xorL (la.take k) (lb.take k)) (lc.take k) = X at *
            generalize la.take k = A at *
            generalize lb.take k = B at *
            generalize lc.take k = C at *
            obtain ⟨zx, ex⟩ : ∃ z, crc X = z := ⟨_, rfl⟩
            obtain ⟨za, ea⟩ : ∃ z, crc A = z := ⟨_, rfl⟩
            obtain ⟨zb, eb⟩ : ∃ z, crc B = z := ⟨_, rfl⟩
            obtain ⟨zc, ec⟩ : ∃ z, crc C = z := ⟨_, rfl⟩
            rw [ex, ea, eb, ec] at hlin
            have Ex := Lib.hid ex
            have Ea := Lib.hid ea
            have Eb := Lib.hid eb
            have Ec := Lib.hid ec
            have Hx := Lib.hid hxl
            have Ha := Lib.hid hta
            have Hb := Lib.hid htb
            have Hc := Lib.hid htc
            have ex1 := xor32 za zb
            have ex2 := xor32 (za ^^^ zb) zc
            rw [← hlin] at ex2
            clear ex ea eb ec hxl hta htb htc hlin
            generalize za ^^^ zb = zab at *
            generalize hW0 : w.heap.size = W0 at *
            have HW0 := Lib.hid hW0
            clear hW0
            go_wp2_with fail
            refine wp_region_sp (by kernel_rfl) [Sp.eq (.slice (some ⟨W0, 0, none⟩) k k), ⟨fun w v => ∃ Bx, v = .slice (some ⟨Bx, 0, none⟩) 1 1 ∧ Mat w (some ⟨Bx, 0, none⟩) [⟨some ⟨W0, 0, none⟩, k, X⟩], fun _ _ _ ⟨B, h, hm⟩ hb => ⟨B, h, hm.ext hb⟩⟩, Sp.eq (.int .u32 (zx.toNat : Int)), Sp.eq (.slice a0 la.length c0), Sp.eq (.int .i64 (k : Int)), Sp.eq (.slice a0 k c0), ⟨fun w v => ∃ Bx, v = .slice (some ⟨Bx, 0, none⟩) 1 1 ∧ Mat w (some ⟨Bx, 0, none⟩) [⟨a0, c0, A⟩], fun _ _ _ ⟨B, h, hm⟩ hb => ⟨B, h, hm.ext hb⟩⟩, Sp.eq (.int .u32 (za.toNat : Int)), Sp.eq (.slice a1 lb.length c1), Sp.eq (.int .i64 (k : Int)), Sp.eq (.slice a1 k c1), ⟨fun w v => ∃ Bx, v = .slice (some ⟨Bx, 0, none⟩) 1 1 ∧ Mat w (some ⟨Bx, 0, none⟩) [⟨a1, c1, B⟩], fun _ _ _ ⟨B, h, hm⟩ hb => ⟨B, h, hm.ext hb⟩⟩, Sp.eq (.int .u32 (zb.toNat : Int)), Sp.eq (.int .u32 (zab.toNat : Int)), Sp.eq (.slice a2 lc.length c2), Sp.eq (.int .i64 (k : Int)), Sp.eq (.slice a2 k c2), ⟨fun w v => ∃ Bx, v = .slice (some ⟨Bx, 0, none⟩) 1 1 ∧ Mat w (some ⟨Bx, 0, none⟩) [⟨a2, c2, C⟩], fun _ _ _ ⟨B, h, hm⟩ hb => ⟨B, h, hm.ext hb⟩⟩, Sp.eq (.int .u32 (zc.toNat : Int)), Sp.eq (.int .u32 (zx.toNat : Int)), Sp.eq (.bool true), Sp.eq (.bool true), Sp.eq (.bool true), Sp.eq (.bool true), Sp.eq (.bool true)] (by kernel_rfl) ?_ ?_
            · refine stepsOk_cons ?_ (stepsOk_cons ?_ (stepsOk_cons ?_ (stepsOk_cons ?_ (stepsOk_cons ?_ (stepsOk_cons ?_ (stepsOk_cons ?_ (stepsOk_cons ?_ (stepsOk_cons ?_ (stepsOk_cons ?_ (stepsOk_cons ?_ (stepsOk_cons ?_ (stepsOk_cons ?_ (stepsOk_cons ?_ (stepsOk_cons ?_ (stepsOk_cons ?_ (stepsOk_cons ?_ (stepsOk_cons ?_ (stepsOk_cons ?_ (stepsOk_cons ?_ (stepsOk_cons ?_ (stepsOk_cons ?_ (stepsOk_cons ?_ (stepsOk_cons ?_ (stepsOk_cons ?_ (stepsOk_nil)))))))))))))))))))))))))
              · intro ρ w' E
                have e8 : ρ (.tmp 8) = .slice (some ⟨W0, 0, none⟩) k k := E.out 8 rfl
                refine step_plain rfl ?_
                exact op_move (.inl rfl) e8 ⟨Below.refl _ _, rfl⟩
              · intro ρ w' E
                have e55 : ρ (.tmp 55) = .slice (some ⟨W0, 0, none⟩) k k := E.pre 0 rfl
                refine step_plain rfl ?_
                refine op_val (v := .slice (some ⟨w'.heap.size, 0, none⟩) 1 1) (w' := w'.alloc (.cells #[.slice (some ⟨W0, 0, none⟩) k k] 22)) (by have hcon := E.con; clear E; go_simp; try rfl) ⟨ext_alloc _ _, _, rfl, mat_one (w := w') rfl ⟨hsx.ext E.below, by rw [Hx.out]; omega⟩ rfl Hx.out.symm rfl⟩
              · intro ρ w' E
                have p56 : (fun w v => ∃ Bx, v = .slice (some ⟨Bx, 0, none⟩) 1 1 ∧ Mat w (some ⟨Bx, 0, none⟩) [⟨some ⟨W0, 0, none⟩, k, X⟩]) w' (ρ (.tmp 56)) := E.pre 1 rfl
                refine step_plain rfl ?_
                refine op_call (f := 15) (args := #[ρ (.tmp 56)]) (w' := w') (by have hcon := E.con; have hfn := E.fn; clear E; go_simp) ?_
                obtain ⟨B', e1, hmat⟩ := p56
                rw [e1]
                refine (sum_at _ _ _ _ 1 zx hmat rfl (by omega) (by rw [← Ex.out]; simp [flat])).mono ?_
                rintro e w2 ⟨rfl, hb⟩
                exact ⟨_, rfl, hb, rfl⟩
              · intro ρ w' E
                have e0 : ρ (.tmp 0) = .slice a0 la.length c0 := E.out 0 rfl
                refine step_plain rfl ?_
                exact op_move (.inl rfl) e0 ⟨Below.refl _ _, rfl⟩
              · intro ρ w' E
                have e7 : ρ (.tmp 7) = .int .i64 (k : Int) := E.out 7 rfl
                refine step_plain rfl ?_
                exact op_move (.inl rfl) e7 ⟨Below.refl _ _, rfl⟩
              · intro ρ w' E
                have e58 : ρ (.tmp 58) = .slice a0 la.length c0 := E.pre 3 rfl
                have e59 : ρ (.tmp 59) = .int .i64 (k : Int) := E.pre 4 rfl
                refine step_plain rfl ?_
                refine op_val (v := .slice a0 k c0) (w' := w') ?_ ⟨Below.refl _ _, rfl⟩
                have hcon := E.con
                clear E
                go_simp
              · intro ρ w' E
                have e60 : ρ (.tmp 60) = .slice a0 k c0 := E.pre 5 rfl
                refine step_plain rfl ?_
                refine op_val (v := .slice (some ⟨w'.heap.size, 0, none⟩) 1 1) (w' := w'.alloc (.cells #[.slice a0 k c0] 22)) (by have hcon := E.con; clear E; go_simp; try rfl) ⟨ext_alloc _ _, _, rfl, mat_one (w := w') rfl ⟨hsa.ext E.below, by rw [Ha.out]; omega⟩ rfl Ha.out.symm rfl⟩
              · intro ρ w' E
                have p61 : (fun w v => ∃ Bx, v = .slice (some ⟨Bx, 0, none⟩) 1 1 ∧ Mat w (some ⟨Bx, 0, none⟩) [⟨a0, c0, A⟩]) w' (ρ (.tmp 61)) := E.pre 6 rfl
                refine step_plain rfl ?_
                refine op_call (f := 15) (args := #[ρ (.tmp 61)]) (w' := w') (by have hcon := E.con; have hfn := E.fn; clear E; go_simp) ?_
                obtain ⟨B', e1, hmat⟩ := p61
                rw [e1]
                refine (sum_at _ _ _ _ 1 za hmat rfl (by omega) (by rw [← Ea.out]; simp [flat])).mono ?_
                rintro e w2 ⟨rfl, hb⟩
                exact ⟨_, rfl, hb, rfl⟩
              · intro ρ w' E
                have e1 : ρ (.tmp 1) = .slice a1 lb.length c1 := E.out 1 rfl
                refine step_plain rfl ?_
                exact op_move (.inl rfl) e1 ⟨Below.refl _ _, rfl⟩
              · intro ρ w' E
                have e7 : ρ (.tmp 7) = .int .i64 (k : Int) := E.out 7 rfl
                refine step_plain rfl ?_
                exact op_move (.inl rfl) e7 ⟨Below.refl _ _, rfl⟩
              · intro ρ w' E
                have e63 : ρ (.tmp 63) = .slice a1 lb.length c1 := E.pre 8 rfl
                have e64 : ρ (.tmp 64) = .int .i64 (k : Int) := E.pre 9 rfl
                refine step_plain rfl ?_
                refine op_val (v := .slice a1 k c1) (w' := w') ?_ ⟨Below.refl _ _, rfl⟩
                have hcon := E.con
                clear E
                go_simp
              · intro ρ w' E
                have e65 : ρ (.tmp 65) = .slice a1 k c1 := E.pre 10 rfl
                refine step_plain rfl ?_
                refine op_val (v := .slice (some ⟨w'.heap.size, 0, none⟩) 1 1) (w' := w'.alloc (.cells #[.slice a1 k c1] 22)) (by have hcon := E.con; clear E; go_simp; try rfl) ⟨ext_alloc _ _, _, rfl, mat_one (w := w') rfl ⟨hsb.ext E.below, by rw [Hb.out]; omega⟩ rfl Hb.out.symm rfl⟩
              · intro ρ w' E
                have p66 : (fun w v => ∃ Bx, v = .slice (some ⟨Bx, 0, none⟩) 1 1 ∧ Mat w (some ⟨Bx, 0, none⟩) [⟨a1, c1, B⟩]) w' (ρ (.tmp 66)) := E.pre 11 rfl
                refine step_plain rfl ?_
                refine op_call (f := 15) (args := #[ρ (.tmp 66)]) (w' := w') (by have hcon := E.con; have hfn := E.fn; clear E; go_simp) ?_
                obtain ⟨B', e1, hmat⟩ := p66
                rw [e1]
                refine (sum_at _ _ _ _ 1 zb hmat rfl (by omega) (by rw [← Eb.out]; simp [flat])).mono ?_
                rintro e w2 ⟨rfl, hb⟩
                exact ⟨_, rfl, hb, rfl⟩
              · intro ρ w' E
                have e62 : ρ (.tmp 62) = .int .u32 (za.toNat : Int) := E.pre 7 rfl
                have e67 : ρ (.tmp 67) = .int .u32 (zb.toNat : Int) := E.pre 12 rfl
                refine step_plain rfl ?_
                refine op_val (v := .int .u32 (zab.toNat : Int)) (w' := w') ?_ ⟨Below.refl _ _, rfl⟩
                have hcon := E.con
                clear E
                go_simp
              · intro ρ w' E
                have e2 : ρ (.tmp 2) = .slice a2 lc.length c2 := E.out 2 rfl
                refine step_plain rfl ?_
                exact op_move (.inl rfl) e2 ⟨Below.refl _ _, rfl⟩
              · intro ρ w' E
                have e7 : ρ (.tmp 7) = .int .i64 (k : Int) := E.out 7 rfl
                refine step_plain rfl ?_
                exact op_move (.inl rfl) e7 ⟨Below.refl _ _, rfl⟩
              · intro ρ w' E
                have e69 : ρ (.tmp 69) = .slice a2 lc.length c2 := E.pre 14 rfl
                have e70 : ρ (.tmp 70) = .int .i64 (k : Int) := E.pre 15 rfl
                refine step_plain rfl ?_
                refine op_val (v := .slice a2 k c2) (w' := w') ?_ ⟨Below.refl _ _, rfl⟩
                have hcon := E.con
                clear E
                go_simp
              · intro ρ w' E
                have e71 : ρ (.tmp 71) = .slice a2 k c2 := E.pre 16 rfl
                refine step_plain rfl ?_
                refine op_val (v := .slice (some ⟨w'.heap.size, 0, none⟩) 1 1) (w' := w'.alloc (.cells #[.slice a2 k c2] 22)) (by have hcon := E.con; clear E; go_simp; try rfl) ⟨ext_alloc _ _, _, rfl, mat_one (w := w') rfl ⟨hsc.ext E.below, by rw [Hc.out]; omega⟩ rfl Hc.out.symm rfl⟩
              · intro ρ w' E
                have p72 : (fun w v => ∃ Bx, v = .slice (some ⟨Bx, 0, none⟩) 1 1 ∧ Mat w (some ⟨Bx, 0, none⟩) [⟨a2, c2, C⟩]) w' (ρ (.tmp 72)) := E.pre 17 rfl
                refine step_plain rfl ?_
                refine op_call (f := 15) (args := #[ρ (.tmp 72)]) (w' := w') (by have hcon := E.con; have hfn := E.fn; clear E; go_simp) ?_
                obtain ⟨B', e1, hmat⟩ := p72
                rw [e1]
                refine (sum_at _ _ _ _ 1 zc hmat rfl (by omega) (by rw [← Ec.out]; simp [flat])).mono ?_
                rintro e w2 ⟨rfl, hb⟩
                exact ⟨_, rfl, hb, rfl⟩
              · intro ρ w' E
                have e68 : ρ (.tmp 68) = .int .u32 (zab.toNat : Int) := E.pre 13 rfl
                have e73 : ρ (.tmp 73) = .int .u32 (zc.toNat : Int) := E.pre 18 rfl
                refine step_plain rfl ?_
                refine op_val (v := .int .u32 (zx.toNat : Int)) (w' := w') ?_ ⟨Below.refl _ _, rfl⟩
                have hcon := E.con
                clear E
                go_simp
              · intro ρ w' E
                have e57 : ρ (.tmp 57) = .int .u32 (zx.toNat : Int) := E.pre 2 rfl
                have e74 : ρ (.tmp 74) = .int .u32 (zx.toNat : Int) := E.pre 19 rfl
                refine step_plain rfl ?_
                refine op_val (v := .bool true) (w' := w') ?_ ⟨Below.refl _ _, rfl⟩
                have hcon := E.con
                clear E
                go_simp
              · intro ρ w' E
                have e75 : ρ (.tmp 75) = .bool true := E.pre 20 rfl
                refine step_plain rfl ?_
                exact op_move (.inl rfl) e75 ⟨Below.refl _ _, rfl⟩
              · intro ρ w' E
                refine step_yes rfl (E.pre 21 rfl) ?_
                refine op_call (f := 17) (args := #[]) (w' := w') (by have hcon := E.con; have hfn := E.fn; clear E; go_simp) ?_
                refine (wakes_any w').mono ?_
                rintro e w2 ⟨rfl, hb⟩
                exact ⟨_, rfl, hb, rfl⟩
              · intro ρ w' E
                have e76 : ρ (.tmp 76) = .bool true := E.pre 21 rfl
                have e77 : ρ (.tmp 77) = .bool true := E.pre 22 rfl
                refine step_plain rfl ?_
                exact op_pick (b := true) rfl e76 rfl ⟨Below.refl _ _, e77⟩
              · intro ρ w' E
                have e78 : ρ (.tmp 78) = .bool true := E.pre 23 rfl
                refine step_plain rfl ?_
                exact op_move (.inr rfl) e78 ⟨Below.refl _ _, rfl⟩
            · intro σ w6 hb6 hall
              have h2 : σ 6 = .bool true := by obtain ⟨_, _, _, _, _, _, _, _, _, _, _, _, _, _, _, _, _, _, _, _, _, _, _, _, h, _⟩ := hall; exact h
              have hb16 := bthen hbr hb6 (by rw [← HW0.out]; exact Nat.le_refl _)
              rw [← HW0.out] at hb16
              clear hall
              generalize hact : upd _ _ σ = act
              have hr : act.tmps.getD 6 undef = .bool true := by rw [← hact]; exact h2
              have hd : act.defers = [] := by rw [← hact]; rfl
              go_wp2
              exact bodyPost_ret (results_tmp rfl _ _ _) hd ⟨by rw [hr], hb16⟩
      · go_enter Try.func4, Try.ntmps4
        go_wp2
        go_ret
        exact ⟨rfl, Below.refl _ _⟩
    · go_enter Try.func4, Try.ntmps4
      go_wp2
      go_ret
      exact ⟨rfl, Below.refl _ _⟩
  · go_enter Try.func4, Try.ntmps4
    go_wp2
    go_ret
    exact ⟨rfl, Below.refl _ _⟩
end Go.Proofs.Ytobgiapfehffcaa
