/- The walk of StoreLasts. -/
import Derived.Test.YtogcejmnhiphgaaStoreWakes
import Derived.Test.YtogcejmnhiphgaaStoreTrip
import Derived.Test.YtogcejmnhiphgaaSaves
import Derived.Test.YtogcejmnhiphgaaSpoilIn
import Derived.Test.YtogcejmnhiphgaaRegionPhase
namespace Go.Proofs.Ytogcejmnhiphgaa
open Go.RowKit

theorem DW.offP {K : Nat → Prop} {B : Nat} {w : World} {g pg n : Nat} {d : DS} {p : PS} {m : Nat} (h : DW K B w g pg n d p m) {r : Bool} (hr : p.off = r) :
    Calls Try.prog 43 #[.pointer (some ⟨pg, 0, none⟩)] w fun e w' => e = .returned (.bool r) ∧ w = w' := by
  subst hr; exact power_off B pg p w h.pow
theorem DW.zero {K : Nat → Prop} {B : Nat} {w : World} {g pg n : Nat} {d : DS} {p : PS} {m : Nat} (h : DW K B w g pg n d p m) (hp : d.pend = []) : DW K B w g pg n d p 0 := ⟨h.disk, h.pow, h.ok, h.base, by rw [hp]; exact Nat.le_refl _⟩
/-- Whatever of it is kept: the one state or the other. -/
def Fut (d : DS) (s b : List Byte) (cnt : Nat) : Prop := ∀ q, Good (applyP q 0 d.pend d.safe) s cnt ∨ Good (applyP q 0 d.pend d.safe) b (cnt + 1)
theorem Fut.still {d : DS} {s b : List Byte} {cnt : Nat} (hp : d.pend = []) (hs : d.safe = d.now) (h : Good d.now s cnt ∨ Good d.now b (cnt + 1)) : Fut d s b cnt := fun q => by
  rw [hp, hs]; exact h
theorem arm_off (p : PS) (n : Int) (k : List Bool) (t : Int) : (p.arm n k t).off = p.off := rfl
theorem start_on (p : PS) (h : p.off = true) : p.start.off = false ∧ p.start.life = p.life + 1 := by unfold PS.start; rw [if_pos h]; exact ⟨rfl, rfl⟩
theorem cut_off (p : PS) (k : List Bool) (t : Int) : (p.cut k t).off = true ∧ (p.cut k t).life = p.life := by
  unfold PS.cut
  split
  · rename_i h; exact ⟨h, rfl⟩
  · exact ⟨rfl, rfl⟩

set_option maxRecDepth 100000 in
set_option maxHeartbeats 16000000 in
theorem storeLasts_walk (w : World) (a : Option Addr) (c : Nat) (l : List SaveV) (hs : SMat w a l) (hl : l.length ≤ 9223372036854775807) :
    Calls Try.prog 11 #[.slice a l.length c] w fun e w' => e = .returned (.bool true) ∧ Below w.heap.size w w' := by
  have Hs := Lib.hid hs
  obtain ⟨N, hN⟩ : ∃ N, N = l.length := ⟨_, rfl⟩
  rw [← hN]
  have HN := Lib.hid hN
  have hN2 : N ≤ 9223372036854775807 := by omega
  clear hs hN hl
  go_enter Try.func11, Try.ntmps11
  go_wp2_with fail
  refine (heavy10 a c N l w Hs.out.src HN.out hN2).mono ?_
  rintro e w0 (⟨rfl, hb0⟩ | ⟨rfl, hb0, hlight⟩)
  · go_wp2
    go_ret
    exact ⟨rfl, hb0⟩
  · have HLi := Lib.hid hlight
    clear hlight
    go_wp2_with fail
    refine (power_new w0).mono ?_
    rintro e w1 ⟨pg, rfl, hp, hb1⟩
    go_wp2_with fail
    refine (disk_new pg PS.new 300 w0.heap.size w1 hp (by decide) (by decide)).mono ?_
    rintro e w2 ⟨g, rfl, hd, hb2⟩
    have HD2 : Hid (DW (fun _ => True) w.heap.size w2 g pg 300 (DS.new 0 300) PS.new 0) := Lib.hid (by
      have h := new_dws hp hb1 hd hb2
      exact ⟨(h.disk.base hb0.size).mono fun _ _ _ => trivial, h.pow.mono hb0.size, h.ok, Nat.le_trans hb0.size h.base, Nat.le_refl _⟩)
    have HB2 := Lib.hid (bthen hb0 (bthen hb1 hb2 (Nat.le_refl _)) (Nat.le_refl _))
    clear hd hp hb1 hb2 hb0
    go_wp2_with fail
    refine (sopen_good HD2.out (by decide) (by decide) (by decide) rfl rfl (good_new 300)).mono ?_
    rintro e w3 ⟨gs0, rfl, hs3, hd3, hm3⟩
    have HB3 := Lib.hid (HB2.out.trans (hm3.below (fun b T h => h.1) HB2.out.size))
    have HS3 := Lib.hid (hs3.mono HB2.out.size)
    have HD3 := Lib.hid hd3
    clear hs3 hd3 hm3 HD2 HB2
    go_wp2_with fail
    refine (sstate_any HS3.out (L := 0) rfl).mono ?_
    rintro e w4 ⟨a4, c4, rfl, ho4, hb4⟩
    clear ho4
    have HB3' := Lib.hid (bthen HB3.out hb4 (Nat.le_refl _))
    have HS3' := Lib.hid (HS3.out.ext hb4)
    have HD3' := Lib.hid (HD3.out.ext hb4)
    clear hb4 HB3 HS3 HD3
    have HB3 := HB3'
    have HS3 := HS3'
    have HD3 := HD3'
    clear HB3' HS3' HD3'
    go_wp2_with fail
    refine (scount_any HS3.out).mono ?_
    rintro e w5 ⟨rfl, rfl⟩
    go_wp2_with fail
    go_loopw [6, 7, 8, 9] (fun sv nv cv i wx => ∃ (k : Nat) (d : DS) (p : PS) (s : List Byte) (cnt gs : Nat) (a7 : Option Addr) (n7 c7 : Nat) (wr : World), wr = wx ∧ k ≤ 12 ∧ sv = .pointer (some ⟨gs, 0, none⟩) ∧ nv = .slice a7 n7 c7 ∧ n7 = s.length ∧ cv = .int .i64 (cnt : Int) ∧ i = .int .i64 (k : Int) ∧ cnt ≤ k ∧
      DW (fun _ => True) w.heap.size wr g pg 300 d p 0 ∧ p.off = false ∧ d.life = p.life ∧ (0 ≤ p.life ∧ p.life ≤ 10 * (k : Int)) ∧ Good d.now s cnt ∧ d.safe = d.now ∧ StA w.heap.size wr gs g s cnt ∧ Own wr w.heap.size 5 1 a7 n7 c7 (bvs s) ∧ Below w.heap.size w wr) (fun _ _ _ i _ => N - (intOf i).toNat)
    case atStart => exact ⟨0, _, _, [], 0, gs0, none, 0, 0, _, rfl, by omega, rfl, rfl, rfl, rfl, rfl, by omega, HD3.out, rfl, rfl, by decide, good_new 300, rfl, HS3.out, Own.nil _ _ _ _ _, HB3.out⟩
    case round =>
      obtain ⟨k, d, p, s, cnt, gs, a7, n7, c7, wr, hwr, hk, rfl, rfl, hn7, rfl, rfl, hcnt, hD, hoff, hlife, hpl, hG, hsn, hS, hO, hbr⟩ := hrel
      subst hwr
      have Hn7 := Lib.hid hn7
      have HD := Lib.hid hD
      have Hoff := Lib.hid hoff
      have Hlife := Lib.hid hlife
      have Hpl := Lib.hid hpl
      have HG := Lib.hid hG
      have Hsn := Lib.hid hsn
      have HS := Lib.hid hS
      have HO := Lib.hid hO
      have HBr := Lib.hid hbr
      clear hn7 hD hoff hlife hpl hG hsn hS hO hbr HD3 HS3 HB3
      by_cases hkN : k < N
      · by_cases hk12 : k < 12
        · have hkl : k < l.length := by have := HN.out; omega
          obtain ⟨bb, o, rfl, hlb, hat⟩ := Hs.out.src.elem SaveV.len (by decide) hkl
          have hok := Hs.out.ok _ (List.getElem_mem hkl)
          obtain ⟨hL0, hL3, hL5⟩ := HLi.out.2 k hkl
          obtain ⟨x, hx⟩ : ∃ x, x = l[k] := ⟨_, rfl⟩
          rw [← hx] at hok hL0 hL3 hL5
          have q0 : w.cell? ⟨bb, o + k * 6, none⟩ = some (.slice x.b.a x.b.l.length x.b.c) := hat k hkl 0 _ (by rw [hx]; rfl)
          have q1 : w.cell? ⟨bb, o + k * 6 + 1, none⟩ = some (.int .i64 x.times) := hat k hkl 1 _ (by rw [hx]; rfl)
          have q2 : w.cell? ⟨bb, o + k * 6 + 2, none⟩ = some (.int .i64 x.trip) := hat k hkl 2 _ (by rw [hx]; rfl)
          have q3 : w.cell? ⟨bb, o + k * 6 + 3, none⟩ = some (.slice x.ka x.keep.length x.kc) := hat k hkl 3 _ (by rw [hx]; rfl)
          have q4 : w.cell? ⟨bb, o + k * 6 + 4, none⟩ = some (.int .i64 x.torn) := hat k hkl 4 _ (by rw [hx]; rfl)
          have q5 : w.cell? ⟨bb, o + k * 6 + 5, none⟩ = some (.slice x.ga x.again.length x.gc) := hat k hkl 5 _ (by rw [hx]; rfl)
          have Hok := Lib.hid hok
          have e0 := (World.cell?_of_block (w := w) (a := ⟨bb, o + k * 6, none⟩) (HBr.out.block bb hlb)).trans q0
          have e1 := (World.cell?_of_block (w := w) (a := ⟨bb, o + k * 6 + 1, none⟩) (HBr.out.block bb hlb)).trans q1
          have e2 := (World.cell?_of_block (w := w) (a := ⟨bb, o + k * 6 + 2, none⟩) (HBr.out.block bb hlb)).trans q2
          have e3 := (World.cell?_of_block (w := w) (a := ⟨bb, o + k * 6 + 3, none⟩) (HBr.out.block bb hlb)).trans q3
          have e4 := (World.cell?_of_block (w := w) (a := ⟨bb, o + k * 6 + 4, none⟩) (HBr.out.block bb hlb)).trans q4
          have e5 := (World.cell?_of_block (w := w) (a := ⟨bb, o + k * 6 + 5, none⟩) (HBr.out.block bb hlb)).trans q5
          clear hat hok hx
          go_wp2_with fail
          refine (long10 x.b.a x.b.c x.b.l.length x.b.l x.times _ _ _ _ wr (Hok.out.1.1.ext HBr.out) rfl hL0).mono ?_
          rintro e w1 ⟨a10, n10, c10, rfl, hn10, b, hbl, ho10, hb1⟩
          have Hbl := Lib.hid hbl
          have HO10 := Lib.hid (ho10.mono HBr.out.size)
          clear hbl ho10 e0 e1 e2 e3 e4 e5
          have Hw1 := Lib.hid (Nat.le_trans HBr.out.size hb1.size)
          have HBr' := Lib.hid (bthen HBr.out hb1 (Nat.le_refl _))
          have HD' := Lib.hid (HD.out.ext hb1)
          have HS' := Lib.hid (HS.out.ext hb1)
          have HO' := Lib.hid (HO.out.ext hb1)
          clear hb1 HBr HD HS HO
          have HBr := HBr'
          have HD := HD'
          have HS := HS'
          have HO := HO'
          clear HBr' HD' HS' HO'
          have HD := Lib.hid HD.out.lt
          go_wp2_with fail
          refine (twin_at a10 c10 n10 b w1 HO10.out.src Hbl.out (by omega)).mono ?_
          rintro e w2 ⟨a11, c11, rfl, ho11, hb2⟩
          have HT2 := Lib.hid ho11
          have HM2 : Hid (Mod (SvF w.heap.size gs) w1 w2) := Lib.hid (bmod hb2 _)
          clear ho11
          have HBr' := Lib.hid (bthen HBr.out hb2 (Nat.le_refl _))
          have HD' := Lib.hid (HD.out.ext hb2)
          have HS' := Lib.hid (HS.out.ext hb2)
          clear hb2 HBr HD HS
          have HBr := HBr'
          have HD := HD'
          have HS := HS'
          clear HBr' HD' HS'
          have e2 := (World.cell?_of_block (w := w) (a := ⟨bb, o + k * 6 + 2, none⟩) (HBr.out.block bb hlb)).trans q2
          have Hszw1 := Lib.hid (show w.heap.size ≤ w1.heap.size from Hw1.out)
          have HSw2 := Lib.hid (show w1.heap.size ≤ w2.heap.size from HM2.out.size)
          by_cases htr : 0 < x.trip
          · obtain ⟨N1, hN1, hN1b⟩ : ∃ N1 : Int, IntKind.i64.wrap (1 + x.trip.tmod 60) = N1 ∧ N1 ≤ 9223372036854775807 := ⟨_, rfl, by rw [IntKind.wrap_i64]; omega⟩
            obtain ⟨p1, hp1⟩ : ∃ p1, p.arm N1 x.keep x.torn = p1 := ⟨_, rfl⟩
            have Hoff1 : Hid (p1.off = false) := Lib.hid (by rw [← hp1]; exact Hoff.out)
            have Hlf1 : Hid (p1.life = p.life) := Lib.hid (by rw [← hp1]; rfl)
            have hlbw : bb < w2.heap.size := Nat.lt_of_lt_of_le hlb HBr.out.size
            go_wp2_with fail
            refine wp_region_phase (by kernel_rfl) [18] (by kernel_rfl) (by kernel_rfl) ?_
            refine stage_more [Sp.eq (.pointer (some ⟨pg, 0, none⟩)), Sp.eq (.slice (some ⟨bb, o, none⟩) N c), Sp.eq (.int .i64 (k : Int)), Sp.eq (.pointer (some ⟨bb, o + k * 6, none⟩)), Sp.eq (.pointer (some ⟨bb, o + k * 6 + 2, none⟩)), Sp.eq (.int .i64 x.trip), Sp.eq (.int .i64 (x.trip.tmod 60)), Sp.eq (.int .i64 N1), Sp.eq (.slice (some ⟨bb, o, none⟩) N c), Sp.eq (.int .i64 (k : Int)), Sp.eq (.pointer (some ⟨bb, o + k * 6, none⟩)), Sp.eq (.pointer (some ⟨bb, o + k * 6 + 3, none⟩)), Sp.eq (.slice x.ka x.keep.length x.kc), Sp.eq (.slice (some ⟨bb, o, none⟩) N c), Sp.eq (.int .i64 (k : Int)), Sp.eq (.pointer (some ⟨bb, o + k * 6, none⟩)), Sp.eq (.pointer (some ⟨bb, o + k * 6 + 4, none⟩)), Sp.eq (.int .i64 x.torn)] rfl ?_ ?_
            · refine stepsG_cons ?_ (stepsG_cons ?_ (stepsG_cons ?_ (stepsG_cons ?_ (stepsG_cons ?_ (stepsG_cons ?_ (stepsG_cons ?_ (stepsG_cons ?_ (stepsG_cons ?_ (stepsG_cons ?_ (stepsG_cons ?_ (stepsG_cons ?_ (stepsG_cons ?_ (stepsG_cons ?_ (stepsG_cons ?_ (stepsG_cons ?_ (stepsG_cons ?_ (stepsG_cons ?_ (stepsG_nil))))))))))))))))))
              · intro ρ w' E
                have e3 : ρ (.tmp 3) = .pointer (some ⟨pg, 0, none⟩) := E.out 3 rfl
                refine step_plain rfl ?_
                exact op_move (.inl rfl) e3 ⟨Below.refl _ _, rfl⟩
              · intro ρ w' E
                have e0 : ρ (.tmp 0) = .slice (some ⟨bb, o, none⟩) N c := E.out 0 rfl
                refine step_plain rfl ?_
                exact op_move (.inl rfl) e0 ⟨Below.refl _ _, rfl⟩
              · intro ρ w' E
                have e9 : ρ (.tmp 9) = .int .i64 (k : Int) := E.out 9 rfl
                refine step_plain rfl ?_
                exact op_move (.inl rfl) e9 ⟨Below.refl _ _, rfl⟩
              · intro ρ w' E
                have e79 : ρ (.tmp 79) = .slice (some ⟨bb, o, none⟩) N c := E.pre 1 rfl rfl
                have e80 : ρ (.tmp 80) = .int .i64 (k : Int) := E.pre 2 rfl rfl
                refine step_plain rfl ?_
                refine op_val (v := .pointer (some ⟨bb, o + k * 6, none⟩)) (w' := w') ?_ ⟨Below.refl _ _, rfl⟩
                have hcon := E.con
                clear E
                go_simp
              · intro ρ w' E
                have e81 : ρ (.tmp 81) = .pointer (some ⟨bb, o + k * 6, none⟩) := E.pre 3 rfl rfl
                refine step_plain rfl ?_
                refine op_val (v := .pointer (some ⟨bb, o + k * 6 + 2, none⟩)) (w' := w') ?_ ⟨Below.refl _ _, rfl⟩
                have hcon := E.con
                clear E
                go_simp
              · intro ρ w' E
                have e82 : ρ (.tmp 82) = .pointer (some ⟨bb, o + k * 6 + 2, none⟩) := E.pre 4 rfl rfl
                refine step_plain rfl ?_
                refine op_val (v := .int .i64 x.trip) (w' := w') ?_ ⟨Below.refl _ _, rfl⟩
                have hk := (World.cell?_of_block (w := w2) (E.below.block _ hlbw)).trans ((World.cell?_of_block (w := w) (a := ⟨bb, o + k * 6 + 2, none⟩) (HBr.out.block bb hlb)).trans q2)
                have hcon := E.con
                clear E 
                go_simp
              · intro ρ w' E
                have e83 : ρ (.tmp 83) = .int .i64 x.trip := E.pre 5 rfl rfl
                refine step_plain rfl ?_
                refine op_val (v := .int .i64 (x.trip.tmod 60)) (w' := w') ?_ ⟨Below.refl _ _, rfl⟩
                have hcon := E.con
                clear E
                go_simp
              · intro ρ w' E
                have e84 : ρ (.tmp 84) = .int .i64 (x.trip.tmod 60) := E.pre 6 rfl rfl
                refine step_plain rfl ?_
                refine op_val (v := .int .i64 N1) (w' := w') ?_ ⟨Below.refl _ _, rfl⟩
                have h85 := hN1
                have hcon := E.con
                clear E
                go_simp
              · intro ρ w' E
                have e0 : ρ (.tmp 0) = .slice (some ⟨bb, o, none⟩) N c := E.out 0 rfl
                refine step_plain rfl ?_
                exact op_move (.inl rfl) e0 ⟨Below.refl _ _, rfl⟩
              · intro ρ w' E
                have e9 : ρ (.tmp 9) = .int .i64 (k : Int) := E.out 9 rfl
                refine step_plain rfl ?_
                exact op_move (.inl rfl) e9 ⟨Below.refl _ _, rfl⟩
              · intro ρ w' E
                have e86 : ρ (.tmp 86) = .slice (some ⟨bb, o, none⟩) N c := E.pre 8 rfl rfl
                have e87 : ρ (.tmp 87) = .int .i64 (k : Int) := E.pre 9 rfl rfl
                refine step_plain rfl ?_
                refine op_val (v := .pointer (some ⟨bb, o + k * 6, none⟩)) (w' := w') ?_ ⟨Below.refl _ _, rfl⟩
                have hcon := E.con
                clear E
                go_simp
              · intro ρ w' E
                have e88 : ρ (.tmp 88) = .pointer (some ⟨bb, o + k * 6, none⟩) := E.pre 10 rfl rfl
                refine step_plain rfl ?_
                refine op_val (v := .pointer (some ⟨bb, o + k * 6 + 3, none⟩)) (w' := w') ?_ ⟨Below.refl _ _, rfl⟩
                have hcon := E.con
                clear E
                go_simp
              · intro ρ w' E
                have e89 : ρ (.tmp 89) = .pointer (some ⟨bb, o + k * 6 + 3, none⟩) := E.pre 11 rfl rfl
                refine step_plain rfl ?_
                refine op_val (v := .slice x.ka x.keep.length x.kc) (w' := w') ?_ ⟨Below.refl _ _, rfl⟩
                have hk := (World.cell?_of_block (w := w2) (E.below.block _ hlbw)).trans ((World.cell?_of_block (w := w) (a := ⟨bb, o + k * 6 + 3, none⟩) (HBr.out.block bb hlb)).trans q3)
                have hcon := E.con
                clear E 
                go_simp
              · intro ρ w' E
                have e0 : ρ (.tmp 0) = .slice (some ⟨bb, o, none⟩) N c := E.out 0 rfl
                refine step_plain rfl ?_
                exact op_move (.inl rfl) e0 ⟨Below.refl _ _, rfl⟩
              · intro ρ w' E
                have e9 : ρ (.tmp 9) = .int .i64 (k : Int) := E.out 9 rfl
                refine step_plain rfl ?_
                exact op_move (.inl rfl) e9 ⟨Below.refl _ _, rfl⟩
              · intro ρ w' E
                have e91 : ρ (.tmp 91) = .slice (some ⟨bb, o, none⟩) N c := E.pre 13 rfl rfl
                have e92 : ρ (.tmp 92) = .int .i64 (k : Int) := E.pre 14 rfl rfl
                refine step_plain rfl ?_
                refine op_val (v := .pointer (some ⟨bb, o + k * 6, none⟩)) (w' := w') ?_ ⟨Below.refl _ _, rfl⟩
                have hcon := E.con
                clear E
                go_simp
              · intro ρ w' E
                have e93 : ρ (.tmp 93) = .pointer (some ⟨bb, o + k * 6, none⟩) := E.pre 15 rfl rfl
                refine step_plain rfl ?_
                refine op_val (v := .pointer (some ⟨bb, o + k * 6 + 4, none⟩)) (w' := w') ?_ ⟨Below.refl _ _, rfl⟩
                have hcon := E.con
                clear E
                go_simp
              · intro ρ w' E
                have e94 : ρ (.tmp 94) = .pointer (some ⟨bb, o + k * 6 + 4, none⟩) := E.pre 16 rfl rfl
                refine step_plain rfl ?_
                refine op_val (v := .int .i64 x.torn) (w' := w') ?_ ⟨Below.refl _ _, rfl⟩
                have hk := (World.cell?_of_block (w := w2) (E.below.block _ hlbw)).trans ((World.cell?_of_block (w := w) (a := ⟨bb, o + k * 6 + 4, none⟩) (HBr.out.block bb hlb)).trans q4)
                have hcon := E.con
                clear E 
                go_simp
            · intro σ1 ρ1 w1c E1 O1 H1
              have e78 : ρ1 (.tmp 78) = .pointer (some ⟨pg, 0, none⟩) := E1.pre 0 rfl rfl
              have e85 : ρ1 (.tmp 85) = .int .i64 N1 := E1.pre 7 rfl rfl
              have e90 : ρ1 (.tmp 90) = .slice x.ka x.keep.length x.kc := E1.pre 12 rfl rfl
              have e95 : ρ1 (.tmp 95) = .int .i64 x.torn := E1.pre 17 rfl rfl
              refine step_plain rfl ?_
              refine op_call (f := 41) (args := #[.pointer (some ⟨pg, 0, none⟩), .int .i64 N1, .slice x.ka x.keep.length x.kc, .int .i64 x.torn]) (w' := w1c) (by have hcon := E1.con; have hfn := E1.fn; clear E1; go_simp) ?_
              refine ((HD.out.ext E1.below).arm N1 x.ka x.kc x.keep.length x.keep x.torn ((HD.out.ext E1.below).armArg Hok.out.2.1 (bthen HBr.out E1.below (Nat.le_refl _)) _) rfl (by omega) (by omega) hp1).mono ?_
              rintro e wA ⟨rfl, hdA, hmA⟩
              have hmE := (bmod E1.below (DF w.heap.size)).trans hmA
              refine ⟨_, rfl, ?_⟩
              refine stage_last [] ?_ ?_
              · refine stepsG_nil
              · intro σF wF GF OF HF
                clear OF HF E1
                simp only [upd, updL, dstsOf', elemB, List.filterMap_cons, List.filterMap_nil, Nat.reduceAdd, Nat.reduceBEq, Bool.or_false, Bool.false_or, Bool.or_true, Bool.true_or, cond_true, cond_false, Nat.zero_add]
                have HD3 := Lib.hid (hdA.ext GF)
                have hmF := hmE.ext GF
                have HT3 := Lib.hid (HT2.out.mod hmF fun b _ _ => DF_no_u8 b)
                have HM3 : Hid (Mod (SvF w.heap.size gs) w1 wF) := Lib.hid (HM2.out.trans (hmF.mono fun _ _ _ h => .inl h))
                have HS3 := Lib.hid (HS.out.df hmF)
                have HB3 := Lib.hid (HBr.out.trans (hmF.below (fun b T h => h.1) HBr.out.size))
                have HSz3 := Lib.hid hmF.size
                clear hdA hmE hmF GF HD HM2 HS HBr hN1 hp1 hlbw e2
                have hsz3 : w2.heap.size ≤ wF.heap.size := HSz3.out
                have hszw1 : w.heap.size ≤ w1.heap.size := Hszw1.out
                go_wp2_with fail
                refine (ssave_trip HD3.out HS3.out (by decide) (by decide) (by decide) Hoff1.out (Hlife.out.trans Hlf1.out.symm) HG.out Hsn.out (List.eq_nil_of_length_eq_zero (Nat.le_zero.1 HD3.out.pend)) (by omega) a11 c11 n10 b HT3.out.srcS Hbl.out (by omega) HT3.out.len.1).mono ?_
                rintro e w4 ⟨E4, d4, p4, rfl, hsv, hcase⟩
                have HD4 : Hid (DW (fun b => b < w1.heap.size ∨ w2.heap.size ≤ b) w.heap.size w4 g pg 300 d4 p4 119) := Lib.hid (hsv.dw.mono (fun _ _ hk => hk.imp id fun h => Nat.le_trans hsz3 h) (by omega))
                have Hl4 : Hid (d4.life = p4.life) := Lib.hid (hsv.dlife.trans (Hlife.out.trans (Hlf1.out.symm.trans hsv.plife.symm)))
                have Hq4 : Hid (p4.life = p.life) := Lib.hid (hsv.plife.trans Hlf1.out)
                have HM4 := Lib.hid (HM3.out.trans hsv.mod)
                have HT4 := Lib.hid (HT3.out.mod hsv.mod fun _ _ _ => SvF.no_u8 _)
                have HB4 := Lib.hid (HB3.out.trans (hsv.mod.below (SvF.base HS3.out.base) HB3.out.size))
                have Hgs := Lib.hid HS3.out.base
                have Hc4 := Lib.hid hcase
                clear hsv hcase HD3 HM3 HT3 HB3 HS3 Hoff1 Hlf1 HSz3
                go_wp2_with fail
                refine (bytes_at a11 c11 b a10 c10 b w4 n10 n10 true HT4.out.src (HO10.out.mod HM4.out fun _ _ _ => SvF.no_u8 _).src Hbl.out Hbl.out (by omega) (by omega) (by simp)).mono ?_
                rintro e w5 ⟨rfl, nn, rfl⟩
                have hbd := ext_drewN w4 nn w4.heap.size
                have HX5 := Lib.hid (bmod hbd (BF w1.heap.size w2.heap.size))
                have HD4' := Lib.hid (HD4.out.ext hbd)
                have HT4' := Lib.hid (HT4.out.ext hbd)
                have HM4' := Lib.hid (HM4.out.ext hbd)
                have HB4' := Lib.hid (bthen HB4.out hbd (Nat.le_refl _))
                clear hbd HD4 HT4 HM4 HB4
                have HD4 := HD4'
                have HT4 := HT4'
                have HM4 := HM4'
                have HB4 := HB4'
                clear HD4' HT4' HM4' HB4'
                generalize w4.drewN nn = w5 at *
                go_wp2_with fail
                refine (spoil_in HT2.out HT4.out Hbl.out (by omega)).mono ?_
                rintro e w6 ⟨rfl, hm6⟩
                have HX6 := Lib.hid (HX5.out.trans hm6)
                have HD6 := Lib.hid (HD4.out.bytes hm6 (fun _ _ h => h.2.2) (fun b hk hf => by have h1 := hf.1; have h2 := hf.2.1; rcases hk with hk | hk <;> omega))
                have HM6 := Lib.hid (HM4.out.andThen hm6 fun b T hb hf => by have := hf.1; omega)
                have HO6 := Lib.hid (HO10.out.mod HM6.out fun _ _ _ => SvF.no_u8 _)
                have HN6 := Lib.hid (HO.out.mod HM6.out fun _ _ _ => SvF.no_u8 _)
                have HB6 := Lib.hid (HB4.out.trans (hm6.below (fun b T h => Nat.le_trans hszw1 h.1) HB4.out.size))
                clear hm6 HX5 HD4 HM4 HM6 HB4 HT4 HT2 HO10 HO
                go_wp2_with fail
                rcases Hc4.out with ⟨rfl, hoff4, hpd4, hsn4, hG4, hs4, hso4⟩ | ⟨rfl, hoff4, hfut⟩
                · have HS6 := Lib.hid ((hso4.mod HX6.out (fun b T hf => by rw [hf.2.2]; decide) (fun b hb _ hf => by have := hf.2.1; omega)).sta (Nat.le_trans hszw1 (Nat.le_trans (by have := HSw2.out; omega) hsz3)) Hgs.out (by rw [← Hbl.out]; omega))
                  have Hoff4 := Lib.hid hoff4
                  have Hsn4 := Lib.hid hsn4
                  have Hpd4 := Lib.hid hpd4
                  have HG4 := Lib.hid hG4
                  refine (HD6.out.offP Hoff4.out).mono ?_
                  rintro e w7 ⟨rfl, rfl⟩
                  clear Hc4 hoff4 hpd4 hsn4 hG4 hs4 hso4 HX6
                  go_wp2_with fail
                  refine (HD6.out.arm 0 none 0 0 [] (-1) (Src.nil _ _) rfl (by decide) (by decide) (p' := p4.arm 0 [] (-1)) rfl).mono ?_
                  rintro e w7 ⟨rfl, hd7, hm7⟩
                  have HD7 : Hid (DW (fun _ => True) w.heap.size w7 g pg 300 d4 (p4.arm 0 [] (-1)) 119) := Lib.hid (hd7.mono (fun _ _ _ => trivial) (by omega))
                  have HS7 := Lib.hid (HS6.out.df hm7)
                  have HO7 := Lib.hid (HO6.out.mod hm7 fun b _ _ => DF_no_u8 b)
                  have HB7 := Lib.hid (HB6.out.trans (hm7.below (fun b T h => h.1) HB6.out.size))
                  have hwc : IntKind.i64.wrap ((cnt : Int) + 1) = (cnt : Int) + 1 := by rw [IntKind.wrap_i64]; omega
                  clear hd7 hm7 HD6 HS6 HO6 HB6 HN6
                  go_wp2_with fail
                  refine (sstate_any HS7.out Hbl.out.symm).mono ?_
                  rintro e w8 ⟨a8, c8, rfl, ho8, hb8⟩
                  have HP8 := Lib.hid ho8
                  have HQ8 := Lib.hid ho8
                  have HZ8 := Lib.hid (bmod hb8 (fun _ _ => False))
                  have HS8 := Lib.hid (HS7.out.ext hb8)
                  clear ho8 hb8
                  go_wp2_with fail
                  refine (bytes_at a8 c8 b a10 c10 b w8 n10 n10 true HP8.out.src (HO7.out.mod HZ8.out fun _ _ _ h => h).src Hbl.out Hbl.out (by omega) (by omega) (by simp)).mono ?_
                  rintro e w9 ⟨rfl, nn, rfl⟩
                  have hbd := ext_drewN w8 nn w8.heap.size
                  have HQ8' := Lib.hid (HQ8.out.ext hbd)
                  have HZ8' := Lib.hid (HZ8.out.ext hbd)
                  have HS8' := Lib.hid (HS8.out.ext hbd)
                  clear hbd HQ8 HZ8 HS8
                  have HQ8 := HQ8'
                  have HZ8 := HZ8'
                  have HS8 := HS8'
                  clear HQ8' HZ8' HS8'
                  generalize w8.drewN nn = w9 at *
                  go_wp2_with fail
                  refine (scount_any HS8.out).mono ?_
                  rintro e wA ⟨rfl, rfl⟩
                  go_wp2_with fail
                  refine (spoil_in HP8.out HQ8.out Hbl.out (by omega)).mono ?_
                  rintro e wA ⟨rfl, hmA⟩
                  have hZ := HZ8.out.andThen hmA fun b T hb hf => by have := hf.1; omega
                  have HSA := Lib.hid (HS7.out.mod hZ (fun _ _ h => h.elim) fun _ _ _ h => h)
                  have HDA := Lib.hid (HD7.out.bytes hZ (fun _ _ h => h.elim) fun _ _ h => h)
                  have HOA := Lib.hid (HO7.out.mod hZ fun _ _ _ h => h)
                  have HBA := Lib.hid (HB7.out.trans (hZ.below (fun _ _ h => h.elim) HB7.out.size))
                  clear hmA hZ HP8 HQ8 HZ8 HS8 HS7 HD7 HO7 HB7
                  go_wp2_with fail
                  refine (sstate_any HSA.out Hbl.out.symm).mono ?_
                  rintro e wB ⟨aB, cB, rfl, hoB, hbB⟩
                  have HPB := Lib.hid hoB
                  clear hoB
                  have HSA' := Lib.hid (HSA.out.ext hbB)
                  have HDA' := Lib.hid (HDA.out.ext hbB)
                  have HOA' := Lib.hid (HOA.out.ext hbB)
                  have HBA' := Lib.hid (bthen HBA.out hbB (Nat.le_refl _))
                  clear hbB HSA HDA HOA HBA
                  have HSA := HSA'
                  have HDA := HDA'
                  have HOA := HOA'
                  have HBA := HBA'
                  clear HSA' HDA' HOA' HBA'
                  go_wp2_with fail
                  refine (bytes_at aB cB b a10 c10 b wB n10 n10 true HPB.out.src HOA.out.src Hbl.out Hbl.out (by omega) (by omega) (by simp)).mono ?_
                  rintro e wC ⟨rfl, nn, rfl⟩
                  have hbd := ext_drewN wB nn wB.heap.size
                  clear HPB
                  have HSA' := Lib.hid (HSA.out.ext hbd)
                  have HDA' := Lib.hid (HDA.out.ext hbd)
                  have HOA' := Lib.hid (HOA.out.ext hbd)
                  have HBA' := Lib.hid (bthen HBA.out hbd (Nat.le_refl _))
                  clear hbd HSA HDA HOA HBA
                  have HSA := HSA'
                  have HDA := HDA'
                  have HOA := HOA'
                  have HBA := HBA'
                  clear HSA' HDA' HOA' HBA'
                  generalize wB.drewN nn = wC at *
                  go_wp2_with fail
                  go_roundw
                  case rel => exact ⟨k + 1, d4, p4.arm 0 [] (-1), b, cnt + 1, gs, a10, n10, c10, _, rfl, by omega, rfl, rfl, Hbl.out, by go_num, by go_num, by omega, HDA.out.zero Hpd4.out, Hoff4.out, Hl4.out, by have h1 := Hpl.out; have h2 : (p4.arm 0 [] (-1)).life = p.life := Hq4.out; omega, HG4.out, Hsn4.out, HSA.out, HOA.out, HBA.out⟩
                  case measure => simp [intOf]; omega
                · have Hoff4 := Lib.hid hoff4
                  have HFut : Hid (Fut d4 s b cnt) := Lib.hid hfut
                  refine (HD6.out.offP Hoff4.out).mono ?_
                  rintro e w7 ⟨rfl, rfl⟩
                  clear Hc4 hoff4 hfut HX6
                  have HD6 : Hid (DW (fun _ => True) w.heap.size w6 g pg 300 d4 p4 119) := Lib.hid (HD6.out.mono (fun _ _ _ => trivial) (Nat.le_refl _))
                  have Hlf4 : Hid (d4.life ≤ p4.life) := Lib.hid (by rw [Hl4.out]; omega)
                  have Hpl4 : Hid (0 ≤ p4.life ∧ p4.life ≤ 10 * (k : Int)) := Lib.hid (by rw [Hq4.out]; exact Hpl.out)
                  clear Hl4 Hq4
                  go_wp2_with fail
                  go_loopw [14] (fun i wx => ∃ (j : Nat) (d5 : DS) (p5 : PS) (wz : World), wz = wx ∧ j ≤ x.again.length ∧ i = .int .i64 (j : Int) ∧ DW (fun _ => True) w.heap.size wz g pg 300 d5 p5 119 ∧ p5.off = true ∧ Fut d5 s b cnt ∧ d5.life ≤ p5.life ∧ (0 ≤ p5.life ∧ p5.life ≤ 10 * (k : Int) + (j : Int)) ∧ Own wz w.heap.size 5 1 a10 n10 c10 (bvs b) ∧ Own wz w.heap.size 5 1 a7 n7 c7 (bvs s) ∧ Below w.heap.size w wz) (fun i _ => x.again.length - (intOf i).toNat)
                  case atStart => exact ⟨0, d4, p4, _, rfl, by omega, rfl, HD6.out, Hoff4.out, HFut.out, Hlf4.out, by have := Hpl4.out; omega, HO6.out, HN6.out, HB6.out⟩
                  case round =>
                    obtain ⟨j, d5, p5, wz, hwz, hj, rfl, hD, hoff5, hfut, hlf5, hpl5, hO, hN, hbz⟩ := hrel
                    subst hwz
                    have HDz := Lib.hid hD
                    have Hoff5 := Lib.hid hoff5
                    have HFut5 := Lib.hid hfut
                    have Hlf5 := Lib.hid hlf5
                    have Hpl5 := Lib.hid hpl5
                    have HOz := Lib.hid hO
                    have HNz := Lib.hid hN
                    have HBz := Lib.hid hbz
                    clear hD hoff5 hfut hlf5 hpl5 hO hN hbz HD6 Hoff4 HFut Hlf4 Hpl4 HO6 HN6 HB6
                    have e5 := (World.cell?_of_block (w := w) (a := ⟨bb, o + k * 6 + 5, none⟩) (HBz.out.block bb hlb)).trans q5
                    by_cases hjl : j < x.again.length
                    · obtain ⟨gb, go, hga, hgb, hgat⟩ := src_ints_at Hok.out.2.2 hjl
                      have hzj := hgat j hjl
                      obtain ⟨z, hz⟩ : ∃ z, z = x.again[j] := ⟨_, rfl⟩
                      rw [← hz] at hzj
                      rw [hga] at q5 e5
                      clear hgat hz hga
                      obtain ⟨kk, hkk, ek0⟩ := umod z 20 (by decide) (by decide)
                      have ek : IntKind.i64.wrap ((IntKind.u64.wrap z).tmod 20) = (kk : Int) := by rw [IntKind.wrap_i64]; unfold wrap64 at ek0; exact ek0
                      clear ek0
                      obtain ⟨N1, hN1, hN1b⟩ : ∃ N1 : Int, IntKind.i64.wrap (1 + (kk : Int)) = N1 ∧ N1 ≤ 9223372036854775807 := ⟨_, rfl, by rw [IntKind.wrap_i64]; omega⟩
                      go_wp2_with fail
                      have hon := start_on p5 Hoff5.out
                      refine (HDz.out.start Hpl5.out.1 (by have := Hpl5.out.2; omega) (p' := p5.start) rfl).mono ?_
                      rintro e w7 ⟨rfl, hd7, hm7⟩
                      have HD7 := Lib.hid hd7
                      have HO7 := Lib.hid (HOz.out.mod hm7 fun b _ _ => DF_no_u8 b)
                      have HN7 := Lib.hid (HNz.out.mod hm7 fun b _ _ => DF_no_u8 b)
                      have HB7 := Lib.hid (HBz.out.trans (hm7.below (fun b T h => h.1) HBz.out.size))
                      have Hon := Lib.hid hon
                      clear hd7 hm7 HDz HOz HNz HBz e5 hon
                      have hzc := (World.cell?_of_block (w := w) (a := ⟨gb, go + j, none⟩) (HB7.out.block gb hgb)).trans hzj
                      have hgbw : gb < w7.heap.size := Nat.lt_of_lt_of_le hgb HB7.out.size
                      have hlbw : bb < w7.heap.size := Nat.lt_of_lt_of_le hlb HB7.out.size
                      obtain ⟨p7, hp7⟩ : ∃ p7, p5.start.arm N1 x.keep x.torn = p7 := ⟨_, rfl⟩
                      have Hoff7 : Hid (p7.off = false) := Lib.hid (by rw [← hp7]; exact Hon.out.1)
                      have Hlf7 : Hid (p7.life = p5.life + 1) := Lib.hid (by rw [← hp7]; exact Hon.out.2)
                      go_wp2_with fail
                      refine wp_region_phase (by kernel_rfl) [23] (by kernel_rfl) (by kernel_rfl) ?_
                      refine stage_more [Sp.eq (.pointer (some ⟨pg, 0, none⟩)), Sp.eq (.slice (some ⟨bb, o, none⟩) N c), Sp.eq (.int .i64 (k : Int)), Sp.eq (.pointer (some ⟨bb, o + k * 6, none⟩)), Sp.eq (.pointer (some ⟨bb, o + k * 6 + 5, none⟩)), Sp.eq (.slice (some ⟨gb, go, none⟩) x.again.length x.gc), Sp.eq (.int .i64 (j : Int)), Sp.eq (.pointer (some ⟨gb, go + j, none⟩)), Sp.eq (.int .i64 z), Sp.eq (.int .u64 (IntKind.u64.wrap z)), Sp.eq (.int .u64 ((IntKind.u64.wrap z).tmod 20)), Sp.eq (.int .i64 (kk : Int)), Sp.eq (.int .i64 N1), Sp.eq (.slice (some ⟨bb, o, none⟩) N c), Sp.eq (.int .i64 (k : Int)), Sp.eq (.pointer (some ⟨bb, o + k * 6, none⟩)), Sp.eq (.pointer (some ⟨bb, o + k * 6 + 3, none⟩)), Sp.eq (.slice x.ka x.keep.length x.kc), Sp.eq (.slice (some ⟨bb, o, none⟩) N c), Sp.eq (.int .i64 (k : Int)), Sp.eq (.pointer (some ⟨bb, o + k * 6, none⟩)), Sp.eq (.pointer (some ⟨bb, o + k * 6 + 4, none⟩)), Sp.eq (.int .i64 x.torn)] rfl ?_ ?_
                      · refine stepsG_cons ?_ (stepsG_cons ?_ (stepsG_cons ?_ (stepsG_cons ?_ (stepsG_cons ?_ (stepsG_cons ?_ (stepsG_cons ?_ (stepsG_cons ?_ (stepsG_cons ?_ (stepsG_cons ?_ (stepsG_cons ?_ (stepsG_cons ?_ (stepsG_cons ?_ (stepsG_cons ?_ (stepsG_cons ?_ (stepsG_cons ?_ (stepsG_cons ?_ (stepsG_cons ?_ (stepsG_cons ?_ (stepsG_cons ?_ (stepsG_cons ?_ (stepsG_cons ?_ (stepsG_cons ?_ (stepsG_nil)))))))))))))))))))))))
                        · intro ρ w' E
                          have e3 : ρ (.tmp 3) = .pointer (some ⟨pg, 0, none⟩) := E.out 3 rfl
                          refine step_plain rfl ?_
                          exact op_move (.inl rfl) e3 ⟨Below.refl _ _, rfl⟩
                        · intro ρ w' E
                          have e0 : ρ (.tmp 0) = .slice (some ⟨bb, o, none⟩) N c := E.out 0 rfl
                          refine step_plain rfl ?_
                          exact op_move (.inl rfl) e0 ⟨Below.refl _ _, rfl⟩
                        · intro ρ w' E
                          have e9 : ρ (.tmp 9) = .int .i64 (k : Int) := E.out 9 rfl
                          refine step_plain rfl ?_
                          exact op_move (.inl rfl) e9 ⟨Below.refl _ _, rfl⟩
                        · intro ρ w' E
                          have e158 : ρ (.tmp 158) = .slice (some ⟨bb, o, none⟩) N c := E.pre 1 rfl rfl
                          have e159 : ρ (.tmp 159) = .int .i64 (k : Int) := E.pre 2 rfl rfl
                          refine step_plain rfl ?_
                          refine op_val (v := .pointer (some ⟨bb, o + k * 6, none⟩)) (w' := w') ?_ ⟨Below.refl _ _, rfl⟩
                          have hcon := E.con
                          clear E
                          go_simp
                        · intro ρ w' E
                          have e160 : ρ (.tmp 160) = .pointer (some ⟨bb, o + k * 6, none⟩) := E.pre 3 rfl rfl
                          refine step_plain rfl ?_
                          refine op_val (v := .pointer (some ⟨bb, o + k * 6 + 5, none⟩)) (w' := w') ?_ ⟨Below.refl _ _, rfl⟩
                          have hcon := E.con
                          clear E
                          go_simp
                        · intro ρ w' E
                          have e161 : ρ (.tmp 161) = .pointer (some ⟨bb, o + k * 6 + 5, none⟩) := E.pre 4 rfl rfl
                          refine step_plain rfl ?_
                          refine op_val (v := .slice (some ⟨gb, go, none⟩) x.again.length x.gc) (w' := w') ?_ ⟨Below.refl _ _, rfl⟩
                          have hk := (World.cell?_of_block (w := w7) (E.below.block _ hlbw)).trans ((World.cell?_of_block (w := w) (a := ⟨bb, o + k * 6 + 5, none⟩) (HB7.out.block bb hlb)).trans q5)
                          have hcon := E.con
                          clear E 
                          go_simp
                        · intro ρ w' E
                          have e14 : ρ (.tmp 14) = .int .i64 (j : Int) := E.out 14 rfl
                          refine step_plain rfl ?_
                          exact op_move (.inl rfl) e14 ⟨Below.refl _ _, rfl⟩
                        · intro ρ w' E
                          have e162 : ρ (.tmp 162) = .slice (some ⟨gb, go, none⟩) x.again.length x.gc := E.pre 5 rfl rfl
                          have e163 : ρ (.tmp 163) = .int .i64 (j : Int) := E.pre 6 rfl rfl
                          refine step_plain rfl ?_
                          refine op_val (v := .pointer (some ⟨gb, go + j, none⟩)) (w' := w') ?_ ⟨Below.refl _ _, rfl⟩
                          have hcon := E.con
                          clear E
                          go_simp
                        · intro ρ w' E
                          have e164 : ρ (.tmp 164) = .pointer (some ⟨gb, go + j, none⟩) := E.pre 7 rfl rfl
                          refine step_plain rfl ?_
                          refine op_val (v := .int .i64 z) (w' := w') ?_ ⟨Below.refl _ _, rfl⟩
                          have hk := (World.cell?_of_block (w := w7) (E.below.block _ hgbw)).trans hzc
                          have hcon := E.con
                          clear E 
                          go_simp
                        · intro ρ w' E
                          have e165 : ρ (.tmp 165) = .int .i64 z := E.pre 8 rfl rfl
                          refine step_plain rfl ?_
                          refine op_val (v := .int .u64 (IntKind.u64.wrap z)) (w' := w') ?_ ⟨Below.refl _ _, rfl⟩
                          have hcon := E.con
                          clear E
                          go_simp
                        · intro ρ w' E
                          have e166 : ρ (.tmp 166) = .int .u64 (IntKind.u64.wrap z) := E.pre 9 rfl rfl
                          refine step_plain rfl ?_
                          refine op_val (v := .int .u64 ((IntKind.u64.wrap z).tmod 20)) (w' := w') ?_ ⟨Below.refl _ _, rfl⟩
                          have hcon := E.con
                          clear E
                          go_simp
                        · intro ρ w' E
                          have e167 : ρ (.tmp 167) = .int .u64 ((IntKind.u64.wrap z).tmod 20) := E.pre 10 rfl rfl
                          refine step_plain rfl ?_
                          refine op_val (v := .int .i64 (kk : Int)) (w' := w') ?_ ⟨Below.refl _ _, rfl⟩
                          have hek := ek
                          have hcon := E.con
                          clear E
                          go_simp
                        · intro ρ w' E
                          have e168 : ρ (.tmp 168) = .int .i64 (kk : Int) := E.pre 11 rfl rfl
                          refine step_plain rfl ?_
                          refine op_val (v := .int .i64 N1) (w' := w') ?_ ⟨Below.refl _ _, rfl⟩
                          have h85 := hN1
                          have hcon := E.con
                          clear E
                          go_simp
                        · intro ρ w' E
                          have e0 : ρ (.tmp 0) = .slice (some ⟨bb, o, none⟩) N c := E.out 0 rfl
                          refine step_plain rfl ?_
                          exact op_move (.inl rfl) e0 ⟨Below.refl _ _, rfl⟩
                        · intro ρ w' E
                          have e9 : ρ (.tmp 9) = .int .i64 (k : Int) := E.out 9 rfl
                          refine step_plain rfl ?_
                          exact op_move (.inl rfl) e9 ⟨Below.refl _ _, rfl⟩
                        · intro ρ w' E
                          have e170 : ρ (.tmp 170) = .slice (some ⟨bb, o, none⟩) N c := E.pre 13 rfl rfl
                          have e171 : ρ (.tmp 171) = .int .i64 (k : Int) := E.pre 14 rfl rfl
                          refine step_plain rfl ?_
                          refine op_val (v := .pointer (some ⟨bb, o + k * 6, none⟩)) (w' := w') ?_ ⟨Below.refl _ _, rfl⟩
                          have hcon := E.con
                          clear E
                          go_simp
                        · intro ρ w' E
                          have e172 : ρ (.tmp 172) = .pointer (some ⟨bb, o + k * 6, none⟩) := E.pre 15 rfl rfl
                          refine step_plain rfl ?_
                          refine op_val (v := .pointer (some ⟨bb, o + k * 6 + 3, none⟩)) (w' := w') ?_ ⟨Below.refl _ _, rfl⟩
                          have hcon := E.con
                          clear E
                          go_simp
                        · intro ρ w' E
                          have e173 : ρ (.tmp 173) = .pointer (some ⟨bb, o + k * 6 + 3, none⟩) := E.pre 16 rfl rfl
                          refine step_plain rfl ?_
                          refine op_val (v := .slice x.ka x.keep.length x.kc) (w' := w') ?_ ⟨Below.refl _ _, rfl⟩
                          have hk := (World.cell?_of_block (w := w7) (E.below.block _ hlbw)).trans ((World.cell?_of_block (w := w) (a := ⟨bb, o + k * 6 + 3, none⟩) (HB7.out.block bb hlb)).trans q3)
                          have hcon := E.con
                          clear E 
                          go_simp
                        · intro ρ w' E
                          have e0 : ρ (.tmp 0) = .slice (some ⟨bb, o, none⟩) N c := E.out 0 rfl
                          refine step_plain rfl ?_
                          exact op_move (.inl rfl) e0 ⟨Below.refl _ _, rfl⟩
                        · intro ρ w' E
                          have e9 : ρ (.tmp 9) = .int .i64 (k : Int) := E.out 9 rfl
                          refine step_plain rfl ?_
                          exact op_move (.inl rfl) e9 ⟨Below.refl _ _, rfl⟩
                        · intro ρ w' E
                          have e175 : ρ (.tmp 175) = .slice (some ⟨bb, o, none⟩) N c := E.pre 18 rfl rfl
                          have e176 : ρ (.tmp 176) = .int .i64 (k : Int) := E.pre 19 rfl rfl
                          refine step_plain rfl ?_
                          refine op_val (v := .pointer (some ⟨bb, o + k * 6, none⟩)) (w' := w') ?_ ⟨Below.refl _ _, rfl⟩
                          have hcon := E.con
                          clear E
                          go_simp
                        · intro ρ w' E
                          have e177 : ρ (.tmp 177) = .pointer (some ⟨bb, o + k * 6, none⟩) := E.pre 20 rfl rfl
                          refine step_plain rfl ?_
                          refine op_val (v := .pointer (some ⟨bb, o + k * 6 + 4, none⟩)) (w' := w') ?_ ⟨Below.refl _ _, rfl⟩
                          have hcon := E.con
                          clear E
                          go_simp
                        · intro ρ w' E
                          have e178 : ρ (.tmp 178) = .pointer (some ⟨bb, o + k * 6 + 4, none⟩) := E.pre 21 rfl rfl
                          refine step_plain rfl ?_
                          refine op_val (v := .int .i64 x.torn) (w' := w') ?_ ⟨Below.refl _ _, rfl⟩
                          have hk := (World.cell?_of_block (w := w7) (E.below.block _ hlbw)).trans ((World.cell?_of_block (w := w) (a := ⟨bb, o + k * 6 + 4, none⟩) (HB7.out.block bb hlb)).trans q4)
                          have hcon := E.con
                          clear E 
                          go_simp
                      · intro σ1 ρ1 w1c E1 O1 H1
                        have e157 : ρ1 (.tmp 157) = .pointer (some ⟨pg, 0, none⟩) := E1.pre 0 rfl rfl
                        have e169 : ρ1 (.tmp 169) = .int .i64 N1 := E1.pre 12 rfl rfl
                        have e174 : ρ1 (.tmp 174) = .slice x.ka x.keep.length x.kc := E1.pre 17 rfl rfl
                        have e179 : ρ1 (.tmp 179) = .int .i64 x.torn := E1.pre 22 rfl rfl
                        refine step_plain rfl ?_
                        refine op_call (f := 41) (args := #[.pointer (some ⟨pg, 0, none⟩), .int .i64 N1, .slice x.ka x.keep.length x.kc, .int .i64 x.torn]) (w' := w1c) (by have hcon := E1.con; have hfn := E1.fn; clear E1; go_simp) ?_
                        refine ((HD7.out.ext E1.below).arm N1 x.ka x.kc x.keep.length x.keep x.torn ((HD7.out.ext E1.below).armArg Hok.out.2.1 (bthen HB7.out E1.below (Nat.le_refl _)) _) rfl (by omega) (by omega) hp7).mono ?_
                        rintro e wA ⟨rfl, hdA, hmA⟩
                        have hmE := (bmod E1.below (DF w.heap.size)).trans hmA
                        refine ⟨_, rfl, ?_⟩
                        refine stage_last [] ?_ ?_
                        · refine stepsG_nil
                        · intro σF wF GF OF HF
                          clear OF HF E1
                          simp only [upd, updL, dstsOf', elemB, List.filterMap_cons, List.filterMap_nil, Nat.reduceAdd, Nat.reduceBEq, Bool.or_false, Bool.false_or, Bool.or_true, Bool.true_or, cond_true, cond_false, Nat.zero_add]
                          have HD8 := Lib.hid (hdA.ext GF)
                          have hmF := hmE.ext GF
                          have HO8 := Lib.hid (HO7.out.mod hmF fun b _ _ => DF_no_u8 b)
                          have HN8 := Lib.hid (HN7.out.mod hmF fun b _ _ => DF_no_u8 b)
                          have HB8 := Lib.hid (HB7.out.trans (hmF.below (fun b T h => h.1) HB7.out.size))
                          clear hdA hmE hmF GF HD7 HO7 HN7 HB7 hzc hgbw hlbw ek hN1 hp7
                          go_wp2_with fail
                          obtain ⟨s', c', hg, hback⟩ : ∃ s' c', Good (applyP p7 0 d5.pend d5.safe) s' c' ∧ ∀ S, Good S s' c' → Good S s cnt ∨ Good S b (cnt + 1) := by
                            rcases HFut5.out p7 with h | h
                            · exact ⟨_, _, h, fun _ h => .inl h⟩
                            · exact ⟨_, _, h, fun _ h => .inr h⟩
                          refine (sopen_woken HD8.out (by decide) (by decide) (by decide) Hoff7.out (by rw [Hlf7.out]; have := Hlf5.out; omega) hg).mono ?_
                          rintro e w9 ⟨gs9, d9, rfl, _, hd9, hl9, hG9, hs9, hpd9, hm9⟩
                          have HD9 := Lib.hid hd9
                          have HFut9 := Lib.hid (Fut.still hpd9 hs9 (hback _ hG9))
                          have Hl9 := Lib.hid hl9
                          have HO9 := Lib.hid (HO8.out.mod hm9 fun b _ _ => DF_no_u8 b)
                          have HN9 := Lib.hid (HN8.out.mod hm9 fun b _ _ => DF_no_u8 b)
                          have HB9 := Lib.hid (HB8.out.trans (hm9.below (fun b T h => h.1) HB8.out.size))
                          clear hd9 hl9 hG9 hs9 hpd9 hm9 hg hback HD8 HO8 HN8 HB8
                          have hlbw : bb < w9.heap.size := Nat.lt_of_lt_of_le hlb HB9.out.size
                          go_wp2_with fail
                          refine wp_region_phase (by kernel_rfl) [11] (by kernel_rfl) (by kernel_rfl) ?_
                          refine stage_more [Sp.eq (.pointer (some ⟨pg, 0, none⟩)), Sp.eq (.slice (some ⟨bb, o, none⟩) N c), Sp.eq (.int .i64 (k : Int)), Sp.eq (.pointer (some ⟨bb, o + k * 6, none⟩)), Sp.eq (.pointer (some ⟨bb, o + k * 6 + 3, none⟩)), Sp.eq (.slice x.ka x.keep.length x.kc), Sp.eq (.slice (some ⟨bb, o, none⟩) N c), Sp.eq (.int .i64 (k : Int)), Sp.eq (.pointer (some ⟨bb, o + k * 6, none⟩)), Sp.eq (.pointer (some ⟨bb, o + k * 6 + 4, none⟩)), Sp.eq (.int .i64 x.torn)] rfl ?_ ?_
                          · refine stepsG_cons ?_ (stepsG_cons ?_ (stepsG_cons ?_ (stepsG_cons ?_ (stepsG_cons ?_ (stepsG_cons ?_ (stepsG_cons ?_ (stepsG_cons ?_ (stepsG_cons ?_ (stepsG_cons ?_ (stepsG_cons ?_ (stepsG_nil)))))))))))
                            · intro ρ w' E
                              have e3 : ρ (.tmp 3) = .pointer (some ⟨pg, 0, none⟩) := E.out 3 rfl
                              refine step_plain rfl ?_
                              exact op_move (.inl rfl) e3 ⟨Below.refl _ _, rfl⟩
                            · intro ρ w' E
                              have e0 : ρ (.tmp 0) = .slice (some ⟨bb, o, none⟩) N c := E.out 0 rfl
                              refine step_plain rfl ?_
                              exact op_move (.inl rfl) e0 ⟨Below.refl _ _, rfl⟩
                            · intro ρ w' E
                              have e9 : ρ (.tmp 9) = .int .i64 (k : Int) := E.out 9 rfl
                              refine step_plain rfl ?_
                              exact op_move (.inl rfl) e9 ⟨Below.refl _ _, rfl⟩
                            · intro ρ w' E
                              have e184 : ρ (.tmp 184) = .slice (some ⟨bb, o, none⟩) N c := E.pre 1 rfl rfl
                              have e185 : ρ (.tmp 185) = .int .i64 (k : Int) := E.pre 2 rfl rfl
                              refine step_plain rfl ?_
                              refine op_val (v := .pointer (some ⟨bb, o + k * 6, none⟩)) (w' := w') ?_ ⟨Below.refl _ _, rfl⟩
                              have hcon := E.con
                              clear E
                              go_simp
                            · intro ρ w' E
                              have e186 : ρ (.tmp 186) = .pointer (some ⟨bb, o + k * 6, none⟩) := E.pre 3 rfl rfl
                              refine step_plain rfl ?_
                              refine op_val (v := .pointer (some ⟨bb, o + k * 6 + 3, none⟩)) (w' := w') ?_ ⟨Below.refl _ _, rfl⟩
                              have hcon := E.con
                              clear E
                              go_simp
                            · intro ρ w' E
                              have e187 : ρ (.tmp 187) = .pointer (some ⟨bb, o + k * 6 + 3, none⟩) := E.pre 4 rfl rfl
                              refine step_plain rfl ?_
                              refine op_val (v := .slice x.ka x.keep.length x.kc) (w' := w') ?_ ⟨Below.refl _ _, rfl⟩
                              have hk := (World.cell?_of_block (w := w9) (E.below.block _ hlbw)).trans ((World.cell?_of_block (w := w) (a := ⟨bb, o + k * 6 + 3, none⟩) (HB9.out.block bb hlb)).trans q3)
                              have hcon := E.con
                              clear E 
                              go_simp
                            · intro ρ w' E
                              have e0 : ρ (.tmp 0) = .slice (some ⟨bb, o, none⟩) N c := E.out 0 rfl
                              refine step_plain rfl ?_
                              exact op_move (.inl rfl) e0 ⟨Below.refl _ _, rfl⟩
                            · intro ρ w' E
                              have e9 : ρ (.tmp 9) = .int .i64 (k : Int) := E.out 9 rfl
                              refine step_plain rfl ?_
                              exact op_move (.inl rfl) e9 ⟨Below.refl _ _, rfl⟩
                            · intro ρ w' E
                              have e189 : ρ (.tmp 189) = .slice (some ⟨bb, o, none⟩) N c := E.pre 6 rfl rfl
                              have e190 : ρ (.tmp 190) = .int .i64 (k : Int) := E.pre 7 rfl rfl
                              refine step_plain rfl ?_
                              refine op_val (v := .pointer (some ⟨bb, o + k * 6, none⟩)) (w' := w') ?_ ⟨Below.refl _ _, rfl⟩
                              have hcon := E.con
                              clear E
                              go_simp
                            · intro ρ w' E
                              have e191 : ρ (.tmp 191) = .pointer (some ⟨bb, o + k * 6, none⟩) := E.pre 8 rfl rfl
                              refine step_plain rfl ?_
                              refine op_val (v := .pointer (some ⟨bb, o + k * 6 + 4, none⟩)) (w' := w') ?_ ⟨Below.refl _ _, rfl⟩
                              have hcon := E.con
                              clear E
                              go_simp
                            · intro ρ w' E
                              have e192 : ρ (.tmp 192) = .pointer (some ⟨bb, o + k * 6 + 4, none⟩) := E.pre 9 rfl rfl
                              refine step_plain rfl ?_
                              refine op_val (v := .int .i64 x.torn) (w' := w') ?_ ⟨Below.refl _ _, rfl⟩
                              have hk := (World.cell?_of_block (w := w9) (E.below.block _ hlbw)).trans ((World.cell?_of_block (w := w) (a := ⟨bb, o + k * 6 + 4, none⟩) (HB9.out.block bb hlb)).trans q4)
                              have hcon := E.con
                              clear E 
                              go_simp
                          · intro σ1 ρ1 w1c E1 O1 H1
                            have e183 : ρ1 (.tmp 183) = .pointer (some ⟨pg, 0, none⟩) := E1.pre 0 rfl rfl
                            have e188 : ρ1 (.tmp 188) = .slice x.ka x.keep.length x.kc := E1.pre 5 rfl rfl
                            have e193 : ρ1 (.tmp 193) = .int .i64 x.torn := E1.pre 10 rfl rfl
                            refine step_plain rfl ?_
                            refine op_call (f := 35) (args := #[.pointer (some ⟨pg, 0, none⟩), .slice x.ka x.keep.length x.kc, .int .i64 x.torn]) (w' := w1c) (by have hcon := E1.con; have hfn := E1.fn; clear E1; go_simp) ?_
                            refine ((HD9.out.ext E1.below).cut x.ka x.kc x.keep.length x.keep x.torn (Hok.out.2.1.ext (bthen HB9.out E1.below (Nat.le_refl _))) rfl (by omega) rfl).mono ?_
                            rintro e wA ⟨rfl, hdA, hmA⟩
                            have hmE := (bmod E1.below (DF w.heap.size)).trans hmA
                            refine ⟨_, rfl, ?_⟩
                            refine stage_last [] ?_ ?_
                            · refine stepsG_nil
                            · intro σF wF GF OF HF
                              clear OF HF E1
                              simp only [upd, updL, dstsOf', elemB, List.filterMap_cons, List.filterMap_nil, Nat.reduceAdd, Nat.reduceBEq, Bool.or_false, Bool.false_or, Bool.or_true, Bool.true_or, cond_true, cond_false, Nat.zero_add]
                              have HDA := Lib.hid (hdA.ext GF)
                              have hmF := hmE.ext GF
                              have HOA := Lib.hid (HO9.out.mod hmF fun b _ _ => DF_no_u8 b)
                              have HNA := Lib.hid (HN9.out.mod hmF fun b _ _ => DF_no_u8 b)
                              have HBA := Lib.hid (HB9.out.trans (hmF.below (fun b T h => h.1) HB9.out.size))
                              clear hdA hmE hmF GF HD9 HO9 HN9 HB9 hlbw
                              go_wp2_with fail
                              go_roundw
                              case rel => exact ⟨j + 1, d9, _, _, rfl, by omega, by go_num, HDA.out.mono (fun _ _ _ => trivial) (by omega), (cut_off p7 _ _).1, HFut9.out, by rw [(cut_off p7 _ _).2, Hl9.out]; omega, by rw [(cut_off p7 _ _).2, Hlf7.out]; have := Hpl5.out; omega, HOA.out, HNA.out, HBA.out⟩
                              case measure => simp [intOf]; omega
                    · obtain hjl : j = x.again.length := by omega
                      have hj4 : (j : Int) ≤ 4 := by omega
                      go_wp2_with fail
                      have hon := start_on p5 Hoff5.out
                      refine (HDz.out.start Hpl5.out.1 (by have := Hpl5.out.2; omega) (p' := p5.start) rfl).mono ?_
                      rintro e w7 ⟨rfl, hd7, hm7⟩
                      have HD7 := Lib.hid hd7
                      have HO7 := Lib.hid (HOz.out.mod hm7 fun b _ _ => DF_no_u8 b)
                      have HN7 := Lib.hid (HNz.out.mod hm7 fun b _ _ => DF_no_u8 b)
                      have HB7 := Lib.hid (HBz.out.trans (hm7.below (fun b T h => h.1) HBz.out.size))
                      have Hon := Lib.hid hon
                      have hwc : IntKind.i64.wrap ((cnt : Int) + 1) = (cnt : Int) + 1 := by rw [IntKind.wrap_i64]; omega
                      clear hd7 hm7 HDz HOz HNz HBz e5 hon
                      go_wp2_with fail
                      rcases HFut5.out p5.start with hg | hg
                      · have hcs : s.length = n7 := Hn7.out.symm
                        have Hcs := Lib.hid hcs
                        clear hcs
                        refine (sopen_woken HD7.out (by decide) (by decide) (by decide) Hon.out.1 (by rw [Hon.out.2]; have := Hlf5.out; omega) hg).mono ?_
                        rintro e w9 ⟨gs9, d9, rfl, hst9, hd9, hl9, hG9, hs9, hpd9, hm9⟩
                        have HD9 : Hid (DW (fun _ => True) w.heap.size w9 g pg 300 d9 p5.start 0) := Lib.hid hd9
                        have HS9 := Lib.hid (hst9.mono HB7.out.size)
                        have Hl9 := Lib.hid hl9
                        have HG9 := Lib.hid hG9
                        have Hs9 := Lib.hid hs9
                        have HO9 := Lib.hid (HO7.out.mod hm9 fun b _ _ => DF_no_u8 b)
                        have HN9 := Lib.hid (HN7.out.mod hm9 fun b _ _ => DF_no_u8 b)
                        have HB9 := Lib.hid (HB7.out.trans (hm9.below (fun b T h => h.1) HB7.out.size))
                        clear hst9 hd9 hl9 hG9 hs9 hpd9 hm9 hg HD7 HO7 HN7 HB7
                        go_wp2_with fail
                        refine (scount_any HS9.out).mono ?_
                        rintro e wA ⟨rfl, rfl⟩
                        go_wp2_with fail
                        refine (sstate_any HS9.out Hcs.out).mono ?_
                        rintro e wB ⟨aA, cA, rfl, hoA, hbA⟩
                        have HPA := Lib.hid hoA
                        have HSA := Lib.hid (HS9.out.ext hbA)
                        have HDA := Lib.hid (HD9.out.ext hbA)
                        have HOA := Lib.hid (HO9.out.ext hbA)
                        have HNA := Lib.hid (HN9.out.ext hbA)
                        have HBA := Lib.hid (bthen HB9.out hbA (Nat.le_refl _))
                        clear hoA hbA HS9 HD9 HO9 HN9 HB9
                        go_wp2_with fail
                        refine (bytes_at aA cA s a7 c7 s wB n7 n7 true HPA.out.src HNA.out.src Hn7.out Hn7.out (by have := HSA.out.len; have := Hn7.out; omega) (by have := HSA.out.len; have := Hn7.out; omega) (by simp)).mono ?_
                        rintro e wC ⟨rfl, nn, rfl⟩
                        have hbd := ext_drewN wB nn wB.heap.size
                        clear HPA
                        have HSA' := Lib.hid (HSA.out.ext hbd)
                        have HDA' := Lib.hid (HDA.out.ext hbd)
                        have HOA' := Lib.hid (HOA.out.ext hbd)
                        have HNA' := Lib.hid (HNA.out.ext hbd)
                        have HBA' := Lib.hid (bthen HBA.out hbd (Nat.le_refl _))
                        clear hbd HSA HDA HOA HNA HBA
                        have HSA := HSA'
                        have HDA := HDA'
                        have HOA := HOA'
                        have HNA := HNA'
                        have HBA := HBA'
                        clear HSA' HDA' HOA' HNA' HBA'
                        generalize wB.drewN nn = wC at *
                        go_wp2_with fail
                        go_roundw
                        case rel => exact ⟨k + 1, d9, p5.start, s, cnt, gs9, a7, n7, c7, _, rfl, by omega, rfl, rfl, Hn7.out, by first | rfl | go_num, by go_num, by omega, HDA.out, Hon.out.1, Hl9.out, by rw [Hon.out.2]; have := Hpl5.out; omega, HG9.out, Hs9.out, HSA.out, HNA.out, HBA.out⟩
                        case measure => simp [intOf]; omega
                      · have hcs : b.length = n10 := Hbl.out.symm
                        have Hcs := Lib.hid hcs
                        have hne : (((cnt + 1 : Nat) : Int) == (cnt : Int)) = false := by simp; omega
                        clear hcs
                        refine (sopen_woken HD7.out (by decide) (by decide) (by decide) Hon.out.1 (by rw [Hon.out.2]; have := Hlf5.out; omega) hg).mono ?_
                        rintro e w9 ⟨gs9, d9, rfl, hst9, hd9, hl9, hG9, hs9, hpd9, hm9⟩
                        have HD9 : Hid (DW (fun _ => True) w.heap.size w9 g pg 300 d9 p5.start 0) := Lib.hid hd9
                        have HS9 := Lib.hid (hst9.mono HB7.out.size)
                        have Hl9 := Lib.hid hl9
                        have HG9 := Lib.hid hG9
                        have Hs9 := Lib.hid hs9
                        have HO9 := Lib.hid (HO7.out.mod hm9 fun b _ _ => DF_no_u8 b)
                        have HN9 := Lib.hid (HN7.out.mod hm9 fun b _ _ => DF_no_u8 b)
                        have HB9 := Lib.hid (HB7.out.trans (hm9.below (fun b T h => h.1) HB7.out.size))
                        clear hst9 hd9 hl9 hG9 hs9 hpd9 hm9 hg HD7 HO7 HN7 HB7
                        go_wp2_with fail
                        refine (scount_any HS9.out).mono ?_
                        rintro e wA ⟨rfl, rfl⟩
                        go_wp2_with fail
                        refine (sstate_any HS9.out Hcs.out).mono ?_
                        rintro e wB ⟨aA, cA, rfl, hoA, hbA⟩
                        have HPA := Lib.hid hoA
                        have HSA := Lib.hid (HS9.out.ext hbA)
                        have HDA := Lib.hid (HD9.out.ext hbA)
                        have HOA := Lib.hid (HO9.out.ext hbA)
                        have HNA := Lib.hid (HN9.out.ext hbA)
                        have HBA := Lib.hid (bthen HB9.out hbA (Nat.le_refl _))
                        clear hoA hbA HS9 HD9 HO9 HN9 HB9
                        go_wp2_with fail
                        refine (bytes_at aA cA b a10 c10 b wB n10 n10 true HPA.out.src HOA.out.src Hbl.out Hbl.out (by omega) (by omega) (by simp)).mono ?_
                        rintro e wC ⟨rfl, nn, rfl⟩
                        have hbd := ext_drewN wB nn wB.heap.size
                        clear HPA
                        have HSA' := Lib.hid (HSA.out.ext hbd)
                        have HDA' := Lib.hid (HDA.out.ext hbd)
                        have HOA' := Lib.hid (HOA.out.ext hbd)
                        have HNA' := Lib.hid (HNA.out.ext hbd)
                        have HBA' := Lib.hid (bthen HBA.out hbd (Nat.le_refl _))
                        clear hbd HSA HDA HOA HNA HBA
                        have HSA := HSA'
                        have HDA := HDA'
                        have HOA := HOA'
                        have HNA := HNA'
                        have HBA := HBA'
                        clear HSA' HDA' HOA' HNA' HBA'
                        generalize wB.drewN nn = wC at *
                        go_wp2_with fail
                        go_roundw
                        case rel => exact ⟨k + 1, d9, p5.start, b, (cnt+1), gs9, a10, n10, c10, _, rfl, by omega, rfl, rfl, Hbl.out, by first | rfl | go_num, by go_num, by omega, HDA.out, Hon.out.1, Hl9.out, by rw [Hon.out.2]; have := Hpl5.out; omega, HG9.out, Hs9.out, HSA.out, HOA.out, HBA.out⟩
                        case measure => simp [intOf]; omega
          · obtain ⟨p1, hp1⟩ : ∃ p1, p = p1 := ⟨_, rfl⟩
            have HD3 : Hid (DW (fun b => b < w1.heap.size) w.heap.size w2 g pg 300 d p1 0) := by rw [← hp1]; exact HD
            have Hoff1 : Hid (p1.off = false) := by rw [← hp1]; exact Hoff
            have Hlf1 : Hid (p1.life = p.life) := Lib.hid (by rw [hp1])
            clear hp1
            have HT3 := HT2
            have HM3 := HM2
            have HS3 := HS
            have HB3 := HBr
            have HSz3 := Lib.hid (Nat.le_refl w2.heap.size)
            clear HD HM2 HS HBr
            go_wp2_with fail
            have hsz3 : w2.heap.size ≤ w2.heap.size := HSz3.out
            have hszw1 : w.heap.size ≤ w1.heap.size := Hszw1.out
            go_wp2_with fail
            refine (ssave_trip HD3.out HS3.out (by decide) (by decide) (by decide) Hoff1.out (Hlife.out.trans Hlf1.out.symm) HG.out Hsn.out (List.eq_nil_of_length_eq_zero (Nat.le_zero.1 HD3.out.pend)) (by omega) a11 c11 n10 b HT3.out.srcS Hbl.out (by omega) HT3.out.len.1).mono ?_
            rintro e w4 ⟨E4, d4, p4, rfl, hsv, hcase⟩
            have HD4 : Hid (DW (fun b => b < w1.heap.size ∨ w2.heap.size ≤ b) w.heap.size w4 g pg 300 d4 p4 119) := Lib.hid (hsv.dw.mono (fun _ _ hk => hk.imp id fun h => Nat.le_trans hsz3 h) (by omega))
            have Hl4 : Hid (d4.life = p4.life) := Lib.hid (hsv.dlife.trans (Hlife.out.trans (Hlf1.out.symm.trans hsv.plife.symm)))
            have Hq4 : Hid (p4.life = p.life) := Lib.hid (hsv.plife.trans Hlf1.out)
            have HM4 := Lib.hid (HM3.out.trans hsv.mod)
            have HT4 := Lib.hid (HT3.out.mod hsv.mod fun _ _ _ => SvF.no_u8 _)
            have HB4 := Lib.hid (HB3.out.trans (hsv.mod.below (SvF.base HS3.out.base) HB3.out.size))
            have Hgs := Lib.hid HS3.out.base
            have Hc4 := Lib.hid hcase
            clear hsv hcase HD3 HM3 HT3 HB3 HS3 Hoff1 Hlf1 HSz3
            go_wp2_with fail
            refine (bytes_at a11 c11 b a10 c10 b w4 n10 n10 true HT4.out.src (HO10.out.mod HM4.out fun _ _ _ => SvF.no_u8 _).src Hbl.out Hbl.out (by omega) (by omega) (by simp)).mono ?_
            rintro e w5 ⟨rfl, nn, rfl⟩
            have hbd := ext_drewN w4 nn w4.heap.size
            have HX5 := Lib.hid (bmod hbd (BF w1.heap.size w2.heap.size))
            have HD4' := Lib.hid (HD4.out.ext hbd)
            have HT4' := Lib.hid (HT4.out.ext hbd)
            have HM4' := Lib.hid (HM4.out.ext hbd)
            have HB4' := Lib.hid (bthen HB4.out hbd (Nat.le_refl _))
            clear hbd HD4 HT4 HM4 HB4
            have HD4 := HD4'
            have HT4 := HT4'
            have HM4 := HM4'
            have HB4 := HB4'
            clear HD4' HT4' HM4' HB4'
            generalize w4.drewN nn = w5 at *
            go_wp2_with fail
            refine (spoil_in HT2.out HT4.out Hbl.out (by omega)).mono ?_
            rintro e w6 ⟨rfl, hm6⟩
            have HX6 := Lib.hid (HX5.out.trans hm6)
            have HD6 := Lib.hid (HD4.out.bytes hm6 (fun _ _ h => h.2.2) (fun b hk hf => by have h1 := hf.1; have h2 := hf.2.1; rcases hk with hk | hk <;> omega))
            have HM6 := Lib.hid (HM4.out.andThen hm6 fun b T hb hf => by have := hf.1; omega)
            have HO6 := Lib.hid (HO10.out.mod HM6.out fun _ _ _ => SvF.no_u8 _)
            have HN6 := Lib.hid (HO.out.mod HM6.out fun _ _ _ => SvF.no_u8 _)
            have HB6 := Lib.hid (HB4.out.trans (hm6.below (fun b T h => Nat.le_trans hszw1 h.1) HB4.out.size))
            clear hm6 HX5 HD4 HM4 HM6 HB4 HT4 HT2 HO10 HO
            go_wp2_with fail
            rcases Hc4.out with ⟨rfl, hoff4, hpd4, hsn4, hG4, hs4, hso4⟩ | ⟨rfl, hoff4, hfut⟩
            · have HS6 := Lib.hid ((hso4.mod HX6.out (fun b T hf => by rw [hf.2.2]; decide) (fun b hb _ hf => by have := hf.2.1; omega)).sta (Nat.le_trans hszw1 (Nat.le_trans (by have := HSw2.out; omega) hsz3)) Hgs.out (by rw [← Hbl.out]; omega))
              have Hoff4 := Lib.hid hoff4
              have Hsn4 := Lib.hid hsn4
              have Hpd4 := Lib.hid hpd4
              have HG4 := Lib.hid hG4
              refine (HD6.out.offP Hoff4.out).mono ?_
              rintro e w7 ⟨rfl, rfl⟩
              clear Hc4 hoff4 hpd4 hsn4 hG4 hs4 hso4 HX6
              go_wp2_with fail
              refine (HD6.out.arm 0 none 0 0 [] (-1) (Src.nil _ _) rfl (by decide) (by decide) (p' := p4.arm 0 [] (-1)) rfl).mono ?_
              rintro e w7 ⟨rfl, hd7, hm7⟩
              have HD7 : Hid (DW (fun _ => True) w.heap.size w7 g pg 300 d4 (p4.arm 0 [] (-1)) 119) := Lib.hid (hd7.mono (fun _ _ _ => trivial) (by omega))
              have HS7 := Lib.hid (HS6.out.df hm7)
              have HO7 := Lib.hid (HO6.out.mod hm7 fun b _ _ => DF_no_u8 b)
              have HB7 := Lib.hid (HB6.out.trans (hm7.below (fun b T h => h.1) HB6.out.size))
              have hwc : IntKind.i64.wrap ((cnt : Int) + 1) = (cnt : Int) + 1 := by rw [IntKind.wrap_i64]; omega
              clear hd7 hm7 HD6 HS6 HO6 HB6 HN6
              go_wp2_with fail
              refine (sstate_any HS7.out Hbl.out.symm).mono ?_
              rintro e w8 ⟨a8, c8, rfl, ho8, hb8⟩
              have HP8 := Lib.hid ho8
              have HQ8 := Lib.hid ho8
              have HZ8 := Lib.hid (bmod hb8 (fun _ _ => False))
              have HS8 := Lib.hid (HS7.out.ext hb8)
              clear ho8 hb8
              go_wp2_with fail
              refine (bytes_at a8 c8 b a10 c10 b w8 n10 n10 true HP8.out.src (HO7.out.mod HZ8.out fun _ _ _ h => h).src Hbl.out Hbl.out (by omega) (by omega) (by simp)).mono ?_
              rintro e w9 ⟨rfl, nn, rfl⟩
              have hbd := ext_drewN w8 nn w8.heap.size
              have HQ8' := Lib.hid (HQ8.out.ext hbd)
              have HZ8' := Lib.hid (HZ8.out.ext hbd)
              have HS8' := Lib.hid (HS8.out.ext hbd)
              clear hbd HQ8 HZ8 HS8
              have HQ8 := HQ8'
              have HZ8 := HZ8'
              have HS8 := HS8'
              clear HQ8' HZ8' HS8'
              generalize w8.drewN nn = w9 at *
              go_wp2_with fail
              refine (scount_any HS8.out).mono ?_
              rintro e wA ⟨rfl, rfl⟩
              go_wp2_with fail
              refine (spoil_in HP8.out HQ8.out Hbl.out (by omega)).mono ?_
              rintro e wA ⟨rfl, hmA⟩
              have hZ := HZ8.out.andThen hmA fun b T hb hf => by have := hf.1; omega
              have HSA := Lib.hid (HS7.out.mod hZ (fun _ _ h => h.elim) fun _ _ _ h => h)
              have HDA := Lib.hid (HD7.out.bytes hZ (fun _ _ h => h.elim) fun _ _ h => h)
              have HOA := Lib.hid (HO7.out.mod hZ fun _ _ _ h => h)
              have HBA := Lib.hid (HB7.out.trans (hZ.below (fun _ _ h => h.elim) HB7.out.size))
              clear hmA hZ HP8 HQ8 HZ8 HS8 HS7 HD7 HO7 HB7
              go_wp2_with fail
              refine (sstate_any HSA.out Hbl.out.symm).mono ?_
              rintro e wB ⟨aB, cB, rfl, hoB, hbB⟩
              have HPB := Lib.hid hoB
              clear hoB
              have HSA' := Lib.hid (HSA.out.ext hbB)
              have HDA' := Lib.hid (HDA.out.ext hbB)
              have HOA' := Lib.hid (HOA.out.ext hbB)
              have HBA' := Lib.hid (bthen HBA.out hbB (Nat.le_refl _))
              clear hbB HSA HDA HOA HBA
              have HSA := HSA'
              have HDA := HDA'
              have HOA := HOA'
              have HBA := HBA'
              clear HSA' HDA' HOA' HBA'
              go_wp2_with fail
              refine (bytes_at aB cB b a10 c10 b wB n10 n10 true HPB.out.src HOA.out.src Hbl.out Hbl.out (by omega) (by omega) (by simp)).mono ?_
              rintro e wC ⟨rfl, nn, rfl⟩
              have hbd := ext_drewN wB nn wB.heap.size
              clear HPB
              have HSA' := Lib.hid (HSA.out.ext hbd)
              have HDA' := Lib.hid (HDA.out.ext hbd)
              have HOA' := Lib.hid (HOA.out.ext hbd)
              have HBA' := Lib.hid (bthen HBA.out hbd (Nat.le_refl _))
              clear hbd HSA HDA HOA HBA
              have HSA := HSA'
              have HDA := HDA'
              have HOA := HOA'
              have HBA := HBA'
              clear HSA' HDA' HOA' HBA'
              generalize wB.drewN nn = wC at *
              go_wp2_with fail
              go_roundw
              case rel => exact ⟨k + 1, d4, p4.arm 0 [] (-1), b, cnt + 1, gs, a10, n10, c10, _, rfl, by omega, rfl, rfl, Hbl.out, by go_num, by go_num, by omega, HDA.out.zero Hpd4.out, Hoff4.out, Hl4.out, by have h1 := Hpl.out; have h2 : (p4.arm 0 [] (-1)).life = p.life := Hq4.out; omega, HG4.out, Hsn4.out, HSA.out, HOA.out, HBA.out⟩
              case measure => simp [intOf]; omega
            · have Hoff4 := Lib.hid hoff4
              have HFut : Hid (Fut d4 s b cnt) := Lib.hid hfut
              refine (HD6.out.offP Hoff4.out).mono ?_
              rintro e w7 ⟨rfl, rfl⟩
              clear Hc4 hoff4 hfut HX6
              have HD6 : Hid (DW (fun _ => True) w.heap.size w6 g pg 300 d4 p4 119) := Lib.hid (HD6.out.mono (fun _ _ _ => trivial) (Nat.le_refl _))
              have Hlf4 : Hid (d4.life ≤ p4.life) := Lib.hid (by rw [Hl4.out]; omega)
              have Hpl4 : Hid (0 ≤ p4.life ∧ p4.life ≤ 10 * (k : Int)) := Lib.hid (by rw [Hq4.out]; exact Hpl.out)
              clear Hl4 Hq4
              go_wp2_with fail
              go_loopw [14] (fun i wx => ∃ (j : Nat) (d5 : DS) (p5 : PS) (wz : World), wz = wx ∧ j ≤ x.again.length ∧ i = .int .i64 (j : Int) ∧ DW (fun _ => True) w.heap.size wz g pg 300 d5 p5 119 ∧ p5.off = true ∧ Fut d5 s b cnt ∧ d5.life ≤ p5.life ∧ (0 ≤ p5.life ∧ p5.life ≤ 10 * (k : Int) + (j : Int)) ∧ Own wz w.heap.size 5 1 a10 n10 c10 (bvs b) ∧ Own wz w.heap.size 5 1 a7 n7 c7 (bvs s) ∧ Below w.heap.size w wz) (fun i _ => x.again.length - (intOf i).toNat)
              case atStart => exact ⟨0, d4, p4, _, rfl, by omega, rfl, HD6.out, Hoff4.out, HFut.out, Hlf4.out, by have := Hpl4.out; omega, HO6.out, HN6.out, HB6.out⟩
              case round =>
                obtain ⟨j, d5, p5, wz, hwz, hj, rfl, hD, hoff5, hfut, hlf5, hpl5, hO, hN, hbz⟩ := hrel
                subst hwz
                have HDz := Lib.hid hD
                have Hoff5 := Lib.hid hoff5
                have HFut5 := Lib.hid hfut
                have Hlf5 := Lib.hid hlf5
                have Hpl5 := Lib.hid hpl5
                have HOz := Lib.hid hO
                have HNz := Lib.hid hN
                have HBz := Lib.hid hbz
                clear hD hoff5 hfut hlf5 hpl5 hO hN hbz HD6 Hoff4 HFut Hlf4 Hpl4 HO6 HN6 HB6
                have e5 := (World.cell?_of_block (w := w) (a := ⟨bb, o + k * 6 + 5, none⟩) (HBz.out.block bb hlb)).trans q5
                by_cases hjl : j < x.again.length
                · obtain ⟨gb, go, hga, hgb, hgat⟩ := src_ints_at Hok.out.2.2 hjl
                  have hzj := hgat j hjl
                  obtain ⟨z, hz⟩ : ∃ z, z = x.again[j] := ⟨_, rfl⟩
                  rw [← hz] at hzj
                  rw [hga] at q5 e5
                  clear hgat hz hga
                  obtain ⟨kk, hkk, ek0⟩ := umod z 20 (by decide) (by decide)
                  have ek : IntKind.i64.wrap ((IntKind.u64.wrap z).tmod 20) = (kk : Int) := by rw [IntKind.wrap_i64]; unfold wrap64 at ek0; exact ek0
                  clear ek0
                  obtain ⟨N1, hN1, hN1b⟩ : ∃ N1 : Int, IntKind.i64.wrap (1 + (kk : Int)) = N1 ∧ N1 ≤ 9223372036854775807 := ⟨_, rfl, by rw [IntKind.wrap_i64]; omega⟩
                  go_wp2_with fail
                  have hon := start_on p5 Hoff5.out
                  refine (HDz.out.start Hpl5.out.1 (by have := Hpl5.out.2; omega) (p' := p5.start) rfl).mono ?_
                  rintro e w7 ⟨rfl, hd7, hm7⟩
                  have HD7 := Lib.hid hd7
                  have HO7 := Lib.hid (HOz.out.mod hm7 fun b _ _ => DF_no_u8 b)
                  have HN7 := Lib.hid (HNz.out.mod hm7 fun b _ _ => DF_no_u8 b)
                  have HB7 := Lib.hid (HBz.out.trans (hm7.below (fun b T h => h.1) HBz.out.size))
                  have Hon := Lib.hid hon
                  clear hd7 hm7 HDz HOz HNz HBz e5 hon
                  have hzc := (World.cell?_of_block (w := w) (a := ⟨gb, go + j, none⟩) (HB7.out.block gb hgb)).trans hzj
                  have hgbw : gb < w7.heap.size := Nat.lt_of_lt_of_le hgb HB7.out.size
                  have hlbw : bb < w7.heap.size := Nat.lt_of_lt_of_le hlb HB7.out.size
                  obtain ⟨p7, hp7⟩ : ∃ p7, p5.start.arm N1 x.keep x.torn = p7 := ⟨_, rfl⟩
                  have Hoff7 : Hid (p7.off = false) := Lib.hid (by rw [← hp7]; exact Hon.out.1)
                  have Hlf7 : Hid (p7.life = p5.life + 1) := Lib.hid (by rw [← hp7]; exact Hon.out.2)
                  go_wp2_with fail
                  refine wp_region_phase (by kernel_rfl) [23] (by kernel_rfl) (by kernel_rfl) ?_
                  refine stage_more [Sp.eq (.pointer (some ⟨pg, 0, none⟩)), Sp.eq (.slice (some ⟨bb, o, none⟩) N c), Sp.eq (.int .i64 (k : Int)), Sp.eq (.pointer (some ⟨bb, o + k * 6, none⟩)), Sp.eq (.pointer (some ⟨bb, o + k * 6 + 5, none⟩)), Sp.eq (.slice (some ⟨gb, go, none⟩) x.again.length x.gc), Sp.eq (.int .i64 (j : Int)), Sp.eq (.pointer (some ⟨gb, go + j, none⟩)), Sp.eq (.int .i64 z), Sp.eq (.int .u64 (IntKind.u64.wrap z)), Sp.eq (.int .u64 ((IntKind.u64.wrap z).tmod 20)), Sp.eq (.int .i64 (kk : Int)), Sp.eq (.int .i64 N1), Sp.eq (.slice (some ⟨bb, o, none⟩) N c), Sp.eq (.int .i64 (k : Int)), Sp.eq (.pointer (some ⟨bb, o + k * 6, none⟩)), Sp.eq (.pointer (some ⟨bb, o + k * 6 + 3, none⟩)), Sp.eq (.slice x.ka x.keep.length x.kc), Sp.eq (.slice (some ⟨bb, o, none⟩) N c), Sp.eq (.int .i64 (k : Int)), Sp.eq (.pointer (some ⟨bb, o + k * 6, none⟩)), Sp.eq (.pointer (some ⟨bb, o + k * 6 + 4, none⟩)), Sp.eq (.int .i64 x.torn)] rfl ?_ ?_
                  · refine stepsG_cons ?_ (stepsG_cons ?_ (stepsG_cons ?_ (stepsG_cons ?_ (stepsG_cons ?_ (stepsG_cons ?_ (stepsG_cons ?_ (stepsG_cons ?_ (stepsG_cons ?_ (stepsG_cons ?_ (stepsG_cons ?_ (stepsG_cons ?_ (stepsG_cons ?_ (stepsG_cons ?_ (stepsG_cons ?_ (stepsG_cons ?_ (stepsG_cons ?_ (stepsG_cons ?_ (stepsG_cons ?_ (stepsG_cons ?_ (stepsG_cons ?_ (stepsG_cons ?_ (stepsG_cons ?_ (stepsG_nil)))))))))))))))))))))))
                    · intro ρ w' E
                      have e3 : ρ (.tmp 3) = .pointer (some ⟨pg, 0, none⟩) := E.out 3 rfl
                      refine step_plain rfl ?_
                      exact op_move (.inl rfl) e3 ⟨Below.refl _ _, rfl⟩
                    · intro ρ w' E
                      have e0 : ρ (.tmp 0) = .slice (some ⟨bb, o, none⟩) N c := E.out 0 rfl
                      refine step_plain rfl ?_
                      exact op_move (.inl rfl) e0 ⟨Below.refl _ _, rfl⟩
                    · intro ρ w' E
                      have e9 : ρ (.tmp 9) = .int .i64 (k : Int) := E.out 9 rfl
                      refine step_plain rfl ?_
                      exact op_move (.inl rfl) e9 ⟨Below.refl _ _, rfl⟩
                    · intro ρ w' E
                      have e158 : ρ (.tmp 158) = .slice (some ⟨bb, o, none⟩) N c := E.pre 1 rfl rfl
                      have e159 : ρ (.tmp 159) = .int .i64 (k : Int) := E.pre 2 rfl rfl
                      refine step_plain rfl ?_
                      refine op_val (v := .pointer (some ⟨bb, o + k * 6, none⟩)) (w' := w') ?_ ⟨Below.refl _ _, rfl⟩
                      have hcon := E.con
                      clear E
                      go_simp
                    · intro ρ w' E
                      have e160 : ρ (.tmp 160) = .pointer (some ⟨bb, o + k * 6, none⟩) := E.pre 3 rfl rfl
                      refine step_plain rfl ?_
                      refine op_val (v := .pointer (some ⟨bb, o + k * 6 + 5, none⟩)) (w' := w') ?_ ⟨Below.refl _ _, rfl⟩
                      have hcon := E.con
                      clear E
                      go_simp
                    · intro ρ w' E
                      have e161 : ρ (.tmp 161) = .pointer (some ⟨bb, o + k * 6 + 5, none⟩) := E.pre 4 rfl rfl
                      refine step_plain rfl ?_
                      refine op_val (v := .slice (some ⟨gb, go, none⟩) x.again.length x.gc) (w' := w') ?_ ⟨Below.refl _ _, rfl⟩
                      have hk := (World.cell?_of_block (w := w7) (E.below.block _ hlbw)).trans ((World.cell?_of_block (w := w) (a := ⟨bb, o + k * 6 + 5, none⟩) (HB7.out.block bb hlb)).trans q5)
                      have hcon := E.con
                      clear E 
                      go_simp
                    · intro ρ w' E
                      have e14 : ρ (.tmp 14) = .int .i64 (j : Int) := E.out 14 rfl
                      refine step_plain rfl ?_
                      exact op_move (.inl rfl) e14 ⟨Below.refl _ _, rfl⟩
                    · intro ρ w' E
                      have e162 : ρ (.tmp 162) = .slice (some ⟨gb, go, none⟩) x.again.length x.gc := E.pre 5 rfl rfl
                      have e163 : ρ (.tmp 163) = .int .i64 (j : Int) := E.pre 6 rfl rfl
                      refine step_plain rfl ?_
                      refine op_val (v := .pointer (some ⟨gb, go + j, none⟩)) (w' := w') ?_ ⟨Below.refl _ _, rfl⟩
                      have hcon := E.con
                      clear E
                      go_simp
                    · intro ρ w' E
                      have e164 : ρ (.tmp 164) = .pointer (some ⟨gb, go + j, none⟩) := E.pre 7 rfl rfl
                      refine step_plain rfl ?_
                      refine op_val (v := .int .i64 z) (w' := w') ?_ ⟨Below.refl _ _, rfl⟩
                      have hk := (World.cell?_of_block (w := w7) (E.below.block _ hgbw)).trans hzc
                      have hcon := E.con
                      clear E 
                      go_simp
                    · intro ρ w' E
                      have e165 : ρ (.tmp 165) = .int .i64 z := E.pre 8 rfl rfl
                      refine step_plain rfl ?_
                      refine op_val (v := .int .u64 (IntKind.u64.wrap z)) (w' := w') ?_ ⟨Below.refl _ _, rfl⟩
                      have hcon := E.con
                      clear E
                      go_simp
                    · intro ρ w' E
                      have e166 : ρ (.tmp 166) = .int .u64 (IntKind.u64.wrap z) := E.pre 9 rfl rfl
                      refine step_plain rfl ?_
                      refine op_val (v := .int .u64 ((IntKind.u64.wrap z).tmod 20)) (w' := w') ?_ ⟨Below.refl _ _, rfl⟩
                      have hcon := E.con
                      clear E
                      go_simp
                    · intro ρ w' E
                      have e167 : ρ (.tmp 167) = .int .u64 ((IntKind.u64.wrap z).tmod 20) := E.pre 10 rfl rfl
                      refine step_plain rfl ?_
                      refine op_val (v := .int .i64 (kk : Int)) (w' := w') ?_ ⟨Below.refl _ _, rfl⟩
                      have hek := ek
                      have hcon := E.con
                      clear E
                      go_simp
                    · intro ρ w' E
                      have e168 : ρ (.tmp 168) = .int .i64 (kk : Int) := E.pre 11 rfl rfl
                      refine step_plain rfl ?_
                      refine op_val (v := .int .i64 N1) (w' := w') ?_ ⟨Below.refl _ _, rfl⟩
                      have h85 := hN1
                      have hcon := E.con
                      clear E
                      go_simp
                    · intro ρ w' E
                      have e0 : ρ (.tmp 0) = .slice (some ⟨bb, o, none⟩) N c := E.out 0 rfl
                      refine step_plain rfl ?_
                      exact op_move (.inl rfl) e0 ⟨Below.refl _ _, rfl⟩
                    · intro ρ w' E
                      have e9 : ρ (.tmp 9) = .int .i64 (k : Int) := E.out 9 rfl
                      refine step_plain rfl ?_
                      exact op_move (.inl rfl) e9 ⟨Below.refl _ _, rfl⟩
                    · intro ρ w' E
                      have e170 : ρ (.tmp 170) = .slice (some ⟨bb, o, none⟩) N c := E.pre 13 rfl rfl
                      have e171 : ρ (.tmp 171) = .int .i64 (k : Int) := E.pre 14 rfl rfl
                      refine step_plain rfl ?_
                      refine op_val (v := .pointer (some ⟨bb, o + k * 6, none⟩)) (w' := w') ?_ ⟨Below.refl _ _, rfl⟩
                      have hcon := E.con
                      clear E
                      go_simp
                    · intro ρ w' E
                      have e172 : ρ (.tmp 172) = .pointer (some ⟨bb, o + k * 6, none⟩) := E.pre 15 rfl rfl
                      refine step_plain rfl ?_
                      refine op_val (v := .pointer (some ⟨bb, o + k * 6 + 3, none⟩)) (w' := w') ?_ ⟨Below.refl _ _, rfl⟩
                      have hcon := E.con
                      clear E
                      go_simp
                    · intro ρ w' E
                      have e173 : ρ (.tmp 173) = .pointer (some ⟨bb, o + k * 6 + 3, none⟩) := E.pre 16 rfl rfl
                      refine step_plain rfl ?_
                      refine op_val (v := .slice x.ka x.keep.length x.kc) (w' := w') ?_ ⟨Below.refl _ _, rfl⟩
                      have hk := (World.cell?_of_block (w := w7) (E.below.block _ hlbw)).trans ((World.cell?_of_block (w := w) (a := ⟨bb, o + k * 6 + 3, none⟩) (HB7.out.block bb hlb)).trans q3)
                      have hcon := E.con
                      clear E 
                      go_simp
                    · intro ρ w' E
                      have e0 : ρ (.tmp 0) = .slice (some ⟨bb, o, none⟩) N c := E.out 0 rfl
                      refine step_plain rfl ?_
                      exact op_move (.inl rfl) e0 ⟨Below.refl _ _, rfl⟩
                    · intro ρ w' E
                      have e9 : ρ (.tmp 9) = .int .i64 (k : Int) := E.out 9 rfl
                      refine step_plain rfl ?_
                      exact op_move (.inl rfl) e9 ⟨Below.refl _ _, rfl⟩
                    · intro ρ w' E
                      have e175 : ρ (.tmp 175) = .slice (some ⟨bb, o, none⟩) N c := E.pre 18 rfl rfl
                      have e176 : ρ (.tmp 176) = .int .i64 (k : Int) := E.pre 19 rfl rfl
                      refine step_plain rfl ?_
                      refine op_val (v := .pointer (some ⟨bb, o + k * 6, none⟩)) (w' := w') ?_ ⟨Below.refl _ _, rfl⟩
                      have hcon := E.con
                      clear E
                      go_simp
                    · intro ρ w' E
                      have e177 : ρ (.tmp 177) = .pointer (some ⟨bb, o + k * 6, none⟩) := E.pre 20 rfl rfl
                      refine step_plain rfl ?_
                      refine op_val (v := .pointer (some ⟨bb, o + k * 6 + 4, none⟩)) (w' := w') ?_ ⟨Below.refl _ _, rfl⟩
                      have hcon := E.con
                      clear E
                      go_simp
                    · intro ρ w' E
                      have e178 : ρ (.tmp 178) = .pointer (some ⟨bb, o + k * 6 + 4, none⟩) := E.pre 21 rfl rfl
                      refine step_plain rfl ?_
                      refine op_val (v := .int .i64 x.torn) (w' := w') ?_ ⟨Below.refl _ _, rfl⟩
                      have hk := (World.cell?_of_block (w := w7) (E.below.block _ hlbw)).trans ((World.cell?_of_block (w := w) (a := ⟨bb, o + k * 6 + 4, none⟩) (HB7.out.block bb hlb)).trans q4)
                      have hcon := E.con
                      clear E 
                      go_simp
                  · intro σ1 ρ1 w1c E1 O1 H1
                    have e157 : ρ1 (.tmp 157) = .pointer (some ⟨pg, 0, none⟩) := E1.pre 0 rfl rfl
                    have e169 : ρ1 (.tmp 169) = .int .i64 N1 := E1.pre 12 rfl rfl
                    have e174 : ρ1 (.tmp 174) = .slice x.ka x.keep.length x.kc := E1.pre 17 rfl rfl
                    have e179 : ρ1 (.tmp 179) = .int .i64 x.torn := E1.pre 22 rfl rfl
                    refine step_plain rfl ?_
                    refine op_call (f := 41) (args := #[.pointer (some ⟨pg, 0, none⟩), .int .i64 N1, .slice x.ka x.keep.length x.kc, .int .i64 x.torn]) (w' := w1c) (by have hcon := E1.con; have hfn := E1.fn; clear E1; go_simp) ?_
                    refine ((HD7.out.ext E1.below).arm N1 x.ka x.kc x.keep.length x.keep x.torn ((HD7.out.ext E1.below).armArg Hok.out.2.1 (bthen HB7.out E1.below (Nat.le_refl _)) _) rfl (by omega) (by omega) hp7).mono ?_
                    rintro e wA ⟨rfl, hdA, hmA⟩
                    have hmE := (bmod E1.below (DF w.heap.size)).trans hmA
                    refine ⟨_, rfl, ?_⟩
                    refine stage_last [] ?_ ?_
                    · refine stepsG_nil
                    · intro σF wF GF OF HF
                      clear OF HF E1
                      simp only [upd, updL, dstsOf', elemB, List.filterMap_cons, List.filterMap_nil, Nat.reduceAdd, Nat.reduceBEq, Bool.or_false, Bool.false_or, Bool.or_true, Bool.true_or, cond_true, cond_false, Nat.zero_add]
                      have HD8 := Lib.hid (hdA.ext GF)
                      have hmF := hmE.ext GF
                      have HO8 := Lib.hid (HO7.out.mod hmF fun b _ _ => DF_no_u8 b)
                      have HN8 := Lib.hid (HN7.out.mod hmF fun b _ _ => DF_no_u8 b)
                      have HB8 := Lib.hid (HB7.out.trans (hmF.below (fun b T h => h.1) HB7.out.size))
                      clear hdA hmE hmF GF HD7 HO7 HN7 HB7 hzc hgbw hlbw ek hN1 hp7
                      go_wp2_with fail
                      obtain ⟨s', c', hg, hback⟩ : ∃ s' c', Good (applyP p7 0 d5.pend d5.safe) s' c' ∧ ∀ S, Good S s' c' → Good S s cnt ∨ Good S b (cnt + 1) := by
                        rcases HFut5.out p7 with h | h
                        · exact ⟨_, _, h, fun _ h => .inl h⟩
                        · exact ⟨_, _, h, fun _ h => .inr h⟩
                      refine (sopen_woken HD8.out (by decide) (by decide) (by decide) Hoff7.out (by rw [Hlf7.out]; have := Hlf5.out; omega) hg).mono ?_
                      rintro e w9 ⟨gs9, d9, rfl, _, hd9, hl9, hG9, hs9, hpd9, hm9⟩
                      have HD9 := Lib.hid hd9
                      have HFut9 := Lib.hid (Fut.still hpd9 hs9 (hback _ hG9))
                      have Hl9 := Lib.hid hl9
                      have HO9 := Lib.hid (HO8.out.mod hm9 fun b _ _ => DF_no_u8 b)
                      have HN9 := Lib.hid (HN8.out.mod hm9 fun b _ _ => DF_no_u8 b)
                      have HB9 := Lib.hid (HB8.out.trans (hm9.below (fun b T h => h.1) HB8.out.size))
                      clear hd9 hl9 hG9 hs9 hpd9 hm9 hg hback HD8 HO8 HN8 HB8
                      have hlbw : bb < w9.heap.size := Nat.lt_of_lt_of_le hlb HB9.out.size
                      go_wp2_with fail
                      refine wp_region_phase (by kernel_rfl) [11] (by kernel_rfl) (by kernel_rfl) ?_
                      refine stage_more [Sp.eq (.pointer (some ⟨pg, 0, none⟩)), Sp.eq (.slice (some ⟨bb, o, none⟩) N c), Sp.eq (.int .i64 (k : Int)), Sp.eq (.pointer (some ⟨bb, o + k * 6, none⟩)), Sp.eq (.pointer (some ⟨bb, o + k * 6 + 3, none⟩)), Sp.eq (.slice x.ka x.keep.length x.kc), Sp.eq (.slice (some ⟨bb, o, none⟩) N c), Sp.eq (.int .i64 (k : Int)), Sp.eq (.pointer (some ⟨bb, o + k * 6, none⟩)), Sp.eq (.pointer (some ⟨bb, o + k * 6 + 4, none⟩)), Sp.eq (.int .i64 x.torn)] rfl ?_ ?_
                      · refine stepsG_cons ?_ (stepsG_cons ?_ (stepsG_cons ?_ (stepsG_cons ?_ (stepsG_cons ?_ (stepsG_cons ?_ (stepsG_cons ?_ (stepsG_cons ?_ (stepsG_cons ?_ (stepsG_cons ?_ (stepsG_cons ?_ (stepsG_nil)))))))))))
                        · intro ρ w' E
                          have e3 : ρ (.tmp 3) = .pointer (some ⟨pg, 0, none⟩) := E.out 3 rfl
                          refine step_plain rfl ?_
                          exact op_move (.inl rfl) e3 ⟨Below.refl _ _, rfl⟩
                        · intro ρ w' E
                          have e0 : ρ (.tmp 0) = .slice (some ⟨bb, o, none⟩) N c := E.out 0 rfl
                          refine step_plain rfl ?_
                          exact op_move (.inl rfl) e0 ⟨Below.refl _ _, rfl⟩
                        · intro ρ w' E
                          have e9 : ρ (.tmp 9) = .int .i64 (k : Int) := E.out 9 rfl
                          refine step_plain rfl ?_
                          exact op_move (.inl rfl) e9 ⟨Below.refl _ _, rfl⟩
                        · intro ρ w' E
                          have e184 : ρ (.tmp 184) = .slice (some ⟨bb, o, none⟩) N c := E.pre 1 rfl rfl
                          have e185 : ρ (.tmp 185) = .int .i64 (k : Int) := E.pre 2 rfl rfl
                          refine step_plain rfl ?_
                          refine op_val (v := .pointer (some ⟨bb, o + k * 6, none⟩)) (w' := w') ?_ ⟨Below.refl _ _, rfl⟩
                          have hcon := E.con
                          clear E
                          go_simp
                        · intro ρ w' E
                          have e186 : ρ (.tmp 186) = .pointer (some ⟨bb, o + k * 6, none⟩) := E.pre 3 rfl rfl
                          refine step_plain rfl ?_
                          refine op_val (v := .pointer (some ⟨bb, o + k * 6 + 3, none⟩)) (w' := w') ?_ ⟨Below.refl _ _, rfl⟩
                          have hcon := E.con
                          clear E
                          go_simp
                        · intro ρ w' E
                          have e187 : ρ (.tmp 187) = .pointer (some ⟨bb, o + k * 6 + 3, none⟩) := E.pre 4 rfl rfl
                          refine step_plain rfl ?_
                          refine op_val (v := .slice x.ka x.keep.length x.kc) (w' := w') ?_ ⟨Below.refl _ _, rfl⟩
                          have hk := (World.cell?_of_block (w := w9) (E.below.block _ hlbw)).trans ((World.cell?_of_block (w := w) (a := ⟨bb, o + k * 6 + 3, none⟩) (HB9.out.block bb hlb)).trans q3)
                          have hcon := E.con
                          clear E 
                          go_simp
                        · intro ρ w' E
                          have e0 : ρ (.tmp 0) = .slice (some ⟨bb, o, none⟩) N c := E.out 0 rfl
                          refine step_plain rfl ?_
                          exact op_move (.inl rfl) e0 ⟨Below.refl _ _, rfl⟩
                        · intro ρ w' E
                          have e9 : ρ (.tmp 9) = .int .i64 (k : Int) := E.out 9 rfl
                          refine step_plain rfl ?_
                          exact op_move (.inl rfl) e9 ⟨Below.refl _ _, rfl⟩
                        · intro ρ w' E
                          have e189 : ρ (.tmp 189) = .slice (some ⟨bb, o, none⟩) N c := E.pre 6 rfl rfl
                          have e190 : ρ (.tmp 190) = .int .i64 (k : Int) := E.pre 7 rfl rfl
                          refine step_plain rfl ?_
                          refine op_val (v := .pointer (some ⟨bb, o + k * 6, none⟩)) (w' := w') ?_ ⟨Below.refl _ _, rfl⟩
                          have hcon := E.con
                          clear E
                          go_simp
                        · intro ρ w' E
                          have e191 : ρ (.tmp 191) = .pointer (some ⟨bb, o + k * 6, none⟩) := E.pre 8 rfl rfl
                          refine step_plain rfl ?_
                          refine op_val (v := .pointer (some ⟨bb, o + k * 6 + 4, none⟩)) (w' := w') ?_ ⟨Below.refl _ _, rfl⟩
                          have hcon := E.con
                          clear E
                          go_simp
                        · intro ρ w' E
                          have e192 : ρ (.tmp 192) = .pointer (some ⟨bb, o + k * 6 + 4, none⟩) := E.pre 9 rfl rfl
                          refine step_plain rfl ?_
                          refine op_val (v := .int .i64 x.torn) (w' := w') ?_ ⟨Below.refl _ _, rfl⟩
                          have hk := (World.cell?_of_block (w := w9) (E.below.block _ hlbw)).trans ((World.cell?_of_block (w := w) (a := ⟨bb, o + k * 6 + 4, none⟩) (HB9.out.block bb hlb)).trans q4)
                          have hcon := E.con
                          clear E 
                          go_simp
                      · intro σ1 ρ1 w1c E1 O1 H1
                        have e183 : ρ1 (.tmp 183) = .pointer (some ⟨pg, 0, none⟩) := E1.pre 0 rfl rfl
                        have e188 : ρ1 (.tmp 188) = .slice x.ka x.keep.length x.kc := E1.pre 5 rfl rfl
                        have e193 : ρ1 (.tmp 193) = .int .i64 x.torn := E1.pre 10 rfl rfl
                        refine step_plain rfl ?_
                        refine op_call (f := 35) (args := #[.pointer (some ⟨pg, 0, none⟩), .slice x.ka x.keep.length x.kc, .int .i64 x.torn]) (w' := w1c) (by have hcon := E1.con; have hfn := E1.fn; clear E1; go_simp) ?_
                        refine ((HD9.out.ext E1.below).cut x.ka x.kc x.keep.length x.keep x.torn (Hok.out.2.1.ext (bthen HB9.out E1.below (Nat.le_refl _))) rfl (by omega) rfl).mono ?_
                        rintro e wA ⟨rfl, hdA, hmA⟩
                        have hmE := (bmod E1.below (DF w.heap.size)).trans hmA
                        refine ⟨_, rfl, ?_⟩
                        refine stage_last [] ?_ ?_
                        · refine stepsG_nil
                        · intro σF wF GF OF HF
                          clear OF HF E1
                          simp only [upd, updL, dstsOf', elemB, List.filterMap_cons, List.filterMap_nil, Nat.reduceAdd, Nat.reduceBEq, Bool.or_false, Bool.false_or, Bool.or_true, Bool.true_or, cond_true, cond_false, Nat.zero_add]
                          have HDA := Lib.hid (hdA.ext GF)
                          have hmF := hmE.ext GF
                          have HOA := Lib.hid (HO9.out.mod hmF fun b _ _ => DF_no_u8 b)
                          have HNA := Lib.hid (HN9.out.mod hmF fun b _ _ => DF_no_u8 b)
                          have HBA := Lib.hid (HB9.out.trans (hmF.below (fun b T h => h.1) HB9.out.size))
                          clear hdA hmE hmF GF HD9 HO9 HN9 HB9 hlbw
                          go_wp2_with fail
                          go_roundw
                          case rel => exact ⟨j + 1, d9, _, _, rfl, by omega, by go_num, HDA.out.mono (fun _ _ _ => trivial) (by omega), (cut_off p7 _ _).1, HFut9.out, by rw [(cut_off p7 _ _).2, Hl9.out]; omega, by rw [(cut_off p7 _ _).2, Hlf7.out]; have := Hpl5.out; omega, HOA.out, HNA.out, HBA.out⟩
                          case measure => simp [intOf]; omega
                · obtain hjl : j = x.again.length := by omega
                  have hj4 : (j : Int) ≤ 4 := by omega
                  go_wp2_with fail
                  have hon := start_on p5 Hoff5.out
                  refine (HDz.out.start Hpl5.out.1 (by have := Hpl5.out.2; omega) (p' := p5.start) rfl).mono ?_
                  rintro e w7 ⟨rfl, hd7, hm7⟩
                  have HD7 := Lib.hid hd7
                  have HO7 := Lib.hid (HOz.out.mod hm7 fun b _ _ => DF_no_u8 b)
                  have HN7 := Lib.hid (HNz.out.mod hm7 fun b _ _ => DF_no_u8 b)
                  have HB7 := Lib.hid (HBz.out.trans (hm7.below (fun b T h => h.1) HBz.out.size))
                  have Hon := Lib.hid hon
                  have hwc : IntKind.i64.wrap ((cnt : Int) + 1) = (cnt : Int) + 1 := by rw [IntKind.wrap_i64]; omega
                  clear hd7 hm7 HDz HOz HNz HBz e5 hon
                  go_wp2_with fail
                  rcases HFut5.out p5.start with hg | hg
                  · have hcs : s.length = n7 := Hn7.out.symm
                    have Hcs := Lib.hid hcs
                    clear hcs
                    refine (sopen_woken HD7.out (by decide) (by decide) (by decide) Hon.out.1 (by rw [Hon.out.2]; have := Hlf5.out; omega) hg).mono ?_
                    rintro e w9 ⟨gs9, d9, rfl, hst9, hd9, hl9, hG9, hs9, hpd9, hm9⟩
                    have HD9 : Hid (DW (fun _ => True) w.heap.size w9 g pg 300 d9 p5.start 0) := Lib.hid hd9
                    have HS9 := Lib.hid (hst9.mono HB7.out.size)
                    have Hl9 := Lib.hid hl9
                    have HG9 := Lib.hid hG9
                    have Hs9 := Lib.hid hs9
                    have HO9 := Lib.hid (HO7.out.mod hm9 fun b _ _ => DF_no_u8 b)
                    have HN9 := Lib.hid (HN7.out.mod hm9 fun b _ _ => DF_no_u8 b)
                    have HB9 := Lib.hid (HB7.out.trans (hm9.below (fun b T h => h.1) HB7.out.size))
                    clear hst9 hd9 hl9 hG9 hs9 hpd9 hm9 hg HD7 HO7 HN7 HB7
                    go_wp2_with fail
                    refine (scount_any HS9.out).mono ?_
                    rintro e wA ⟨rfl, rfl⟩
                    go_wp2_with fail
                    refine (sstate_any HS9.out Hcs.out).mono ?_
                    rintro e wB ⟨aA, cA, rfl, hoA, hbA⟩
                    have HPA := Lib.hid hoA
                    have HSA := Lib.hid (HS9.out.ext hbA)
                    have HDA := Lib.hid (HD9.out.ext hbA)
                    have HOA := Lib.hid (HO9.out.ext hbA)
                    have HNA := Lib.hid (HN9.out.ext hbA)
                    have HBA := Lib.hid (bthen HB9.out hbA (Nat.le_refl _))
                    clear hoA hbA HS9 HD9 HO9 HN9 HB9
                    go_wp2_with fail
                    refine (bytes_at aA cA s a7 c7 s wB n7 n7 true HPA.out.src HNA.out.src Hn7.out Hn7.out (by have := HSA.out.len; have := Hn7.out; omega) (by have := HSA.out.len; have := Hn7.out; omega) (by simp)).mono ?_
                    rintro e wC ⟨rfl, nn, rfl⟩
                    have hbd := ext_drewN wB nn wB.heap.size
                    clear HPA
                    have HSA' := Lib.hid (HSA.out.ext hbd)
                    have HDA' := Lib.hid (HDA.out.ext hbd)
                    have HOA' := Lib.hid (HOA.out.ext hbd)
                    have HNA' := Lib.hid (HNA.out.ext hbd)
                    have HBA' := Lib.hid (bthen HBA.out hbd (Nat.le_refl _))
                    clear hbd HSA HDA HOA HNA HBA
                    have HSA := HSA'
                    have HDA := HDA'
                    have HOA := HOA'
                    have HNA := HNA'
                    have HBA := HBA'
                    clear HSA' HDA' HOA' HNA' HBA'
                    generalize wB.drewN nn = wC at *
                    go_wp2_with fail
                    go_roundw
                    case rel => exact ⟨k + 1, d9, p5.start, s, cnt, gs9, a7, n7, c7, _, rfl, by omega, rfl, rfl, Hn7.out, by first | rfl | go_num, by go_num, by omega, HDA.out, Hon.out.1, Hl9.out, by rw [Hon.out.2]; have := Hpl5.out; omega, HG9.out, Hs9.out, HSA.out, HNA.out, HBA.out⟩
                    case measure => simp [intOf]; omega
                  · have hcs : b.length = n10 := Hbl.out.symm
                    have Hcs := Lib.hid hcs
                    have hne : (((cnt + 1 : Nat) : Int) == (cnt : Int)) = false := by simp; omega
                    clear hcs
                    refine (sopen_woken HD7.out (by decide) (by decide) (by decide) Hon.out.1 (by rw [Hon.out.2]; have := Hlf5.out; omega) hg).mono ?_
                    rintro e w9 ⟨gs9, d9, rfl, hst9, hd9, hl9, hG9, hs9, hpd9, hm9⟩
                    have HD9 : Hid (DW (fun _ => True) w.heap.size w9 g pg 300 d9 p5.start 0) := Lib.hid hd9
                    have HS9 := Lib.hid (hst9.mono HB7.out.size)
                    have Hl9 := Lib.hid hl9
                    have HG9 := Lib.hid hG9
                    have Hs9 := Lib.hid hs9
                    have HO9 := Lib.hid (HO7.out.mod hm9 fun b _ _ => DF_no_u8 b)
                    have HN9 := Lib.hid (HN7.out.mod hm9 fun b _ _ => DF_no_u8 b)
                    have HB9 := Lib.hid (HB7.out.trans (hm9.below (fun b T h => h.1) HB7.out.size))
                    clear hst9 hd9 hl9 hG9 hs9 hpd9 hm9 hg HD7 HO7 HN7 HB7
                    go_wp2_with fail
                    refine (scount_any HS9.out).mono ?_
                    rintro e wA ⟨rfl, rfl⟩
                    go_wp2_with fail
                    refine (sstate_any HS9.out Hcs.out).mono ?_
                    rintro e wB ⟨aA, cA, rfl, hoA, hbA⟩
                    have HPA := Lib.hid hoA
                    have HSA := Lib.hid (HS9.out.ext hbA)
                    have HDA := Lib.hid (HD9.out.ext hbA)
                    have HOA := Lib.hid (HO9.out.ext hbA)
                    have HNA := Lib.hid (HN9.out.ext hbA)
                    have HBA := Lib.hid (bthen HB9.out hbA (Nat.le_refl _))
                    clear hoA hbA HS9 HD9 HO9 HN9 HB9
                    go_wp2_with fail
                    refine (bytes_at aA cA b a10 c10 b wB n10 n10 true HPA.out.src HOA.out.src Hbl.out Hbl.out (by omega) (by omega) (by simp)).mono ?_
                    rintro e wC ⟨rfl, nn, rfl⟩
                    have hbd := ext_drewN wB nn wB.heap.size
                    clear HPA
                    have HSA' := Lib.hid (HSA.out.ext hbd)
                    have HDA' := Lib.hid (HDA.out.ext hbd)
                    have HOA' := Lib.hid (HOA.out.ext hbd)
                    have HNA' := Lib.hid (HNA.out.ext hbd)
                    have HBA' := Lib.hid (bthen HBA.out hbd (Nat.le_refl _))
                    clear hbd HSA HDA HOA HNA HBA
                    have HSA := HSA'
                    have HDA := HDA'
                    have HOA := HOA'
                    have HNA := HNA'
                    have HBA := HBA'
                    clear HSA' HDA' HOA' HNA' HBA'
                    generalize wB.drewN nn = wC at *
                    go_wp2_with fail
                    go_roundw
                    case rel => exact ⟨k + 1, d9, p5.start, b, (cnt+1), gs9, a10, n10, c10, _, rfl, by omega, rfl, rfl, Hbl.out, by first | rfl | go_num, by go_num, by omega, HDA.out, Hon.out.1, Hl9.out, by rw [Hon.out.2]; have := Hpl5.out; omega, HG9.out, Hs9.out, HSA.out, HOA.out, HBA.out⟩
                    case measure => simp [intOf]; omega
        · obtain rfl : k = 12 := by omega
          go_wp2_with fail
          have hcu := cut_off p [] (-1)
          refine (HD.out.cut none 0 0 [] (-1) (Src.nil _ _) rfl (by decide) (p' := p.cut [] (-1)) rfl).mono ?_
          rintro e w7 ⟨rfl, hd7, hm7⟩
          have HD7 := Lib.hid hd7
          have HO7 := Lib.hid (HO.out.mod hm7 fun b _ _ => DF_no_u8 b)
          have HB7 := Lib.hid (HBr.out.trans (hm7.below (fun b T h => h.1) HBr.out.size))
          have Hcu := Lib.hid hcu
          clear hd7 hm7 HO HBr hcu
          go_wp2_with fail
          have hon := start_on (p.cut [] (-1)) Hcu.out.1
          refine (HD7.out.start (by rw [Hcu.out.2]; exact Hpl.out.1) (by rw [Hcu.out.2]; have := Hpl.out.2; omega) (p' := (p.cut [] (-1)).start) rfl).mono ?_
          rintro e w8 ⟨rfl, hd8, hm8⟩
          have HD8 := Lib.hid hd8
          have HO8 := Lib.hid (HO7.out.mod hm8 fun b _ _ => DF_no_u8 b)
          have HB8 := Lib.hid (HB7.out.trans (hm8.below (fun b T h => h.1) HB7.out.size))
          have Hon := Lib.hid hon
          clear hd8 hm8 HD7 HO7 HB7 hon
          go_wp2_with fail
          have hpd : d.pend = [] := List.eq_nil_of_length_eq_zero (Nat.le_zero.1 HD.out.pend)
          refine (sopen_woken HD8.out (by decide) (by decide) (by decide) Hon.out.1 (by rw [Hon.out.2, Hcu.out.2, Hlife.out]; omega) (s := s) (cnt := cnt) (by rw [hpd, Hsn.out]; exact HG.out)).mono ?_
          rintro e w9 ⟨gs9, d9, rfl, hst9, _, _, _, _, _, hm9⟩
          have HS9 := Lib.hid hst9
          have HO9 := Lib.hid (HO8.out.mod hm9 fun b _ _ => DF_no_u8 b)
          have HB9 := Lib.hid (HB8.out.trans (hm9.below (fun b T h => h.1) HB8.out.size))
          clear hpd hst9 hm9 HD8 HO8 HB8 HD
          go_wp2_with fail
          refine (sstate_any HS9.out Hn7.out.symm).mono ?_
          rintro e wB ⟨aA, cA, rfl, hoA, hbA⟩
          have HPA := Lib.hid hoA
          clear hoA
          have HS9' := Lib.hid (HS9.out.ext hbA)
          have HO9' := Lib.hid (HO9.out.ext hbA)
          have HB9' := Lib.hid (bthen HB9.out hbA (Nat.le_refl _))
          clear hbA HS9 HO9 HB9
          have HS9 := HS9'
          have HO9 := HO9'
          have HB9 := HB9'
          clear HS9' HO9' HB9'
          go_wp2_with fail
          refine (bytes_at aA cA s a7 c7 s wB n7 n7 true HPA.out.src HO9.out.src Hn7.out Hn7.out (by have := HS9.out.len; have := Hn7.out; omega) (by have := HS9.out.len; have := Hn7.out; omega) (by simp)).mono ?_
          rintro e wC ⟨rfl, nn, rfl⟩
          have hbd := ext_drewN wB nn wB.heap.size
          clear HPA
          have HS9' := Lib.hid (HS9.out.ext hbd)
          have HO9' := Lib.hid (HO9.out.ext hbd)
          have HB9' := Lib.hid (bthen HB9.out hbd (Nat.le_refl _))
          clear hbd HS9 HO9 HB9
          have HS9 := HS9'
          have HO9 := HO9'
          have HB9 := HB9'
          clear HS9' HO9' HB9'
          generalize wB.drewN nn = wC at *
          go_wp2_with fail
          refine (scount_any HS9.out).mono ?_
          rintro e wD ⟨rfl, rfl⟩
          go_wp2_with fail
          refine (wakes10_any wC).mono ?_
          rintro e wE ⟨rfl, hbE⟩
          have hbF := bthen HB9.out hbE (Nat.le_refl _)
          clear hbE
          go_wp2
          go_ret
          exact ⟨rfl, hbF⟩
      · skip
        go_wp2_with fail
        have hcu := cut_off p [] (-1)
        refine (HD.out.cut none 0 0 [] (-1) (Src.nil _ _) rfl (by decide) (p' := p.cut [] (-1)) rfl).mono ?_
        rintro e w7 ⟨rfl, hd7, hm7⟩
        have HD7 := Lib.hid hd7
        have HO7 := Lib.hid (HO.out.mod hm7 fun b _ _ => DF_no_u8 b)
        have HB7 := Lib.hid (HBr.out.trans (hm7.below (fun b T h => h.1) HBr.out.size))
        have Hcu := Lib.hid hcu
        clear hd7 hm7 HO HBr hcu
        go_wp2_with fail
        have hon := start_on (p.cut [] (-1)) Hcu.out.1
        refine (HD7.out.start (by rw [Hcu.out.2]; exact Hpl.out.1) (by rw [Hcu.out.2]; have := Hpl.out.2; omega) (p' := (p.cut [] (-1)).start) rfl).mono ?_
        rintro e w8 ⟨rfl, hd8, hm8⟩
        have HD8 := Lib.hid hd8
        have HO8 := Lib.hid (HO7.out.mod hm8 fun b _ _ => DF_no_u8 b)
        have HB8 := Lib.hid (HB7.out.trans (hm8.below (fun b T h => h.1) HB7.out.size))
        have Hon := Lib.hid hon
        clear hd8 hm8 HD7 HO7 HB7 hon
        go_wp2_with fail
        have hpd : d.pend = [] := List.eq_nil_of_length_eq_zero (Nat.le_zero.1 HD.out.pend)
        refine (sopen_woken HD8.out (by decide) (by decide) (by decide) Hon.out.1 (by rw [Hon.out.2, Hcu.out.2, Hlife.out]; omega) (s := s) (cnt := cnt) (by rw [hpd, Hsn.out]; exact HG.out)).mono ?_
        rintro e w9 ⟨gs9, d9, rfl, hst9, _, _, _, _, _, hm9⟩
        have HS9 := Lib.hid hst9
        have HO9 := Lib.hid (HO8.out.mod hm9 fun b _ _ => DF_no_u8 b)
        have HB9 := Lib.hid (HB8.out.trans (hm9.below (fun b T h => h.1) HB8.out.size))
        clear hpd hst9 hm9 HD8 HO8 HB8 HD
        go_wp2_with fail
        refine (sstate_any HS9.out Hn7.out.symm).mono ?_
        rintro e wB ⟨aA, cA, rfl, hoA, hbA⟩
        have HPA := Lib.hid hoA
        clear hoA
        have HS9' := Lib.hid (HS9.out.ext hbA)
        have HO9' := Lib.hid (HO9.out.ext hbA)
        have HB9' := Lib.hid (bthen HB9.out hbA (Nat.le_refl _))
        clear hbA HS9 HO9 HB9
        have HS9 := HS9'
        have HO9 := HO9'
        have HB9 := HB9'
        clear HS9' HO9' HB9'
        go_wp2_with fail
        refine (bytes_at aA cA s a7 c7 s wB n7 n7 true HPA.out.src HO9.out.src Hn7.out Hn7.out (by have := HS9.out.len; have := Hn7.out; omega) (by have := HS9.out.len; have := Hn7.out; omega) (by simp)).mono ?_
        rintro e wC ⟨rfl, nn, rfl⟩
        have hbd := ext_drewN wB nn wB.heap.size
        clear HPA
        have HS9' := Lib.hid (HS9.out.ext hbd)
        have HO9' := Lib.hid (HO9.out.ext hbd)
        have HB9' := Lib.hid (bthen HB9.out hbd (Nat.le_refl _))
        clear hbd HS9 HO9 HB9
        have HS9 := HS9'
        have HO9 := HO9'
        have HB9 := HB9'
        clear HS9' HO9' HB9'
        generalize wB.drewN nn = wC at *
        go_wp2_with fail
        refine (scount_any HS9.out).mono ?_
        rintro e wD ⟨rfl, rfl⟩
        go_wp2_with fail
        refine (wakes10_any wC).mono ?_
        rintro e wE ⟨rfl, hbE⟩
        have hbF := bthen HB9.out hbE (Nat.le_refl _)
        clear hbE
        go_wp2
        go_ret
        exact ⟨rfl, hbF⟩
end Go.Proofs.Ytogcejmnhiphgaa
