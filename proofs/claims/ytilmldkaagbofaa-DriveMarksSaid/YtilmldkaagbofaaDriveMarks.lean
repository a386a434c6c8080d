/- The walk of DriveMarks. -/
import Derived.Test.YtilmldkaagbofaaMarks
import Derived.Test.YtilmldkaagbofaaMedLaw
import Derived.Test.YtilmldkaagbofaaDriveMarksPartC
namespace Go.Proofs.Ytilmldkaagbofaa
open Go.RowKit

theorem infoIntA : (Try.prog.info? 3).map (fun i => (i.zero, i.size, i.bytes)) = some (some (.int .i64 0), 1, 8) := by kernel_rfl
def kOf (z : Int) : Nat := ((IntKind.u64.wrap z).tmod 10).toNat
theorem kOf_le (z : Int) : kOf z ≤ 9 := by
  unfold kOf
  have hx : 0 ≤ IntKind.u64.wrap z := by rw [IntKind.wrap_u64]; omega
  rw [Int.tmod_eq_emod_of_nonneg hx]
  omega
theorem kOf_eq (z : Int) : wrap64 ((IntKind.u64.wrap z).tmod 10) = (kOf z : Int) := by
  unfold kOf
  have hx : 0 ≤ IntKind.u64.wrap z := by rw [IntKind.wrap_u64]; omega
  rw [Int.tmod_eq_emod_of_nonneg hx]
  have h2 := Int.emod_nonneg (IntKind.u64.wrap z) (show (10 : Int) ≠ 0 by omega)
  have h3 := Int.emod_lt_of_pos (IntKind.u64.wrap z) (show (0 : Int) < 10 by omega)
  rw [IntWalk.wrap64_in _ ⟨by omega, by omega⟩]
  omega
def offs (ls : List Nat) (k : Nat) : List Int := (List.range k).map fun n => ((offC ls n : Nat) : Int)
theorem offs_succ (ls : List Nat) (k : Nat) : offs ls (k + 1) = offs ls k ++ [((offC ls k : Nat) : Int)] := by simp [offs, List.range_succ]
theorem offC_succ {ls : List Nat} {k : Nat} (h : k < ls.length) : offC ls (k + 1) = offC ls k + ls[k] + 1 := by
  unfold offC
  rw [filesC_snoc h]
  simp [blksC_len]
  omega
variable {B : Nat} {K : Nat → Prop} {w w' : World} {d g : Nat} {M : Med} {at_ : Int} {s : PS}
/-- Rows of numbers beside a drive. -/
theorem DrvP.ints (h : DrvP B K w d g M at_ s) (hm : Mod (fun _ T => T = 3) w w') : DrvP B K w' d g M at_ s := by
  obtain ⟨⟨a, k, c, cs, h⟩, hp⟩ := h
  exact ⟨⟨a, k, c, cs, h.mod hm fun b T hf => by subst hf; exact ⟨by decide, by decide, by decide⟩⟩, hp.mod hm fun b T hf => by subst hf; exact ⟨by decide, by decide, by decide⟩⟩
theorem VF_no_int (b : Nat) : ¬ VF B K b 3 := by
  rintro ⟨_, h | ⟨_, h⟩⟩ <;> revert h <;> decide
theorem two_bytes {i j : Nat} (hi : i < 256) (hj : j < 256) : bvs [BitVec.ofNat 8 i, BitVec.ofNat 8 j] = [.int .u8 (i : Int), .int .u8 (j : Int)] := by
  simp [bvs, u8v]
  omega

set_option maxRecDepth 100000 in
set_option maxHeartbeats 16000000 in
theorem driveMarks_walk (w : World) (a : Option Addr) (c : Nat) (zs : List Int) (hs : Src w a (ivs zs)) (hl : zs.length ≤ 9223372036854775807) (nI : Int) (wn : (Lit.int .i64 nI).wf = true) (bI : Int) (wb : (Lit.int .i64 bI).wf = true) :
    Calls Try.prog 5 #[.slice a zs.length c, .int .i64 nI, .int .i64 bI] w fun e w' => e = .returned (.bool true) ∧ Below w.heap.size w w' := by
  have Hs := Lib.hid hs
  obtain ⟨i0, hi, hz0, hz1, hz2⟩ := info_parts infoIntA
  obtain ⟨L, hL⟩ : ∃ n, n = zs.length := ⟨_, rfl⟩
  rw [← hL]
  have HL := Lib.hid hL
  have hL2 : L ≤ 9223372036854775807 := by omega
  obtain ⟨ls, hls⟩ : ∃ ls, ls = zs.map kOf := ⟨_, rfl⟩
  have Hls := Lib.hid hls
  have HlL : Hid (ls.length = L) := Lib.hid (by rw [hls, List.length_map, hL])
  have Hk9 : Hid (∀ k ∈ ls, k ≤ 9) := Lib.hid (by
    intro k hk
    rw [hls] at hk
    obtain ⟨z, _, rfl⟩ := List.mem_map.1 hk
    exact kOf_le z)
  clear hs wn wb hl hL hls
  go_enter Try.func5, Try.ntmps5
  by_cases h12 : 12 < L
  · have h12' : (12 : Int) < (L : Int) := by omega
    go_wp2
    go_ret
    exact ⟨rfl, Below.refl _ _⟩
  have h12' : ¬ (12 : Int) < (L : Int) := by omega
  go_wp2_with fail
  refine (power_new w).mono ?_
  rintro e w1 ⟨g, rfl, hp1, hb1⟩
  go_wp2_with fail
  refine (drv_new (g := g) 200 none 0 0 [] w1 (CMat.nil _ _) rfl (by decide) (by simp) (by rfl)).mono ?_
  rintro e w2 ⟨d, a2, c2, cs2, rfl, h2, hb2⟩
  have HD : Hid (DrvP w.heap.size AllK w2 d g ⟨200, filesC 0 (ls.take 0)⟩ ((offC ls 0 : Nat) : Int) PS.new) := Lib.hid ⟨⟨_, _, _, _, h2.mono hb1.size fun _ _ _ => trivial⟩, hp1.ext hb2⟩
  have HB := Lib.hid (bthen hb1 hb2 (Nat.le_refl _))
  clear h2 hp1 hb1 hb2
  go_wp2_with fail
  go_loopw [10, 11] (fun av i wx => ∃ (k : Nat) (aA : Option Addr) (cA : Nat) (wr : World), wr = wx ∧ k ≤ L ∧ av = .slice aA k cA ∧ i = .int .i64 (k : Int) ∧ Own wr w.heap.size 3 1 aA k cA (ivs (offs ls k)) ∧ DrvP w.heap.size AllK wr d g ⟨200, filesC 0 (ls.take k)⟩ ((offC ls k : Nat) : Int) PS.new ∧ Below w.heap.size w wr) (fun _ i _ => L - (intOf i).toNat)
  case atStart => exact ⟨0, none, 0, _, rfl, by omega, rfl, rfl, Own.nil _ _ _ _ _, HD.out, HB.out⟩
  case round =>
    obtain ⟨k, aA, cA, wr, hwr, hk, rfl, rfl, hO, hA, hbr⟩ := hrel
    subst hwr
    clear HD HB
    have HO := Lib.hid hO
    have HD := Lib.hid hA
    have HB := Lib.hid hbr
    clear hO hA hbr
    have hlen : (filesC 0 (ls.take k)).length = offC ls k := rfl
    have Hlen := Lib.hid hlen
    have Hl120 : Hid (offC ls k ≤ 10 * k) := Lib.hid (by
      have := filesC_len_le (ls.take k) (fun x hx => Hk9.out x (List.mem_of_mem_take hx)) 0
      rw [List.length_take, HlL.out, Nat.min_eq_left hk] at this
      exact this)
    clear hlen
    by_cases hkL : k < L
    · have hkz : k < zs.length := by rw [← HL.out]; exact hkL
      have hkl : k < ls.length := by rw [HlL.out]; exact hkL
      obtain ⟨zb, zo, hza, hlz0, hat⟩ := src_ints_at Hs.out hkz
      subst hza
      have r0' := hat k hkz
      have ek := kOf_eq zs[k]
      obtain ⟨z, hz⟩ : ∃ z, z = zs[k] := ⟨_, rfl⟩
      rw [← hz] at r0' ek
      obtain ⟨kk, hkk⟩ : ∃ n, n = kOf z := ⟨_, rfl⟩
      rw [← hkk] at ek
      have Hkk : Hid (ls[k] = kk) := Lib.hid (by rw [hkk, hz]; simp [Hls.out])
      have hkk9 : kk ≤ 9 := by rw [hkk]; exact kOf_le z
      have HR0 := Lib.hid r0'
      have Hlz := Lib.hid hlz0
      clear hat hz hkk r0' hlz0
      go_wp2_with fail
      refine (drv_placeP wr HD.out).mono ?_
      rintro e w3 ⟨rfl, rfl⟩
      have hba := ext_alloc wr (.cells #[.int .i64 ((offC ls k : Nat) : Int)] 3)
      have hB3 := Nat.le_trans HB.out.size hba.size
      go_wp2_with (refine wpList_appm rfl (.tmp 42) (.tmp 47) 55 rfl w.heap.size 3 i0 (.int .i64 0) 1 8 Try.underlying55 hi hz0 hz1 hz2 rfl (by decide) aA k cA (ivs (offs ls k)) rfl (HO.out.ext hba) (some ⟨wr.heap.size, 0, none⟩) 1 1 [.int .i64 ((offC ls k : Nat) : Int)] rfl rfl (src_new wr _ _) (by simp [Value.oneCell']) (by unfold maxLen; omega) (by omega) hB3 ?_; intro a4 c4 w4 hA4; have r0 := (World.cell?_of_block (w := w) (a := ⟨zb, zo + k, none⟩) (((bthen HB.out hba (Nat.le_refl _)).trans hA4.below).block zb Hlz.out)).trans HR0.out)
      have hm4 : Mod (fun _ T => T = 3) wr w4 := (bmod hba _).trans (hA4.mod _ fun _ _ _ _ => rfl)
      have HO4 : Hid (Own w4 w.heap.size 3 1 a4 (k + 1) c4 (ivs (offs ls (k + 1)))) := Lib.hid (by have := hA4.own; rw [offs_succ]; unfold ivs at this ⊢; rw [List.map_append]; exact this)
      have HD4 := Lib.hid (HD.out.ints hm4)
      have HB4 := Lib.hid ((bthen HB.out hba (Nat.le_refl _)).trans hA4.below)
      clear hA4 hm4 hba hB3 HD HB HO
      try rw [ek]
      clear ek r0
      go_loopw [13] (fun jv wy => ∃ (q : Nat) (wz : World), wz = wy ∧ q ≤ kk ∧ jv = .int .i64 (q : Int) ∧ Own wz w.heap.size 3 1 a4 (k + 1) c4 (ivs (offs ls (k + 1))) ∧ DrvP w.heap.size AllK wz d g ⟨200, filesC 0 (ls.take k) ++ blksC k q⟩ ((offC ls k + q : Nat) : Int) PS.new ∧ Below w.heap.size w wz) (fun j _ => kk - (intOf j).toNat)
      case atStart => exact ⟨0, _, rfl, by omega, rfl, HO4.out, by have := HD4.out; simpa [blksC] using this, HB4.out⟩
      case round =>
        obtain ⟨q, wz, hwz, hq, rfl, hO, hA, hbz⟩ := hrel
        subst hwz
        clear HD4 HB4 HO4
        have HO := Lib.hid hO
        have HD := Lib.hid hA
        have HB := Lib.hid hbz
        clear hO hA hbz
        have Hln : Hid ((Med.mk 200 (filesC 0 (ls.take k) ++ blksC k q)).cells.length = offC ls k + q) := Lib.hid (by show (filesC 0 (ls.take k) ++ blksC k q).length = _; rw [List.length_append, blksC_len]; rfl)
        have Hp : Hid (offC ls k + q ≤ 150) := Lib.hid (by have := Hl120.out; omega)
        by_cases hqk : q < kk
        · have hba := ext_alloc wz (.cells #[.int .u8 (k : Int), .int .u8 (q : Int)] 5)
          have hga := heap_alloc_new wz (.cells #[.int .u8 (k : Int), .int .u8 (q : Int)] 5)
          have HDa := Lib.hid (HD.out.ext hba)
          have HBa := Lib.hid (bthen HB.out hba (Nat.le_refl _))
          have HOa := Lib.hid (HO.out.ext hba)
          have HS := Lib.hid (src_vf (B := w.heap.size) (K := AllK) (l := [BitVec.ofNat 8 k, BitVec.ofNat 8 q]) (m := (0, 0)) (by rw [two_bytes (by omega) (by omega)]; exact hga))
          have hk256 : (k : Int) % 256 = (k : Int) := by omega
          have hq256 : (q : Int) % 256 = (q : Int) := by omega
          clear hba hga HD HB HO
          go_wp2_with fail
          refine (drv_write (offC ls k + q) (some ⟨wz.heap.size, 0, none⟩) 2 2 [BitVec.ofNat 8 k, BitVec.ofNat 8 q] PS.new PS.new 0 ⟨200, filesC 0 (ls.take k) ++ blksC k (q + 1)⟩ (((offC ls k + q : Nat) : Int) + 1) _ HDa.out (Up.all HBa.out.size) (by rw [Hln.out]; exact Nat.le_refl _) (by rw [Hln.out]; have := Hp.out; omega) HS.out rfl (by decide) (by decide) (by
            rw [dvWrite_ok (by rw [Hln.out]; exact Nat.le_refl _) (by show ((offC ls k + q : Nat) : Int) < 200; have := Hp.out; omega) ⟨by simp, by simp⟩]
            rw [lay_end Hln.out, blksC_succ, ← List.append_assoc]
            rfl)).mono ?_
          rintro e w5 ⟨rfl, hd5, hm5⟩
          have HD5 := Lib.hid hd5
          have HB5 := Lib.hid (HBa.out.trans (hm5.below (fun b T h => h.1) HBa.out.size))
          have HO5 := Lib.hid (HOa.out.mod hm5 fun g _ _ => VF_no_int g)
          clear hd5 hm5 HDa HBa HOa HS hk256 hq256
          go_wp2_with fail
          go_roundw
          case rel => exact ⟨q + 1, _, rfl, by omega, by go_num, HO5.out, by have := HD5.out; rw [show ((offC ls k + (q + 1) : Nat) : Int) = ((offC ls k + q : Nat) : Int) + 1 by omega]; exact this, HB5.out⟩
          case measure => simp [intOf]; omega
        · obtain rfl : kk = q := by omega
          go_wp2_with fail
          refine (drv_mark (offC ls k + kk) PS.new PS.new 0 ⟨200, filesC 0 (ls.take (k + 1))⟩ (((offC ls k + kk : Nat) : Int) + 1) wz HD.out (Up.all HB.out.size) (by rw [Hln.out]; exact Nat.le_refl _) (by rw [Hln.out]; have := Hp.out; omega) (by
            rw [dvMark_ok (by rw [Hln.out]; exact Nat.le_refl _) (by show ((offC ls k + kk : Nat) : Int) < 200; have := Hp.out; omega)]
            rw [lay_end Hln.out, filesC_snoc hkl, Hkk.out, ← List.append_assoc]
            rfl)).mono ?_
          rintro e w5 ⟨rfl, hd5, hm5⟩
          have HD5 := Lib.hid hd5
          have HB5 := Lib.hid (HB.out.trans (hm5.below (fun b T h => h.1) HB.out.size))
          have HO5 := Lib.hid (HO.out.mod hm5 fun g _ _ => VF_no_int g)
          clear hd5 hm5 HD HB HO
          go_wp2_with fail
          go_roundw
          case rel => exact ⟨k + 1, a4, c4, _, rfl, by omega, rfl, by go_num, HO5.out, by have := HD5.out; rw [offC_succ hkl, Hkk.out]; exact this, HB5.out⟩
          case measure => simp [intOf]; omega
    · obtain rfl : L = k := by omega
      have htk : ls.take L = ls := by rw [← HlL.out, List.take_length]
      rw [htk] at HD
      have hx : ∀ y ∈ (Med.mk 200 (filesC 0 ls)).cells, y.data.length ≤ 140737488355328 := fun y hy => by
        have := (filesC_cell ls 0 y hy).1
        omega
      have Hln : Hid ((Med.mk 200 (filesC 0 ls)).cells.length ≤ 120) := Lib.hid (by
        have := filesC_len_le ls Hk9.out 0
        rw [HlL.out] at this
        show (filesC 0 ls).length ≤ 120
        omega)
      have Hok := Lib.hid (files_ok Hk9.out (by rw [HlL.out]; omega))
      clear htk
      go_wp2_with fail
      refine (drv_mediumP wr HD.out (by have := Hln.out; show (filesC 0 ls).length ≤ _; omega) hx).mono ?_
      rintro e w3 ⟨aM, cM, csM, kM, rfl, hM, hc, hb⟩
      have hkM : (filesC 0 ls).length = kM := hM.size
      have hk120 : kM ≤ 120 := by rw [← hkM]; exact Hln.out
      have HD3 := Lib.hid (HD.out.ext hb)
      have HB3 := Lib.hid (bthen HB.out hb (Nat.le_refl _))
      have HO3 := Lib.hid (HO.out.ext hb)
      have HM := Lib.hid hM
      clear hb hkM hc hM HD HB HO hx
      go_wp2_with fail
      refine (files_any 200 aM cM kM csM (L : Int) w3 HM.out.mat HM.out.len.symm (by omega) (by
        rw [show medOf 200 csM = ⟨200, filesC 0 ls⟩ from HM.out.of, Med.files_ok Hok.out]
        show ((marks (filesC 0 ls) : Nat) : Int) = _
        rw [marks_files, HlL.out])).mono ?_
      rintro e w4 ⟨rfl, hb⟩
      have HD4 := Lib.hid (HD3.out.ext hb)
      have HB4 := Lib.hid (bthen HB3.out hb (Nat.le_refl _))
      have HO4 := Lib.hid (HO3.out.ext hb)
      clear hb HD3 HB3 HO3 HM
      by_cases h0 : L = 0
      · subst h0
        obtain rfl : ls = [] := List.eq_nil_of_length_eq_zero HlL.out
        go_wp2_with fail
        refine (drv_locate 0 0 0 0 PS.new w4 HD4.out (by decide) (by decide) (by decide) (by rfl)).mono ?_
        rintro e w5 ⟨rfl, hd5, hm5⟩
        have HD5 := Lib.hid hd5
        have HB5 := Lib.hid (HB4.out.trans (hm5.below (fun b T h => h.1) HB4.out.size))
        clear hd5 hm5 HD4 HB4
        go_wp2_with fail
        refine (drv_locate 1 0 8 0 PS.new w5 HD5.out (by decide) (by decide) (by decide) (by rfl)).mono ?_
        rintro e w6 ⟨rfl, hd6, hm6⟩
        have HB6 := Lib.hid (HB5.out.trans (hm6.below (fun b T h => h.1) HB5.out.size))
        clear hd6 hm6 HD5 HB5
        go_wp2_with fail
        refine (wakes12_any w6).mono ?_
        rintro e w7 ⟨rfl, hb⟩
        have HB7 := Lib.hid (bthen HB6.out hb (Nat.le_refl _))
        clear hb
        go_wp2
        go_ret
        exact ⟨rfl, HB7.out⟩
      · obtain ⟨n, hn, ep1⟩ := umod nI (L : Int) (by omega) (by omega)
        obtain ⟨b, hb12, ep2⟩ := umod bI 12 (by decide) (by decide)
        have hnL : n < L := by omega
        have hnz : n < zs.length := by rw [← HL.out]; exact hnL
        have hnl : n < ls.length := by rw [HlL.out]; exact hnL
        obtain ⟨zb, zo, hza, hlz0, hat⟩ := src_ints_at Hs.out hnz
        subst hza
        have r0' := hat n hnz
        have ek := kOf_eq zs[n]
        obtain ⟨z, hz⟩ : ∃ z, z = zs[n] := ⟨_, rfl⟩
        rw [← hz] at r0' ek
        obtain ⟨kk, hkk⟩ : ∃ n, n = kOf z := ⟨_, rfl⟩
        rw [← hkk] at ek
        have Hkk : Hid (ls[n] = kk) := Lib.hid (by rw [hkk, hz]; simp [Hls.out])
        have hkk9 : kk ≤ 9 := by rw [hkk]; exact kOf_le z
        have r0 := (World.cell?_of_block (w := w) (a := ⟨zb, zo + n, none⟩) (HB4.out.block zb hlz0)).trans r0'
        have h0' : ¬ (L : Int) = 0 := by omega
        clear hat hz hkk r0' hlz0 hn
        have Hek := Lib.hid ek
        clear ek
        go_wp2_with fail
        try rw [ep1]
        try rw [ep2]
        rw [Hek.out]
        clear ep1 ep2 r0
        have hloc : (Med.mk 200 (filesC 0 ls)).locate (n : Int) (b : Int) ((offC ls L : Nat) : Int) = if b ≤ kk then (0, ((offC ls n + b : Nat) : Int)) else (8, ((offC ls L : Nat) : Int)) := by rw [locate_files hnl, Hkk.out]
        have Hloc := Lib.hid hloc
        clear hloc
        by_cases hbk : b ≤ kk
        · have hbk' : ¬ (kk : Int) < (b : Int) := by omega
          refine (drv_locate (n : Int) (b : Int) 0 ((offC ls n + b : Nat) : Int) PS.new w4 HD4.out (by have := Hln.out; show (filesC 0 ls).length ≤ _; omega) (by omega) (by omega) (by rw [if_neg (by decide), Hloc.out, if_pos hbk])).mono ?_
          rintro e wD ⟨rfl, hd5, hm5⟩
          have HD := Lib.hid hd5
          have HBD := Lib.hid (HB4.out.trans (hm5.below (fun b T h => h.1) HB4.out.size))
          have hO := HO4.out.mod hm5 fun g _ _ => VF_no_int g
          obtain ⟨x, rfl, _, hlx, hxat, _⟩ := hO.at hnL
          have r0 : wD.cell? ⟨x, n, none⟩ = some (.int .i64 ((offC ls n : Nat) : Int)) := by
            have := hxat n (by rw [ivs_length]; unfold offs; rw [List.length_map, List.length_range]; exact hnL)
            rw [this]
            simp [ivs, offs]
          have Hoff : Hid (offC ls n + b ≤ 200) := Lib.hid (by
            have h1 := filesC_len_le (ls.take n) (fun x hx => Hk9.out x (List.mem_of_mem_take hx)) 0
            rw [List.length_take] at h1
            unfold offC
            omega)
          have hoff := Hoff.out
          clear hd5 hm5 hO hxat HD4 HB4 HO4
          go_wp2_with fail
          refine wp_region_sp (by kernel_rfl) [Sp.eq (.int .i64 0), Sp.eq (.bool false), Sp.eq (.bool false), Sp.eq (.pointer (some ⟨d, 0, none⟩)), Sp.eq (.pointer (some ⟨d, 0, none⟩)), Sp.eq (.pointer (some ⟨d, 0, none⟩)), Sp.eq (.int .i64 ((offC ls n + b : Nat) : Int)), Sp.eq (.slice (some ⟨x, 0, none⟩) L cA), Sp.eq (.int .i64 (n : Int)), Sp.eq (.pointer (some ⟨x, n, none⟩)), Sp.eq (.int .i64 ((offC ls n : Nat) : Int)), Sp.eq (.int .i64 (b : Int)), Sp.eq (.int .i64 ((offC ls n + b : Nat) : Int)), Sp.eq (.bool false), Sp.eq (.bool false)] (by kernel_rfl) ?_ ?_
          · refine stepsOk_cons ?_ (stepsOk_cons ?_ (stepsOk_cons ?_ (stepsOk_cons ?_ (stepsOk_cons ?_ (stepsOk_cons ?_ (stepsOk_cons ?_ (stepsOk_cons ?_ (stepsOk_cons ?_ (stepsOk_cons ?_ (stepsOk_cons ?_ (stepsOk_cons ?_ (stepsOk_cons ?_ (stepsOk_cons ?_ (stepsOk_cons ?_ (stepsOk_nil)))))))))))))))
            · intro ρ w' E
              have e9 : ρ (.tmp 9) = .int .i64 0 := E.out 9 rfl
              refine step_plain rfl ?_
              exact op_move (.inl rfl) e9 ⟨Below.refl _ _, rfl⟩
            · intro ρ w' E
              have e124 : ρ (.tmp 124) = .int .i64 0 := E.pre 0 rfl
              refine step_plain rfl ?_
              refine op_val (v := .bool false) (w' := w') ?_ ⟨Below.refl _ _, rfl⟩
              have hcon := E.con
              clear E
              go_simp
            · intro ρ w' E
              have e125 : ρ (.tmp 125) = .bool false := E.pre 1 rfl
              refine step_plain rfl ?_
              exact op_move (.inl rfl) e125 ⟨Below.refl _ _, rfl⟩
            · intro ρ w' E
              have e8 : ρ (.tmp 8) = .pointer (some ⟨d, 0, none⟩) := E.out 8 rfl
              refine step_yes rfl (E.pre 2 rfl) ?_
              exact op_move (.inl rfl) e8 ⟨Below.refl _ _, rfl⟩
            · intro ρ w' E
              have e127 : ρ (.tmp 127) = .pointer (some ⟨d, 0, none⟩) := E.pre 3 rfl
              refine step_yes rfl (E.pre 2 rfl) ?_
              refine op_val (v := .pointer (some ⟨d, 0, none⟩)) (w' := w') ?_ ⟨Below.refl _ _, rfl⟩
              have hcon := E.con
              clear E
              go_simp
            · intro ρ w' E
              have e128 : ρ (.tmp 128) = .pointer (some ⟨d, 0, none⟩) := E.pre 4 rfl
              refine step_yes rfl (E.pre 2 rfl) ?_
              refine op_val (v := .pointer (some ⟨d, 0, none⟩)) (w' := w') ?_ ⟨Below.refl _ _, rfl⟩
              have hcon := E.con
              clear E
              go_simp
            · intro ρ w' E
              have e129 : ρ (.tmp 129) = .pointer (some ⟨d, 0, none⟩) := E.pre 5 rfl
              refine step_yes rfl (E.pre 2 rfl) ?_
              refine op_call (f := 23) (args := #[.pointer (some ⟨d, 0, none⟩)]) (w' := w') (by have hcon := E.con; have hfn := E.fn; clear E; go_simp) ?_
              refine (drv_placeP w' (HD.out.ext E.below)).mono ?_
              rintro e wz ⟨rfl, rfl⟩
              exact ⟨_, rfl, Below.refl _ _, rfl⟩
            · intro ρ w' E
              have e10 : ρ (.tmp 10) = .slice (some ⟨x, 0, none⟩) L cA := E.out 10 rfl
              refine step_yes rfl (E.pre 2 rfl) ?_
              exact op_move (.inl rfl) e10 ⟨Below.refl _ _, rfl⟩
            · intro ρ w' E
              have e1 : ρ (.tmp 1) = .int .i64 (n : Int) := E.out 1 rfl
              refine step_yes rfl (E.pre 2 rfl) ?_
              exact op_move (.inl rfl) e1 ⟨Below.refl _ _, rfl⟩
            · intro ρ w' E
              have e131 : ρ (.tmp 131) = .slice (some ⟨x, 0, none⟩) L cA := E.pre 7 rfl
              have e132 : ρ (.tmp 132) = .int .i64 (n : Int) := E.pre 8 rfl
              refine step_yes rfl (E.pre 2 rfl) ?_
              refine op_val (v := .pointer (some ⟨x, n, none⟩)) (w' := w') ?_ ⟨Below.refl _ _, rfl⟩
              have hcon := E.con
              clear E
              go_simp
            · intro ρ w' E
              have e133 : ρ (.tmp 133) = .pointer (some ⟨x, n, none⟩) := E.pre 9 rfl
              refine step_yes rfl (E.pre 2 rfl) ?_
              refine op_val (v := .int .i64 ((offC ls n : Nat) : Int)) (w' := w') ?_ ⟨Below.refl _ _, rfl⟩
              have hk := (World.cell?_of_block (w := wD) (E.below.block _ hlx)).trans r0
              have hcon := E.con
              clear E
              go_simp
            · intro ρ w' E
              have e2 : ρ (.tmp 2) = .int .i64 (b : Int) := E.out 2 rfl
              refine step_yes rfl (E.pre 2 rfl) ?_
              exact op_move (.inl rfl) e2 ⟨Below.refl _ _, rfl⟩
            · intro ρ w' E
              have e134 : ρ (.tmp 134) = .int .i64 ((offC ls n : Nat) : Int) := E.pre 10 rfl
              have e135 : ρ (.tmp 135) = .int .i64 (b : Int) := E.pre 11 rfl
              refine step_yes rfl (E.pre 2 rfl) ?_
              refine op_val (v := .int .i64 ((offC ls n + b : Nat) : Int)) (w' := w') ?_ ⟨Below.refl _ _, rfl⟩
              have hcon := E.con
              clear E
              go_simp
              rw [IntKind.wrap_i64]
              omega
            · intro ρ w' E
              have e130 : ρ (.tmp 130) = .int .i64 ((offC ls n + b : Nat) : Int) := E.pre 6 rfl
              have e136 : ρ (.tmp 136) = .int .i64 ((offC ls n + b : Nat) : Int) := E.pre 12 rfl
              refine step_yes rfl (E.pre 2 rfl) ?_
              refine op_val (v := .bool false) (w' := w') ?_ ⟨Below.refl _ _, rfl⟩
              have hcon := E.con
              clear E
              go_simp
            · intro ρ w' E
              have e126 : ρ (.tmp 126) = .bool false := E.pre 2 rfl
              have e137 : ρ (.tmp 137) = .bool false := E.pre 13 rfl
              refine step_plain rfl ?_
              exact op_pick (b := false) rfl e126 rfl ⟨Below.refl _ _, e137⟩
          · intro σ wE hb hall
            have h138 : σ 138 = .bool false := by obtain ⟨_, _, _, _, _, _, _, _, _, _, _, _, _, _, h, _⟩ := hall; exact h
            clear hall
            simp only [upd, updL, dstsOf', elemB, List.filterMap_cons, List.filterMap_nil, Nat.reduceAdd, Nat.reduceBEq, Bool.or_false, Bool.false_or, Bool.or_true, Bool.true_or, cond_true, cond_false, Nat.zero_add, h138]
            have HDE := Lib.hid (HD.out.ext hb)
            have HBE := Lib.hid (bthen HBD.out hb (Nat.le_refl _))
            have hrd := look_files hnl (b := b) (by rw [Hkk.out]; exact hbk) 200
            rw [Hkk.out] at hrd
            have Hrd := Lib.hid hrd
            have hx : ∀ y ∈ (Med.mk 200 (filesC 0 ls)).cells, y.data.length ≤ 140737488355328 := fun y hy => by
              have := (filesC_cell ls 0 y hy).1
              omega
            clear hb h138 r0 hrd HD HBD
            go_wp2_with fail
            by_cases hbe : b = kk
            · subst hbe
              refine (drv_read 0 [] 15 (((offC ls n + b : Nat) : Int) + 1) PS.new wE HDE.out HBE.out.size hx rfl (by omega) (by omega) (by rw [if_neg (by decide), Hrd.out, if_pos rfl]; rfl)).mono ?_
              rintro e wF ⟨aR, cR, rfl, _, _, hmF⟩
              have HBF := Lib.hid (HBE.out.trans (hmF.below (fun b T h => h.1) HBE.out.size))
              clear hmF HDE HBE hx
              go_wp2_with fail
              refine (wakes12_any wF).mono ?_
              rintro e w7 ⟨rfl, hb⟩
              have HB7 := Lib.hid (bthen HBF.out hb (Nat.le_refl _))
              clear hb
              go_wp2
              go_ret
              exact ⟨rfl, HB7.out⟩
            · have hbe' : ¬ (b : Int) = (kk : Int) := by omega
              refine (drv_read 2 [BitVec.ofNat 8 n, BitVec.ofNat 8 b] 0 (((offC ls n + b : Nat) : Int) + 1) PS.new wE HDE.out HBE.out.size hx rfl (by omega) (by omega) (by rw [if_neg (by decide), Hrd.out, if_neg hbe]; rfl)).mono ?_
              rintro e wF ⟨aR, cR, rfl, hoR, _, hmF⟩
              have HBF := Lib.hid (HBE.out.trans (hmF.below (fun b T h => h.1) HBE.out.size))
              rw [two_bytes (by omega) (by omega)] at hoR
              obtain ⟨y, rfl, _, _, hyat, _⟩ := hoR.at (i := 0) (by decide)
              have y0 := hyat 0 (by simp)
              have y1 := hyat 1 (by simp)
              have hn256 : (n : Int) % 256 = (n : Int) := by omega
              have hb256 : (b : Int) % 256 = (b : Int) := by omega
              simp only [List.getElem_cons_zero, List.getElem_cons_succ] at y0 y1
              clear hmF HDE HBE hx hoR hyat hbe
              go_wp2_with fail
              refine (wakes12_any wF).mono ?_
              rintro e w7 ⟨rfl, hb⟩
              have HB7 := Lib.hid (bthen HBF.out hb (Nat.le_refl _))
              clear hb
              go_wp2
              go_ret
              exact ⟨rfl, HB7.out⟩
        · have hbk' : (kk : Int) < (b : Int) := by omega
          refine (drv_locate (n : Int) (b : Int) 8 ((offC ls L : Nat) : Int) PS.new w4 HD4.out (by have := Hln.out; show (filesC 0 ls).length ≤ _; omega) (by omega) (by omega) (by rw [if_neg (by decide), Hloc.out, if_neg hbk])).mono ?_
          rintro e wD ⟨rfl, hd5, hm5⟩
          have HBD := Lib.hid (HB4.out.trans (hm5.below (fun b T h => h.1) HB4.out.size))
          clear hd5 hm5 HD4 HB4 HO4
          go_wp2_with fail
          refine (wakes12_any wD).mono ?_
          rintro e w7 ⟨rfl, hb⟩
          have HB7 := Lib.hid (bthen HBD.out hb (Nat.le_refl _))
          clear hb
          go_wp2
          go_ret
          exact ⟨rfl, HB7.out⟩
end Go.Proofs.Ytilmldkaagbofaa
