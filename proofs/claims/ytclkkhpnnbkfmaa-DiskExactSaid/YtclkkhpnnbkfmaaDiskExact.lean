/- The walk of DiskExact. -/
import Derived.Test.YtclkkhpnnbkfmaaTwoDk
import Derived.Test.YtclkkhpnnbkfmaaDiskPlain3
import Derived.Test.YtclkkhpnnbkfmaaActs
import Derived.Test.YtclkkhpnnbkfmaaRegionFree
namespace Go.Proofs.Ytclkkhpnnbkfmaa
open Go.RowKit

theorem write_life (d : DS) (p : PS) (i : Int) (b : List Byte) : (d.write p i b).2.2.life = p.life := by
  unfold DS.write
  split
  · rfl
  · split
    · rfl
    · split
      · rfl
      · split <;> exact spend_life p
theorem sync_life (d : DS) (p : PS) : (d.sync p).2.2.life = p.life := by
  unfold DS.sync
  split
  · rfl
  · split <;> exact spend_life p
theorem cut_life (p : PS) (k : List Bool) (t : Int) : (p.cut k t).life = p.life := by unfold PS.cut; split <;> rfl
theorem start_life (p : PS) : p.start.life = p.life ∨ p.start.life = p.life + 1 := by unfold PS.start; split <;> simp
theorem DInv.wakes {d : DS} {r : RS} {n : Nat} {p : PS} (h : DInv d r n p) : DInv (d.wake p) (r.wake p) n p := by
  cases hoff : p.off with
  | false => exact (h.wake hoff).1
  | true =>
    have e1 : d.wake p = d := by unfold DS.wake; rw [if_pos (.inl hoff)]
    have e2 : r.wake p = r := by unfold RS.wake; rw [if_pos (.inl hoff)]
    rw [e1, e2]; exact h
theorem ds_read_len {d : DS} {p : PS} {n : Nat} (h : d.ok n) {i : Int} {b : List Byte} {E : Int} (hr : d.read p i = (b, E)) : b.length ≤ 256 := by
  have hw := h.wake p
  unfold DS.read at hr
  split at hr
  · obtain ⟨rfl, _⟩ := Prod.mk.inj hr; simp
  · unfold DS.get at hr
    split at hr
    · split at hr
      · obtain ⟨rfl, _⟩ := Prod.mk.inj hr; simp
      · next hin _ =>
        obtain ⟨rfl, _⟩ := Prod.mk.inj hr
        unfold Sec.bytes
        split
        · exact Nat.le_of_eq (List.length_replicate ..)
        · next hb =>
          have hi : i.toNat < (d.wake p).now.length := by simp only [DS.inB, decide_eq_true_eq] at hin; omega
          rw [List.getD_eq_getElem?_getD, List.getElem?_eq_getElem hi, Option.getD_some] at hb ⊢
          rcases hw.bytes _ (List.mem_append_right _ (List.getElem_mem hi)) with h0 | h0
          · exact absurd h0 hb
          · omega
    · obtain ⟨rfl, _⟩ := Prod.mk.inj hr; simp
theorem sector_all (B1 I1 I2 I3 T1 : Value) (ra : Bool) (a : Option Addr) (c n : Nat) (l : List Byte) (w : World) (hs : Src w a (bvs l)) (hn : n = l.length) (hl : n ≤ 140737488355328) :
    Calls Try.prog 67 #[.agg #[I1, I2, I3, .slice a n c, .bool ra, B1, T1]] w fun e w' => ∃ a' c' k, e = .returned (.slice a' k c') ∧ k = (secOf ra l).length ∧ (a' = a ∧ secOf ra l = l ∨ Own w' w.heap.size 5 1 a' k c' (bvs (secOf ra l))) ∧ Below w.heap.size w w' := by
  cases ra with
  | true =>
    refine (sector_raw B1 I1 I2 I3 T1 true a c n w rfl).mono ?_
    rintro e w' ⟨rfl, hb⟩
    exact ⟨a, c, n, rfl, hn, .inl ⟨rfl, rfl⟩, hb⟩
  | false =>
    refine (sector_any B1 I1 I2 I3 T1 false a c n l w hs hn hl rfl).mono ?_
    rintro e w' ⟨a', c', rfl, ho, hb⟩
    exact ⟨a', c', 256, rfl, (pad_length l).symm, .inr ho, hb⟩

set_option maxRecDepth 100000 in
set_option maxHeartbeats 16000000 in
theorem diskExact_walk (w : World) (zs : Int) (ws : (Lit.int .i64 zs).wf = true) (al : Option Addr) (cl : Nat) (l : List ActV) (hs : AMat w al l) (hl : l.length ≤ 9223372036854775807) :
    Calls Try.prog 5 #[.int .i64 zs, .slice al l.length cl] w fun e w' => e = .returned (.bool true) ∧ Below w.heap.size w w' := by
  have Hs := Lib.hid hs
  obtain ⟨N, hN⟩ : ∃ N, N = l.length := ⟨_, rfl⟩
  rw [← hN]
  have HN := Lib.hid hN
  have hN2 : N ≤ 9223372036854775807 := by omega
  clear hs hN hl ws
  go_enter Try.func5, Try.ntmps5
  go_wp2_with fail
  refine (heavy09 al cl N l w Hs.out.src HN.out hN2).mono ?_
  rintro e w0 (⟨rfl, hb0⟩ | ⟨rfl, hb0, hlight⟩)
  · go_wp2
    go_ret
    exact ⟨rfl, hb0⟩
  have Hli := Lib.hid hlight
  clear hlight
  go_wp2_with fail
  refine (power_new w0).mono ?_
  rintro e w1 ⟨pg, rfl, hp, hb1⟩
  have HP1 := Lib.hid hp
  have HB1 := Lib.hid (bthen hb0 hb1 (Nat.le_refl _))
  have Hb0 := Lib.hid hb0
  clear hp hb0 hb1
  go_wp2_with fail
  refine (rpow_new w1).mono ?_
  rintro e w2 ⟨q, rfl, hq, hb2⟩
  have HQ2 := Lib.hid hq
  have HP2 := Lib.hid fun R => (HP1.out R).ext hb2
  have HB2 := Lib.hid (bthen HB1.out hb2 (Nat.le_refl _))
  have Hb1 := Lib.hid HB1.out.size
  clear hq hb2 HP1 HB1
  go_wp2_with fail
  by_cases hbad : zs < 1 ∨ 600 < zs
  · refine (disk_new_bad pg zs w2 hbad).mono ?_
    rintro e w3 ⟨rfl, rfl⟩
    rcases hbad with hz1 | hz6
    · go_wp2_with fail
      refine (wakes09_any w2).mono ?_
      rintro e w4 ⟨rfl, hb4⟩
      have HB4 := Lib.hid (bthen HB2.out hb4 (Nat.le_refl _))
      clear hb4
      go_wp2
      go_ret
      exact ⟨rfl, HB4.out⟩
    · have hz1 : ¬ zs < 1 := by omega
      go_wp2_with fail
      refine (wakes09_any w2).mono ?_
      rintro e w4 ⟨rfl, hb4⟩
      have HB4 := Lib.hid (bthen HB2.out hb4 (Nat.le_refl _))
      clear hb4
      go_wp2
      go_ret
      exact ⟨rfl, HB4.out⟩
  obtain ⟨n, rfl⟩ := Int.eq_ofNat_of_zero_le (show 0 ≤ zs by omega)
  have hn0 : 0 < n := by omega
  have hn6 : n ≤ 100000 := by omega
  have hn600 : n ≤ 600 := by omega
  have hz1 : ¬ (n : Int) < 1 := by omega
  have hz6 : ¬ 600 < (n : Int) := by omega
  clear hbad
  refine (disk_new pg PS.new n w0.heap.size w2 (HP2.out 0) (by omega) hn600).mono ?_
  rintro e w3 ⟨g, rfl, hd, hb3⟩
  have HD3 := Lib.hid hd
  have HP3 := Lib.hid fun R => (HP2.out R).ext hb3
  have HQ3 := Lib.hid fun R => (HQ2.out R).ext hb3
  have HB3 := Lib.hid (bthen HB2.out hb3 (Nat.le_refl _))
  have HBD := Lib.hid HB2.out.size
  clear hd hb3 HP2 HQ2 HB2
  go_wp2_with fail
  refine (disk_sectors (fun _ => False) w2.heap.size g pg n (DS.new PS.new.life n) w3 HD3.out (DS.new_ok _ _)).mono ?_
  rintro e w4 ⟨rfl, rfl⟩
  go_wp2_with fail
  refine (rdk_new q PS.new n w1.heap.size w3 (HQ3.out 0) (by omega) hn600).mono ?_
  rintro e w4 ⟨r, tb, rfl, htb, htl, hrd, hb4⟩
  obtain ⟨R, HT4⟩ : ∃ R, Hid (TwoDk R w.heap.size 0 0 w4 g pg r q tb n (DS.new 0 n) PS.new (RS.new 0 n) PS.new 0) := ⟨tb + 1, Lib.hid ⟨⟨fun b => b < w4.heap.size, fun b => b < w4.heap.size, fun b hb => ⟨hb, by omega⟩, fun b hb => ⟨hb, by omega⟩,
    ⟨((HD3.out.ext hb4).base HBD.out).mono (fun b hb _ => hb), ((HP3.out _).ext hb4).mono (Hb0.out.size), DS.new_ok 0 n, by have := (bthen HB3.out hb4 (Nat.le_refl _)).size; omega, Nat.le_refl _⟩,
    (rdk_base hrd HB3.out.size).mono (fun b hb _ => hb), ((HQ3.out _).ext hb4).mono Hb1.out⟩, RS.new_ok 0 n, Nat.le_refl _, Nat.le_trans HB3.out.size htb, Nat.lt_succ_self _⟩⟩
  have HB4 := Lib.hid (bthen HB3.out hb4 (Nat.le_refl _))
  have HI4 : Hid (DInv (DS.new 0 n) (RS.new 0 n) n PS.new) := Lib.hid (DInv.new PS.new n)
  clear hrd hb4 htb htl HD3 HP3 HQ3 HB3 HBD Hb0 Hb1
  go_wp2_with fail
  go_loopw [10] (fun i wx => ∃ (j : Nat) (d : DS) (e : RS) (p : PS) (wr : World), wr = wx ∧ j ≤ 60 ∧ i = .int .i64 (j : Int) ∧ TwoDk R w.heap.size 0 0 wr g pg r q tb n d p e p j ∧ DInv d e n p ∧ 0 ≤ p.life ∧ p.life ≤ (j : Int) ∧ Below w.heap.size w wr) (fun i _ => 61 - (intOf i).toNat)
  case atStart => exact ⟨0, _, _, PS.new, _, rfl, by omega, rfl, HT4.out, HI4.out, by decide, by decide, HB4.out⟩
  case round =>
    obtain ⟨j, d, e, p, wr, hwr, hj, rfl, hT, hI, hp0, hp1, hbr⟩ := hrel
    subst hwr
    clear HT4 HI4 HB4
    have HT := Lib.hid hT
    have HI := Lib.hid hI
    have Hp0 := Lib.hid hp0
    have Hp1 := Lib.hid hp1
    clear hT hI hp0 hp1
    by_cases hjN : j < N
    · by_cases hj60 : j < 60
      · have hjl : j < l.length := by have := HN.out; omega
        obtain ⟨b, o, rfl, hlb, hat⟩ := Hs.out.src.elem ActV.len (by decide) hjl
        have hok := Hs.out.ok _ (List.getElem_mem hjl)
        obtain ⟨hL3, hL5⟩ := Hli.out.2 j hjl hj60
        obtain ⟨x, hx⟩ : ∃ x, x = l[j] := ⟨_, rfl⟩
        rw [← hx] at hok hL3 hL5
        have c0 := (World.cell?_of_block (w := w) (a := ⟨b, o + j * 7, none⟩) (hbr.block b hlb)).trans (hat j hjl 0 (.int .i64 x.what) (by rw [hx]; rfl))
        have c1 := (World.cell?_of_block (w := w) (a := ⟨b, o + j * 7 + 1, none⟩) (hbr.block b hlb)).trans (hat j hjl 1 (.int .i64 x.i) (by rw [hx]; rfl))
        have c2 := (World.cell?_of_block (w := w) (a := ⟨b, o + j * 7 + 2, none⟩) (hbr.block b hlb)).trans (hat j hjl 2 (.int .i64 x.n) (by rw [hx]; rfl))
        have c3 := (World.cell?_of_block (w := w) (a := ⟨b, o + j * 7 + 3, none⟩) (hbr.block b hlb)).trans (hat j hjl 3 (.slice x.b.a x.b.l.length x.b.c) (by rw [hx]; rfl))
        have c4 := (World.cell?_of_block (w := w) (a := ⟨b, o + j * 7 + 4, none⟩) (hbr.block b hlb)).trans (hat j hjl 4 (.bool x.raw) (by rw [hx]; rfl))
        have c5 := (World.cell?_of_block (w := w) (a := ⟨b, o + j * 7 + 5, none⟩) (hbr.block b hlb)).trans (hat j hjl 5 (.slice x.ka x.keep.length x.kc) (by rw [hx]; rfl))
        have c6 := (World.cell?_of_block (w := w) (a := ⟨b, o + j * 7 + 6, none⟩) (hbr.block b hlb)).trans (hat j hjl 6 (.int .i64 x.torn) (by rw [hx]; rfl))
        have Hok0 := Lib.hid hok
        have Hok := Lib.hid (hok.ext hbr)
        clear hat hx hok
        have hput := setRow_heap (wr.alloc (.cells #[.int .i64 0, .int .i64 0, .int .i64 0, .slice none 0 0, .bool false, .slice none 0 0, .int .i64 0] 112)) wr.heap.size _ #[.int .i64 x.what, .int .i64 x.i, .int .i64 x.n, .slice x.b.a x.b.l.length x.b.c, .bool x.raw, .slice x.ka x.keep.length x.kc, .int .i64 x.torn] _ _ (heap_alloc_new wr _)
        have hbp : Below wr.heap.size wr ((wr.alloc (.cells #[.int .i64 0, .int .i64 0, .int .i64 0, .slice none 0 0, .bool false, .slice none 0 0, .int .i64 0] 112)).setRow wr.heap.size #[.int .i64 x.what, .int .i64 x.i, .int .i64 x.n, .slice x.b.a x.b.l.length x.b.c, .bool x.raw, .slice x.ka x.keep.length x.kc, .int .i64 x.torn]) := bsetRow (ext_alloc wr _) (Nat.le_refl _) _
        have m0 := cell_of_row _ _ 0 _ _ _ hput
        have m1 := cell_of_row _ _ 1 _ _ _ hput
        have m2 := cell_of_row _ _ 2 _ _ _ hput
        have m3 := cell_of_row _ _ 3 _ _ _ hput
        have m4 := cell_of_row _ _ 4 _ _ _ hput
        have m5 := cell_of_row _ _ 5 _ _ _ hput
        have m6 := cell_of_row _ _ 6 _ _ _ hput
        obtain ⟨z, hz, ez⟩ : ∃ z : Nat, z < 9 ∧ (IntKind.u64.wrap x.what).tmod 9 = (z : Int) := by
          have hx : 0 ≤ IntKind.u64.wrap x.what := by rw [IntKind.wrap_u64]; omega
          rw [Int.tmod_eq_emod_of_nonneg hx]
          exact ⟨((IntKind.u64.wrap x.what) % 9).toNat, by omega, by omega⟩
        by_cases hz3 : z = 3
        · as_aux_lemma =>
            have e3 : ((z : Int) == 3) = true := by simp; omega
            go_wp2_with (first
              | (refine wpList_store_row rfl rfl 112 (.tmp 11) (.tmp 78) rfl wr.heap.size rfl 112 #[.int .i64 0, .int .i64 0, .int .i64 0, .slice none 0 0, .bool false, .slice none 0 0, .int .i64 0] #[.int .i64 x.what, .int .i64 x.i, .int .i64 x.n, .slice x.b.a x.b.l.length x.b.c, .bool x.raw, .slice x.ka x.keep.length x.kc, .int .i64 x.torn] rfl (heap_alloc_new wr _) rfl (by kernel_rfl) (by intro v hv; simp at hv; rcases hv with rfl | rfl | rfl | rfl | rfl | rfl | rfl <;> rfl) ?_))
            generalize hws : World.setRow _ _ _ = w1 at *
            have HT1 := Lib.hid (HT.out.ext hbp)
            have HB1 := Lib.hid (bthen hbr hbp (Nat.le_refl _))
            have Hxs := Lib.hid (Hok.out.1.1.ext hbp)
            have Hks := Lib.hid (Hok.out.2.1.ext hbp)
            have Hput := Lib.hid hput
            clear hws hbp c0 c1 c2 c3 c4 c5 c6 hbr hput
            generalize wr.heap.size = GA at *
            obtain ⟨⟨lr, Er⟩, hrr⟩ : ∃ y, y = d.read p x.i := ⟨_, rfl⟩
            have hre := read_eq HI.out x.i
            rw [← hrr] at hre
            have HRR := Lib.hid hrr.symm
            have HRE := Lib.hid hre.symm
            have HLX := Lib.hid (ds_read_len HI.out.ok hrr.symm)
            clear hrr hre
            refine (HT1.out.real0 (X := fun x w' => ∃ a c k, x = .returned (.tuple #[.slice a k c, .int .i64 Er]) ∧ k = lr.length ∧ Own w' w1.heap.size 5 1 a k c (bvs lr)) (fun K hd => (hd.read hn6 hn0 (by omega) x.i HRR.out).mono fun x w' ⟨a, c, k, h1, h2, h3, h4, h5⟩ => ⟨⟨a, c, k, h1, h2, h3⟩, h4, h5⟩)).mono ?_
            rintro _ w2 ⟨⟨a2, c2, k2, rfl, hk2, ho2⟩, hd2, hm2⟩
            have HT2 := Lib.hid (hd2 w2.heap.size)
            have HB2 := Lib.hid (HB1.out.trans (hm2.below (fun b T h => h.1) HB1.out.size))
            have HO2 := Lib.hid ho2
            have Hk2 := Lib.hid hk2
            have m1 := (World.cell?_of_block (w := w1) ((hm2.keep Hput.out (fun hf => TKF_noA _ hf)).trans Hput.out.symm)).trans m1
            clear hd2 hm2 ho2 hk2 m0 m2 m3 m4 m5 m6
            go_wp2_with fail
            refine (HT2.out.ref (Nat.le_refl _) (X := fun x w' => ∃ a c k, x = .returned (.tuple #[.slice a k c, .int .i64 Er]) ∧ k = lr.length ∧ Own w' w2.heap.size 5 1 a k c (bvs lr)) (e' := e.wake p) (p' := p) (HT2.out.rok.wake p) (Nat.le_trans (e.loose_wake p) HT2.out.few) (fun Z hd hp => (rdk_read Z w.heap.size r q tb n e p x.i w2 hd hp HT2.out.rok hn6 (by have := HT2.out.base; omega) (Nat.le_trans HT2.out.few (by omega)) HT2.out.tbR HRE.out).mono fun x w' ⟨a, c, k, h1, h2, h3, h4, h5, h6⟩ => ⟨⟨a, c, k, h1, h2, h3⟩, h4.mono (fun _ _ h => .inl h), h5, h6⟩)).mono ?_
            rintro _ w4 ⟨⟨a4, c4, k4, rfl, hk4, ho4⟩, hd4, hm4⟩
            obtain rfl : k2 = k4 := by rw [hk4, Hk2.out]
            have HT4 := Lib.hid hd4
            have HB4 := Lib.hid (HB2.out.trans (hm4.below (fun b T h => h.1) HB2.out.size))
            have HO4 := Lib.hid (HO2.out.mod hm4 fun b _ _ => TKF_no8 b)
            have HS4 := Lib.hid ho4.src
            clear hd4 hm4 ho4 hk4 HB2 HT2 m1
            go_wp2_with fail
            refine (bytes_at a2 c2 lr a4 c4 lr w4 k2 k2 true HO4.out.src HS4.out Hk2.out Hk2.out (by have := HLX.out; have := Hk2.out; omega) (by have := HLX.out; have := Hk2.out; omega) (by simp)).mono ?_
            rintro _ w5 ⟨rfl, nq, rfl⟩
            have hbd := ext_drewN w4 nq w4.heap.size
            have HT5 := Lib.hid (HT4.out.ext hbd)
            have HB5 := Lib.hid (bthen HB4.out hbd (Nat.le_refl _))
            have HO5 := Lib.hid (HO4.out.ext hbd)
            clear hbd HT4 HB4 HO4
            go_wp2_with fail
            refine (spoil_in HO2.out HO5.out Hk2.out (by have := HLX.out; have := Hk2.out; omega)).mono ?_
            rintro _ wy ⟨rfl, hmy⟩
            obtain ⟨dE, eE, pE, HTE, HIE, HLE, HBE⟩ : ∃ dE eE pE, Hid (TwoDk R w.heap.size 0 0 wy g pg r q tb n dE pE eE pE (j + 1)) ∧ Hid (DInv dE eE n pE) ∧ Hid (0 ≤ pE.life ∧ pE.life ≤ ((j + 1 : Nat) : Int)) ∧ Hid (Below w.heap.size w wy) := ⟨d.wake p, e.wake p, p, Lib.hid (((HT5.out.spoil hmy fun b T hf => ⟨⟨hf.1, hf.2.1⟩, hf.2.2⟩).whole).mono (Nat.le_succ j)), Lib.hid (HI.out.wakes), Lib.hid (by have := Hp0.out; have := Hp1.out; omega), Lib.hid (HB5.out.trans (hmy.below (fun b T hf => Nat.le_trans HB1.out.size hf.1) HB5.out.size))⟩
            clear hmy HT5 HB5 HO5 HO2 HS4 HRR HRE
            go_wp2_with fail
            go_roundw
            case rel => exact ⟨j + 1, dE, eE, pE, _, rfl, by omega, by go_num, HTE.out, HIE.out, HLE.out.1, HLE.out.2, HBE.out⟩
            case measure => simp [intOf]; omega
        by_cases hz4 : z = 4
        · as_aux_lemma =>
            have e3 : ((z : Int) == 3) = false := by simp; omega
            have e4 : ((z : Int) == 4) = true := by simp; omega
            go_wp2_with (first
              | (refine wpList_store_row rfl rfl 112 (.tmp 11) (.tmp 78) rfl wr.heap.size rfl 112 #[.int .i64 0, .int .i64 0, .int .i64 0, .slice none 0 0, .bool false, .slice none 0 0, .int .i64 0] #[.int .i64 x.what, .int .i64 x.i, .int .i64 x.n, .slice x.b.a x.b.l.length x.b.c, .bool x.raw, .slice x.ka x.keep.length x.kc, .int .i64 x.torn] rfl (heap_alloc_new wr _) rfl (by kernel_rfl) (by intro v hv; simp at hv; rcases hv with rfl | rfl | rfl | rfl | rfl | rfl | rfl <;> rfl) ?_))
            generalize hws : World.setRow _ _ _ = w1 at *
            have HT1 := Lib.hid (HT.out.ext hbp)
            have HB1 := Lib.hid (bthen hbr hbp (Nat.le_refl _))
            have Hxs := Lib.hid (Hok.out.1.1.ext hbp)
            have Hks := Lib.hid (Hok.out.2.1.ext hbp)
            have Hput := Lib.hid hput
            clear hws hbp c0 c1 c2 c3 c4 c5 c6 hbr hput
            generalize wr.heap.size = GA at *
            obtain ⟨⟨E4, d', p'⟩, hrr⟩ : ∃ y, y = d.sync p := ⟨_, rfl⟩
            obtain ⟨⟨E5, e', p5⟩, hre⟩ : ∃ y, y = e.sync p := ⟨_, rfl⟩
            obtain ⟨i1, i2, i3⟩ := HI.out.sync
            have i4 := sync_life d p
            have i5 := HT.out.rok.sync p
            have i6 := e.loose_sync p
            rw [← hrr, ← hre] at i1 i2
            rw [← hrr] at i4
            rw [← hrr, ← hre] at i3
            rw [← hre] at i5 i6
            dsimp only at i1 i2 i3 i4 i5 i6
            subst i1 i2
            have HRR := Lib.hid hrr.symm
            have HRE := Lib.hid hre.symm
            have HI3 := Lib.hid i3
            have HI4 := Lib.hid i4
            have HI5 := Lib.hid i5
            have HI6 := Lib.hid i6
            clear hrr hre i3 i4 i5 i6
            refine (HT1.out.real0 (X := fun x _ => x = .returned (.int .i64 E4)) (d' := d') (p' := p') (fun K hd => hd.sync hn6 hn0 (by omega) HRR.out)).mono ?_
            rintro _ w2 ⟨rfl, hd2, hm2⟩
            have HT2 := Lib.hid (hd2 0).whole
            have HB2 := Lib.hid (HB1.out.trans (hm2.below (fun b T h => h.1) HB1.out.size))
            clear hd2 hm2 m0 m1 m2 m3 m4 m5 m6
            go_wp2_with fail
            refine (HT2.out.ref (Nat.zero_le _) (X := fun x _ => x = .returned (.int .i64 E4)) (e' := e') (p' := p') HI5.out (Nat.le_trans HI6.out HT2.out.few) (fun Z hd hp => (rdk_sync Z w.heap.size r q tb n e p w2 hd hp HT2.out.rok hn6 HT2.out.base (Nat.le_trans HT2.out.few (by omega)) HT2.out.tbR HRE.out).mono fun x w' ⟨h1, h4, h5, h6⟩ => ⟨h1, h4.mono (fun _ _ h => .inl h), h5, h6⟩)).mono ?_
            rintro _ wy ⟨rfl, hd3, hm3⟩
            obtain ⟨dE, eE, pE, HTE, HIE, HLE, HBE⟩ : ∃ dE eE pE, Hid (TwoDk R w.heap.size 0 0 wy g pg r q tb n dE pE eE pE (j + 1)) ∧ Hid (DInv dE eE n pE) ∧ Hid (0 ≤ pE.life ∧ pE.life ≤ ((j + 1 : Nat) : Int)) ∧ Hid (Below w.heap.size w wy) := ⟨d', e', p', Lib.hid (hd3.mono (Nat.le_succ j)), Lib.hid (HI3.out), Lib.hid (by rw [HI4.out]; have := Hp0.out; have := Hp1.out; omega), Lib.hid (HB2.out.trans (hm3.below (fun b T h => h.1) HB2.out.size))⟩
            clear hd3 hm3 HT2 HB2 HRR HRE
            go_wp2_with fail
            go_roundw
            case rel => exact ⟨j + 1, dE, eE, pE, _, rfl, by omega, by go_num, HTE.out, HIE.out, HLE.out.1, HLE.out.2, HBE.out⟩
            case measure => simp [intOf]; omega
        by_cases hz5 : z = 5
        · as_aux_lemma =>
            have e3 : ((z : Int) == 3) = false := by simp; omega
            have e4 : ((z : Int) == 4) = false := by simp; omega
            have e5 : ((z : Int) == 5) = true := by simp; omega
            go_wp2_with (first
              | (refine wpList_store_row rfl rfl 112 (.tmp 11) (.tmp 78) rfl wr.heap.size rfl 112 #[.int .i64 0, .int .i64 0, .int .i64 0, .slice none 0 0, .bool false, .slice none 0 0, .int .i64 0] #[.int .i64 x.what, .int .i64 x.i, .int .i64 x.n, .slice x.b.a x.b.l.length x.b.c, .bool x.raw, .slice x.ka x.keep.length x.kc, .int .i64 x.torn] rfl (heap_alloc_new wr _) rfl (by kernel_rfl) (by intro v hv; simp at hv; rcases hv with rfl | rfl | rfl | rfl | rfl | rfl | rfl <;> rfl) ?_))
            generalize hws : World.setRow _ _ _ = w1 at *
            have HT1 := Lib.hid (HT.out.ext hbp)
            have HB1 := Lib.hid (bthen hbr hbp (Nat.le_refl _))
            have Hxs := Lib.hid (Hok.out.1.1.ext hbp)
            have Hks := Lib.hid (Hok.out.2.1.ext hbp)
            have Hput := Lib.hid hput
            clear hws hbp c0 c1 c2 c3 c4 c5 c6 hbr hput
            generalize wr.heap.size = GA at *
            refine (HT1.out.real0 (X := fun x _ => x = .returned (.tuple #[])) (d' := d) (p' := p.cut x.keep x.torn) (fun K hd => hd.cut x.ka x.kc x.keep.length x.keep x.torn Hks.out rfl (by omega) rfl)).mono ?_
            rintro _ w2 ⟨rfl, hd2, hm2⟩
            have HT2 := Lib.hid (hd2 0).whole
            have HB2 := Lib.hid (HB1.out.trans (hm2.below (fun b T h => h.1) HB1.out.size))
            have m5 := (World.cell?_of_block (w := w1) ((hm2.keep Hput.out (fun hf => TKF_noA _ hf)).trans Hput.out.symm)).trans m5
            have m6 := (World.cell?_of_block (w := w1) ((hm2.keep Hput.out (fun hf => TKF_noA _ hf)).trans Hput.out.symm)).trans m6
            clear hd2 hm2 m0 m1 m2 m3 m4
            go_wp2_with fail
            refine (HT2.out.refp (X := fun x _ => x = .returned (.tuple #[])) (p' := p.cut x.keep x.torn) (fun hp => rpow_cut w.heap.size q p x.ka x.kc x.keep.length x.keep x.torn w2 HT2.out.base hp (Hok0.out.2.1.ext HB2.out) rfl (by omega))).mono ?_
            rintro _ wy ⟨rfl, hd3, hm3⟩
            obtain ⟨dE, eE, pE, HTE, HIE, HLE, HBE⟩ : ∃ dE eE pE, Hid (TwoDk R w.heap.size 0 0 wy g pg r q tb n dE pE eE pE (j + 1)) ∧ Hid (DInv dE eE n pE) ∧ Hid (0 ≤ pE.life ∧ pE.life ≤ ((j + 1 : Nat) : Int)) ∧ Hid (Below w.heap.size w wy) := ⟨d, e, _, Lib.hid (hd3.mono (Nat.le_succ j)), Lib.hid (HI.out.cut x.keep x.torn), Lib.hid (by rw [cut_life]; have := Hp0.out; have := Hp1.out; omega), Lib.hid (HB2.out.trans (hm3.below (fun b T h => h.1) HB2.out.size))⟩
            clear hd3 hm3 HT2 HB2 m5 m6
            go_wp2_with fail
            go_roundw
            case rel => exact ⟨j + 1, dE, eE, pE, _, rfl, by omega, by go_num, HTE.out, HIE.out, HLE.out.1, HLE.out.2, HBE.out⟩
            case measure => simp [intOf]; omega
        by_cases hz6 : z = 6
        · as_aux_lemma =>
            have e3 : ((z : Int) == 3) = false := by simp; omega
            have e4 : ((z : Int) == 4) = false := by simp; omega
            have e5 : ((z : Int) == 5) = false := by simp; omega
            have e6 : ((z : Int) == 6) = true := by simp; omega
            go_wp2_with (first
              | (refine wpList_store_row rfl rfl 112 (.tmp 11) (.tmp 78) rfl wr.heap.size rfl 112 #[.int .i64 0, .int .i64 0, .int .i64 0, .slice none 0 0, .bool false, .slice none 0 0, .int .i64 0] #[.int .i64 x.what, .int .i64 x.i, .int .i64 x.n, .slice x.b.a x.b.l.length x.b.c, .bool x.raw, .slice x.ka x.keep.length x.kc, .int .i64 x.torn] rfl (heap_alloc_new wr _) rfl (by kernel_rfl) (by intro v hv; simp at hv; rcases hv with rfl | rfl | rfl | rfl | rfl | rfl | rfl <;> rfl) ?_))
            generalize hws : World.setRow _ _ _ = w1 at *
            have HT1 := Lib.hid (HT.out.ext hbp)
            have HB1 := Lib.hid (bthen hbr hbp (Nat.le_refl _))
            have Hxs := Lib.hid (Hok.out.1.1.ext hbp)
            have Hks := Lib.hid (Hok.out.2.1.ext hbp)
            have Hput := Lib.hid hput
            clear hws hbp c0 c1 c2 c3 c4 c5 c6 hbr hput
            generalize wr.heap.size = GA at *
            refine (HT1.out.real0 (X := fun x _ => x = .returned (.tuple #[])) (d' := d) (p' := p.start) (fun K hd => hd.start Hp0.out (by have := Hp1.out; omega) rfl)).mono ?_
            rintro _ w2 ⟨rfl, hd2, hm2⟩
            have HT2 := Lib.hid (hd2 0).whole
            have HB2 := Lib.hid (HB1.out.trans (hm2.below (fun b T h => h.1) HB1.out.size))
            clear hd2 hm2 m0 m1 m2 m3 m4 m5 m6
            go_wp2_with fail
            refine (HT2.out.refp (X := fun x _ => x = .returned (.tuple #[])) (p' := p.start) (fun hp => rpow_start w.heap.size q p w2 hp Hp0.out (by have := Hp1.out; omega))).mono ?_
            rintro _ wy ⟨rfl, hd3, hm3⟩
            obtain ⟨dE, eE, pE, HTE, HIE, HLE, HBE⟩ : ∃ dE eE pE, Hid (TwoDk R w.heap.size 0 0 wy g pg r q tb n dE pE eE pE (j + 1)) ∧ Hid (DInv dE eE n pE) ∧ Hid (0 ≤ pE.life ∧ pE.life ≤ ((j + 1 : Nat) : Int)) ∧ Hid (Below w.heap.size w wy) := ⟨d, e, _, Lib.hid (hd3.mono (Nat.le_succ j)), Lib.hid (HI.out.start), Lib.hid (by have h0 := Hp0.out; have h1 := Hp1.out; rcases start_life p with h | h <;> rw [h] <;> omega), Lib.hid (HB2.out.trans (hm3.below (fun b T h => h.1) HB2.out.size))⟩
            clear hd3 hm3 HT2 HB2
            go_wp2_with fail
            go_roundw
            case rel => exact ⟨j + 1, dE, eE, pE, _, rfl, by omega, by go_num, HTE.out, HIE.out, HLE.out.1, HLE.out.2, HBE.out⟩
            case measure => simp [intOf]; omega
        by_cases hz7 : z = 7
        · as_aux_lemma =>
            have e3 : ((z : Int) == 3) = false := by simp; omega
            have e4 : ((z : Int) == 4) = false := by simp; omega
            have e5 : ((z : Int) == 5) = false := by simp; omega
            have e6 : ((z : Int) == 6) = false := by simp; omega
            have e7 : ((z : Int) == 7) = true := by simp; omega
            go_wp2_with (first
              | (refine wpList_store_row rfl rfl 112 (.tmp 11) (.tmp 78) rfl wr.heap.size rfl 112 #[.int .i64 0, .int .i64 0, .int .i64 0, .slice none 0 0, .bool false, .slice none 0 0, .int .i64 0] #[.int .i64 x.what, .int .i64 x.i, .int .i64 x.n, .slice x.b.a x.b.l.length x.b.c, .bool x.raw, .slice x.ka x.keep.length x.kc, .int .i64 x.torn] rfl (heap_alloc_new wr _) rfl (by kernel_rfl) (by intro v hv; simp at hv; rcases hv with rfl | rfl | rfl | rfl | rfl | rfl | rfl <;> rfl) ?_))
            generalize hws : World.setRow _ _ _ = w1 at *
            have HT1 := Lib.hid (HT.out.ext hbp)
            have HB1 := Lib.hid (bthen hbr hbp (Nat.le_refl _))
            have Hxs := Lib.hid (Hok.out.1.1.ext hbp)
            have Hks := Lib.hid (Hok.out.2.1.ext hbp)
            have Hput := Lib.hid hput
            clear hws hbp c0 c1 c2 c3 c4 c5 c6 hbr hput
            generalize wr.heap.size = GA at *
            refine (HT1.out.real0 (X := fun x _ => x = .returned (.tuple #[])) (d' := d) (p' := p.arm x.n x.keep x.torn) (fun K hd => hd.arm x.n x.ka x.kc x.keep.length x.keep x.torn (Hok0.out.2.1.keep fun b o _ hl => (setCell_ne b (by have := HT1.out.low2; omega)).trans (HB1.out.block b hl)) rfl (by omega) (by have := Hok.out.2.2.2; simp [Lit.wf, IntKind.min, IntKind.max, IntKind.signed, IntKind.bits] at this; omega) rfl)).mono ?_
            rintro _ w2 ⟨rfl, hd2, hm2⟩
            have HT2 := Lib.hid (hd2 0).whole
            have HB2 := Lib.hid (HB1.out.trans (hm2.below (fun b T h => h.1) HB1.out.size))
            have m2 := (World.cell?_of_block (w := w1) ((hm2.keep Hput.out (fun hf => TKF_noA _ hf)).trans Hput.out.symm)).trans m2
            have m5 := (World.cell?_of_block (w := w1) ((hm2.keep Hput.out (fun hf => TKF_noA _ hf)).trans Hput.out.symm)).trans m5
            have m6 := (World.cell?_of_block (w := w1) ((hm2.keep Hput.out (fun hf => TKF_noA _ hf)).trans Hput.out.symm)).trans m6
            clear hd2 hm2 m0 m1 m3 m4
            go_wp2_with fail
            refine (HT2.out.refp (X := fun x _ => x = .returned (.tuple #[])) (p' := p.arm x.n x.keep x.torn) (fun hp => rpow_arm w.heap.size q p x.ka x.kc x.keep.length x.keep x.n x.torn w2 HT2.out.base hp (Hok0.out.2.1.ext HB2.out) rfl (by omega) (by have := Hok.out.2.2.2; simp [Lit.wf, IntKind.min, IntKind.max, IntKind.signed, IntKind.bits] at this; omega))).mono ?_
            rintro _ wy ⟨rfl, hd3, hm3⟩
            obtain ⟨dE, eE, pE, HTE, HIE, HLE, HBE⟩ : ∃ dE eE pE, Hid (TwoDk R w.heap.size 0 0 wy g pg r q tb n dE pE eE pE (j + 1)) ∧ Hid (DInv dE eE n pE) ∧ Hid (0 ≤ pE.life ∧ pE.life ≤ ((j + 1 : Nat) : Int)) ∧ Hid (Below w.heap.size w wy) := ⟨d, e, _, Lib.hid (hd3.mono (Nat.le_succ j)), Lib.hid (HI.out.arm x.n x.keep x.torn), Lib.hid (by show 0 ≤ p.life ∧ p.life ≤ _; have := Hp0.out; have := Hp1.out; omega), Lib.hid (HB2.out.trans (hm3.below (fun b T h => h.1) HB2.out.size))⟩
            clear hd3 hm3 HT2 HB2 m2 m5 m6
            go_wp2_with fail
            go_roundw
            case rel => exact ⟨j + 1, dE, eE, pE, _, rfl, by omega, by go_num, HTE.out, HIE.out, HLE.out.1, HLE.out.2, HBE.out⟩
            case measure => simp [intOf]; omega
        by_cases hz8 : z = 8
        · as_aux_lemma =>
            have e3 : ((z : Int) == 3) = false := by simp; omega
            have e4 : ((z : Int) == 4) = false := by simp; omega
            have e5 : ((z : Int) == 5) = false := by simp; omega
            have e6 : ((z : Int) == 6) = false := by simp; omega
            have e7 : ((z : Int) == 7) = false := by simp; omega
            have e8 : ((z : Int) == 8) = true := by simp; omega
            go_wp2_with (first
              | (refine wpList_store_row rfl rfl 112 (.tmp 11) (.tmp 78) rfl wr.heap.size rfl 112 #[.int .i64 0, .int .i64 0, .int .i64 0, .slice none 0 0, .bool false, .slice none 0 0, .int .i64 0] #[.int .i64 x.what, .int .i64 x.i, .int .i64 x.n, .slice x.b.a x.b.l.length x.b.c, .bool x.raw, .slice x.ka x.keep.length x.kc, .int .i64 x.torn] rfl (heap_alloc_new wr _) rfl (by kernel_rfl) (by intro v hv; simp at hv; rcases hv with rfl | rfl | rfl | rfl | rfl | rfl | rfl <;> rfl) ?_))
            generalize hws : World.setRow _ _ _ = w1 at *
            have HT1 := Lib.hid (HT.out.ext hbp)
            have HB1 := Lib.hid (bthen hbr hbp (Nat.le_refl _))
            have Hxs := Lib.hid (Hok.out.1.1.ext hbp)
            have Hks := Lib.hid (Hok.out.2.1.ext hbp)
            have Hput := Lib.hid hput
            clear hws hbp c0 c1 c2 c3 c4 c5 c6 hbr hput
            generalize wr.heap.size = GA at *
            obtain ⟨⟨E4, d'⟩, hrr⟩ : ∃ y, y = d.erase p := ⟨_, rfl⟩
            obtain ⟨⟨E5, e'⟩, hre⟩ : ∃ y, y = e.erase p := ⟨_, rfl⟩
            obtain ⟨i1, i3⟩ := HI.out.erase
            have i5 := HT.out.rok.erase p
            have i6 := e.loose_erase p
            rw [← hrr, ← hre] at i1 i3
            rw [← hre] at i5 i6
            dsimp only at i1 i3 i5 i6
            subst i1
            have HRR := Lib.hid hrr.symm
            have HRE := Lib.hid hre.symm
            have HI3 := Lib.hid i3
            have HI5 := Lib.hid i5
            have HI6 := Lib.hid i6
            clear hrr hre i3 i5 i6
            refine (HT1.out.real0 (X := fun x _ => x = .returned (.int .i64 E4)) (d' := d') (p' := p) (fun K hd => hd.erase hn6 hn0 (by omega) HRR.out)).mono ?_
            rintro _ w2 ⟨rfl, hd2, hm2⟩
            have HT2 := Lib.hid (hd2 0).whole
            have HB2 := Lib.hid (HB1.out.trans (hm2.below (fun b T h => h.1) HB1.out.size))
            clear hd2 hm2 m0 m1 m2 m3 m4 m5 m6
            go_wp2_with fail
            refine (HT2.out.ref (Nat.zero_le _) (X := fun x _ => x = .returned (.int .i64 E4)) (e' := e') (p' := p) HI5.out (Nat.le_trans HI6.out HT2.out.few) (fun Z hd hp => rdk_erase Z w.heap.size r q tb n e p w2 hd hp HT2.out.rok hn6 HT2.out.base (Nat.le_trans HT2.out.few (by omega)) HT2.out.tbR HRE.out)).mono ?_
            rintro _ wy ⟨rfl, hd3, hm3⟩
            obtain ⟨dE, eE, pE, HTE, HIE, HLE, HBE⟩ : ∃ dE eE pE, Hid (TwoDk R w.heap.size 0 0 wy g pg r q tb n dE pE eE pE (j + 1)) ∧ Hid (DInv dE eE n pE) ∧ Hid (0 ≤ pE.life ∧ pE.life ≤ ((j + 1 : Nat) : Int)) ∧ Hid (Below w.heap.size w wy) := ⟨d', e', p, Lib.hid (hd3.mono (Nat.le_succ j)), Lib.hid (HI3.out), Lib.hid (by have := Hp0.out; have := Hp1.out; omega), Lib.hid (HB2.out.trans (hm3.below (fun b T h => h.1) HB2.out.size))⟩
            clear hd3 hm3 HT2 HB2 HRR HRE
            go_wp2_with fail
            go_roundw
            case rel => exact ⟨j + 1, dE, eE, pE, _, rfl, by omega, by go_num, HTE.out, HIE.out, HLE.out.1, HLE.out.2, HBE.out⟩
            case measure => simp [intOf]; omega
        as_aux_lemma =>
          have e3 : ((z : Int) == 3) = false := by simp; omega
          have e4 : ((z : Int) == 4) = false := by simp; omega
          have e5 : ((z : Int) == 5) = false := by simp; omega
          have e6 : ((z : Int) == 6) = false := by simp; omega
          have e7 : ((z : Int) == 7) = false := by simp; omega
          have e8 : ((z : Int) == 8) = false := by simp; omega
          go_wp2_with (first
            | (refine wpList_store_row rfl rfl 112 (.tmp 11) (.tmp 78) rfl wr.heap.size rfl 112 #[.int .i64 0, .int .i64 0, .int .i64 0, .slice none 0 0, .bool false, .slice none 0 0, .int .i64 0] #[.int .i64 x.what, .int .i64 x.i, .int .i64 x.n, .slice x.b.a x.b.l.length x.b.c, .bool x.raw, .slice x.ka x.keep.length x.kc, .int .i64 x.torn] rfl (heap_alloc_new wr _) rfl (by kernel_rfl) (by intro v hv; simp at hv; rcases hv with rfl | rfl | rfl | rfl | rfl | rfl | rfl <;> rfl) ?_))
          generalize hws : World.setRow _ _ _ = w1 at *
          have HT1 := Lib.hid (HT.out.ext hbp)
          have HB1 := Lib.hid (bthen hbr hbp (Nat.le_refl _))
          have Hxs := Lib.hid (Hok.out.1.1.ext hbp)
          have Hks := Lib.hid (Hok.out.2.1.ext hbp)
          have Hput := Lib.hid hput
          clear hws hbp c0 c1 c2 c3 c4 c5 c6 hbr hput
          generalize wr.heap.size = GA at *
          obtain ⟨lx, hlx⟩ : ∃ y, y = secOf x.raw x.b.l := ⟨_, rfl⟩
          have HLX0 := Lib.hid (show lx.length ≤ 300 by rw [hlx]; unfold secOf; split; exact hL3; rw [pad_length]; decide)
          have Hlx := Lib.hid hlx
          clear hlx
          refine (sector_all (.slice x.ka x.keep.length x.kc) (.int .i64 x.what) (.int .i64 x.i) (.int .i64 x.n) (.int .i64 x.torn) x.raw x.b.a x.b.c x.b.l.length x.b.l w1 Hxs.out rfl (by omega)).mono ?_
          rintro _ w2 ⟨aX, cX, kx, rfl, hk0, hsx, hb2⟩
          rw [← Hlx.out] at hk0 hsx
          have hkx := Lib.hid hk0
          clear hk0
          have HLX := Lib.hid (show kx ≤ 300 by rw [hkx.out]; exact HLX0.out)
          have HT2 := Lib.hid (HT1.out.ext hb2)
          have HB2 := Lib.hid (bthen HB1.out hb2 (Nat.le_refl _))
          have HSX2 : Hid (∀ w', Mod (TKF w.heap.size tb) w2 w' → Src w' aX (bvs lx)) := Lib.hid fun w' hM => by
            rcases hsx with ⟨h1, h2⟩ | ho
            · rw [h1, h2]
              exact Hok0.out.1.1.ext (HB2.out.trans (hM.below (fun b T h => h.1) HB2.out.size))
            · exact (ho.mod hM fun b _ _ => TKF_no8 b).src
          have hput2 := (hb2.block _ (heap_lt Hput.out)).trans Hput.out
          clear hsx hb2 m0 m1 m2 m3 m4 m5 m6
          go_wp2_with fail
          refine (twin_at aX cX kx lx w2 (HSX2.out w2 (Mod.refl _ _)) hkx.out (by have := HLX.out; omega)).mono ?_
          rintro _ w3 ⟨aI, cI, rfl, hoI, hbI⟩
          have HO3 := Lib.hid hoI
          have HSX : Hid (∀ w', Mod (TKF w.heap.size tb) w3 w' → Src w' aX (bvs lx)) := Lib.hid fun w' hM => HSX2.out w' ((bmod hbI _).trans hM)
          have HD3 := Lib.hid ((HT2.out.hole w3.heap.size (Nat.le_refl _)).ext hbI)
          have HB3 := Lib.hid (bthen HB2.out hbI (Nat.le_refl _))
          have hput3 := (hbI.block _ (heap_lt hput2)).trans hput2
          have n1 := cell_of_row _ _ 1 _ _ _ hput3
          obtain ⟨⟨Em, d', p'⟩, hrr⟩ : ∃ y, y = d.write p x.i lx := ⟨_, rfl⟩
          obtain ⟨⟨E5, e', p5⟩, hre⟩ : ∃ y, y = e.write p x.i lx := ⟨_, rfl⟩
          obtain ⟨i1, i2, i3⟩ := HI.out.write x.i lx
          have i4 := write_life d p x.i lx
          have i5 := HT.out.rok.write p x.i lx
          have i6 := e.loose_write p x.i lx
          rw [← hrr, ← hre] at i1 i2
          rw [← hrr] at i4
          rw [← hrr, ← hre] at i3
          rw [← hre] at i5 i6
          dsimp only at i1 i2 i3 i4 i5 i6
          subst i1 i2
          have HRR := Lib.hid hrr.symm
          have HRE := Lib.hid hre.symm
          have HI3 := Lib.hid i3
          have HI4 := Lib.hid i4
          have HOK' := Lib.hid i5
          have HFW' : Hid (e'.loose.length ≤ j + 1) := Lib.hid (Nat.le_trans i6 (Nat.succ_le_succ HT.out.few))
          clear hrr hre i3 i4 i5 i6 hoI hbI hput2
          go_wp2_with fail
          refine wp_region_free (by kernel_rfl) [0, 1, 2, 3, 5, 6, 7, 8] [4, 9] (Mod.rel (TKF w.heap.size tb)) [SpT.eq (.pointer (some ⟨g, 0, none⟩)), SpT.eq (.pointer (some ⟨GA, 1, none⟩)), SpT.eq (.int .i64 x.i), SpT.eq (.slice aI kx cI), SpT.top, SpT.eq (.pointer (some ⟨r, 0, none⟩)), SpT.eq (.pointer (some ⟨GA, 1, none⟩)), SpT.eq (.int .i64 x.i), SpT.eq (.slice aX kx cX), SpT.top, SpT.top, SpT.top, SpT.top, SpT.top, SpT.top, SpT.top, SpT.top] (by kernel_rfl) (by kernel_rfl) (by kernel_rfl) ?_ ?_
          · refine stepsE_yes rfl ?_ (stepsE_yes rfl ?_ (stepsE_yes rfl ?_ (stepsE_yes rfl ?_ (stepsE_no rfl (stepsE_yes rfl ?_ (stepsE_yes rfl ?_ (stepsE_yes rfl ?_ (stepsE_yes rfl ?_ (stepsE_no rfl (stepsE_no rfl (stepsE_no rfl (stepsE_no rfl (stepsE_no rfl (stepsE_no rfl (stepsE_no rfl (stepsE_no rfl (stepsE_nil)))))))))))))))))
            · intro ρ w' E
              have e7 : ρ (.tmp 7) = .pointer (some ⟨g, 0, none⟩) := E.out 7 rfl
              refine step_plain rfl ?_
              exact op_move (.inl rfl) e7 ⟨Below.refl _ _, rfl⟩
            · intro ρ w' E
              have e11 : ρ (.tmp 11) = .pointer (some ⟨GA, 0, none⟩) := E.out 11 rfl
              refine step_plain rfl ?_
              refine op_val (v := .pointer (some ⟨GA, 1, none⟩)) (w' := w') ?_ ⟨Below.refl _ _, rfl⟩
              have hcon := E.con
              clear E
              go_simp
            · intro ρ w' E
              have e88 : ρ (.tmp 88) = .pointer (some ⟨GA, 1, none⟩) := E.pre 1 rfl
              refine step_plain rfl ?_
              have k := (World.cell?_of_block (w := w3) ((E.t.keep hput3 (fun hf => TKF_noA _ hf)).trans hput3.symm)).trans n1
              refine op_val (v := .int .i64 x.i) (w' := w') ?_ ⟨Below.refl _ _, rfl⟩
              have hcon := E.con
              clear E n1 hput3
              go_simp
            · intro ρ w' E
              have e17 : ρ (.tmp 17) = .slice aI kx cI := E.out 17 rfl
              refine step_plain rfl ?_
              exact op_move (.inl rfl) e17 ⟨Below.refl _ _, rfl⟩
            · intro ρ w' E
              have e9 : ρ (.tmp 9) = .pointer (some ⟨r, 0, none⟩) := E.out 9 rfl
              refine step_plain rfl ?_
              exact op_move (.inl rfl) e9 ⟨Below.refl _ _, rfl⟩
            · intro ρ w' E
              have e11 : ρ (.tmp 11) = .pointer (some ⟨GA, 0, none⟩) := E.out 11 rfl
              refine step_plain rfl ?_
              refine op_val (v := .pointer (some ⟨GA, 1, none⟩)) (w' := w') ?_ ⟨Below.refl _ _, rfl⟩
              have hcon := E.con
              clear E
              go_simp
            · intro ρ w' E
              have e93 : ρ (.tmp 93) = .pointer (some ⟨GA, 1, none⟩) := E.pre 6 rfl
              refine step_plain rfl ?_
              have k := (World.cell?_of_block (w := w3) ((E.t.keep hput3 (fun hf => TKF_noA _ hf)).trans hput3.symm)).trans n1
              refine op_val (v := .int .i64 x.i) (w' := w') ?_ ⟨Below.refl _ _, rfl⟩
              have hcon := E.con
              clear E n1 hput3
              go_simp
            · intro ρ w' E
              have e16 : ρ (.tmp 16) = .slice aX kx cX := E.out 16 rfl
              refine step_plain rfl ?_
              exact op_move (.inl rfl) e16 ⟨Below.refl _ _, rfl⟩
          · skip
            refine stageH_more [Sp.eq undef, Sp.eq undef, Sp.eq undef, Sp.eq undef] rfl ?_ ?_
            · refine stepsH_skip rfl (stepsH_skip rfl (stepsH_skip rfl (stepsH_skip rfl (stepsH_nil))))
            · intro σ1 ρ1 w1c E1 K1
              have e87 : ρ1 (.tmp 87) = .pointer (some ⟨g, 0, none⟩) := E1.early 0 rfl rfl
              have e89 : ρ1 (.tmp 89) = .int .i64 x.i := E1.early 2 rfl rfl
              have e90 : ρ1 (.tmp 90) = .slice aI kx cI := E1.early 3 rfl rfl
              refine step_plain rfl ?_
              refine op_call (f := 68) (args := #[.pointer (some ⟨g, 0, none⟩), .int .i64 x.i, .slice aI kx cI]) (w' := w1c) (by have hcon := E1.con; have hfn := E1.fn; clear E1 n1 hput3; go_simp) ?_
              refine ((HD3.out.ext E1.below).real E1.below.size (X := fun e _ => e = .returned (.int .i64 Em)) (d' := d') (p' := p') (fun K hd => hd.write hn6 hn0 (by omega) x.i aI cI kx lx (fun w' hm => ((HO3.out.ext E1.below).mod hm fun b _ _ => DF_no_u8 b).src) hkx.out (by have := HLX.out; omega) HRR.out)).mono ?_
              rintro e w2x ⟨rfl, hd2, hm2⟩
              have HB4 := Lib.hid ((bthen HB3.out E1.below (Nat.le_refl _)).trans (hm2.below (fun b T h => h.1) (bthen HB3.out E1.below (Nat.le_refl _)).size))
              have HH4 := Lib.hid (Nat.le_trans E1.below.size hm2.size)
              have HSX4 : Hid (∀ w', Mod (TKF w.heap.size tb) w2x w' → Src w' aX (bvs lx)) := Lib.hid fun w' hM => HSX.out _ (((bmod E1.below _).trans hm2).trans hM)
              refine ⟨_, rfl, hm2, ?_⟩
              refine stageH_more [Sp.eq undef, Sp.eq undef, Sp.eq undef, Sp.eq undef] rfl ?_ ?_
              · refine stepsH_skip rfl (stepsH_skip rfl (stepsH_skip rfl (stepsH_skip rfl (stepsH_nil))))
              · intro σ2 ρ2 w2c E2 K2
                have s91_2 : σ2 91 = .int .i64 Em := (K2.old 4 91 rfl rfl rfl).trans rfl
                have e92 : ρ2 (.tmp 92) = .pointer (some ⟨r, 0, none⟩) := E2.early 5 rfl rfl
                have e94 : ρ2 (.tmp 94) = .int .i64 x.i := E2.early 7 rfl rfl
                have e95 : ρ2 (.tmp 95) = .slice aX kx cX := E2.early 8 rfl rfl
                refine step_plain rfl ?_
                refine op_call (f := 69) (args := #[.pointer (some ⟨r, 0, none⟩), .int .i64 x.i, .slice aX kx cX]) (w' := w2c) (by have hcon := E2.con; have hfn := E2.fn; clear E2 E1 n1 hput3; go_simp) ?_
                refine ((hd2.ext E2.below).ref (Nat.le_trans HH4.out E2.below.size) (X := fun e _ => e = .returned (.int .i64 Em)) (e' := e') (p' := p') HOK'.out HFW'.out (fun Z hd hp => rdk_write Z w.heap.size r q tb n e p x.i aX cX kx lx w2c hd hp (hd2.rok) hn6 (hd2.ext E2.below).base (Nat.le_trans hd2.few (by omega)) hd2.tbR (fun w' hm => HSX4.out _ ((bmod E2.below _).trans (RDF.tkf hm))) hkx.out (by have := HLX.out; omega) HRE.out)).mono ?_
                rintro e w3x ⟨rfl, hd3, hm3⟩
                have HB5 := Lib.hid ((bthen HB4.out E2.below (Nat.le_refl _)).trans (hm3.below (fun b T h => h.1) (bthen HB4.out E2.below (Nat.le_refl _)).size))
                clear hd2 hm2 HB4
                refine ⟨_, rfl, hm3, ?_⟩
                refine stageH_last [Sp.eq (.bool false), Sp.eq (.bool false), Sp.eq (.slice aI kx cI), Sp.eq (.slice aX kx cX), Sp.eq (.bool true), Sp.eq (.bool false), Sp.eq (.bool false)] ?_ ?_
                · refine stepsH_cons rfl ?_ (stepsH_cons rfl ?_ (stepsH_cons rfl ?_ (stepsH_cons rfl ?_ (stepsH_cons rfl ?_ (stepsH_cons rfl ?_ (stepsH_cons rfl ?_ (stepsH_nil)))))))
                  · intro ρ w' E
                    have e91 : ρ (.tmp 91) = .int .i64 Em := (E.old 4 91 rfl rfl rfl).trans s91_2
                    have e96 : ρ (.tmp 96) = .int .i64 Em := (E.old 9 96 rfl rfl rfl).trans rfl
                    refine step_plain rfl ?_
                    refine op_val (v := .bool false) (w' := w') ?_ ⟨Below.refl _ _, rfl⟩
                    have hcon := E.con
                    clear E
                    go_simp
                  · intro ρ w' E
                    have e97 : ρ (.tmp 97) = .bool false := E.pre 10 rfl rfl rfl
                    refine step_plain rfl ?_
                    exact op_move (.inl rfl) e97 ⟨Below.refl _ _, rfl⟩
                  · intro ρ w' E
                    have e17 : ρ (.tmp 17) = .slice aI kx cI := E.out 17 rfl
                    refine step_yes rfl (E.pre 11 rfl rfl rfl) ?_
                    exact op_move (.inl rfl) e17 ⟨Below.refl _ _, rfl⟩
                  · intro ρ w' E
                    have e16 : ρ (.tmp 16) = .slice aX kx cX := E.out 16 rfl
                    refine step_yes rfl (E.pre 11 rfl rfl rfl) ?_
                    exact op_move (.inl rfl) e16 ⟨Below.refl _ _, rfl⟩
                  · intro ρ w' E
                    have e99 : ρ (.tmp 99) = .slice aI kx cI := E.pre 12 rfl rfl rfl
                    have e100 : ρ (.tmp 100) = .slice aX kx cX := E.pre 13 rfl rfl rfl
                    refine step_yes rfl (E.pre 11 rfl rfl rfl) ?_
                    refine op_call (f := 17) (args := #[.slice aI kx cI, .slice aX kx cX]) (w' := w') (by have hcon := E.con; have hfn := E.fn; clear E n1 hput3; go_simp) ?_
                    refine (bytes_at aI cI lx aX cX lx w' kx kx true (HO3.out.mod E.t fun b _ _ => TKF_no8 b).src (HSX.out _ E.t) hkx.out hkx.out (by have := HLX.out; omega) (by have := HLX.out; omega) (by simp)).mono ?_
                    rintro e w2 ⟨rfl, nd, rfl⟩
                    exact ⟨_, rfl, ext_drewN _ nd _, rfl⟩
                  · intro ρ w' E
                    have e101 : ρ (.tmp 101) = .bool true := E.pre 14 rfl rfl rfl
                    refine step_yes rfl (E.pre 11 rfl rfl rfl) ?_
                    refine op_val (v := .bool false) (w' := w') ?_ ⟨Below.refl _ _, rfl⟩
                    have hcon := E.con
                    clear E
                    go_simp
                  · intro ρ w' E
                    have e98 : ρ (.tmp 98) = .bool false := E.pre 11 rfl rfl rfl
                    have e102 : ρ (.tmp 102) = .bool false := E.pre 15 rfl rfl rfl
                    refine step_plain rfl ?_
                    exact op_pick (b := false) rfl e98 rfl ⟨Below.refl _ _, e102⟩
                · intro σF wF KF EF
                  have s103 : σF 103 = .bool false := KF.val 16 rfl rfl rfl
                  have GF := KF.below
                  have HOF : Hid (Own wF w2.heap.size 5 1 aI kx cI (bvs lx)) := Lib.hid (HO3.out.mod KF.t fun b _ _ => TKF_no8 b)
                  clear KF EF n1 hput3
                  simp only [upd, updL, dstsOf', elemB, List.filterMap_cons, List.filterMap_nil, Nat.reduceAdd, Nat.reduceBEq, Bool.or_false, Bool.or_true, cond_true, cond_false, Nat.zero_add, s103]
                  have HDF := Lib.hid (hd3.ext GF)
                  have HBF := Lib.hid (bthen HB5.out GF (Nat.le_refl _))
                  clear hd3 hm3 HB5 GF
                  go_wp2_with fail
                  refine (spoil_in HO3.out HOF.out hkx.out (by have := HLX.out; omega)).mono ?_
                  rintro _ wy ⟨rfl, hmy⟩
                  obtain ⟨dE, eE, pE, HTE, HIE, HLE, HBE⟩ : ∃ dE eE pE, Hid (TwoDk R w.heap.size 0 0 wy g pg r q tb n dE pE eE pE (j + 1)) ∧ Hid (DInv dE eE n pE) ∧ Hid (0 ≤ pE.life ∧ pE.life ≤ ((j + 1 : Nat) : Int)) ∧ Hid (Below w.heap.size w wy) := ⟨d', e', p', Lib.hid ((HDF.out.spoil hmy fun b T hf => ⟨⟨hf.1, hf.2.1⟩, hf.2.2⟩).whole), Lib.hid (HI3.out), Lib.hid (by rw [HI4.out]; have := Hp0.out; have := Hp1.out; omega), Lib.hid (HBF.out.trans (hmy.below (fun b T hf => Nat.le_trans HB2.out.size hf.1) HBF.out.size))⟩
                  clear hmy HDF HBF HOF HO3 HRR HRE
                  go_wp2_with fail
                  go_wp2_with fail
                  go_roundw
                  case rel => exact ⟨j + 1, dE, eE, pE, _, rfl, by omega, by go_num, HTE.out, HIE.out, HLE.out.1, HLE.out.2, HBE.out⟩
                  case measure => simp [intOf]; omega
      · as_aux_lemma =>
          have HTz := Lib.hid (HT.out.mono (m' := 60) hj)
          have HBz := Lib.hid hbr
          clear HT hbr
          go_wp2_with fail
          go_loopw [18] (fun i wx => ∃ (t : Nat) (d : DS) (e : RS) (wz : World), wz = wx ∧ t ≤ n ∧ i = .int .i64 (t : Int) ∧ TwoDk R w.heap.size 0 0 wz g pg r q tb n d p e p 60 ∧ DInv d e n p ∧ Below w.heap.size w wz) (fun i _ => n - (intOf i).toNat)
          case atStart => exact ⟨0, d, e, _, rfl, by omega, rfl, HTz.out, HI.out, HBz.out⟩
          case round =>
            obtain ⟨t, d, e, wz, hwz, ht, rfl, hT, hI, hbz⟩ := hrel
            subst hwz
            clear HTz HBz HI
            have HT := Lib.hid hT
            have HI := Lib.hid hI
            have HB := Lib.hid hbz
            clear hT hI hbz
            by_cases htn : t < n
            · by_cases ht12 : t < 12
              · obtain ⟨⟨lr, Er⟩, hrr⟩ : ∃ y, y = d.read p (t : Int) := ⟨_, rfl⟩
                have hre := read_eq HI.out (t : Int)
                rw [← hrr] at hre
                have HRR := Lib.hid hrr.symm
                have HRE := Lib.hid hre.symm
                have HLX := Lib.hid (ds_read_len HI.out.ok hrr.symm)
                clear hrr hre
                go_wp2_with fail
                refine (HT.out.real0 (X := fun x w' => ∃ a c k, x = .returned (.tuple #[.slice a k c, .int .i64 Er]) ∧ k = lr.length ∧ Own w' wz.heap.size 5 1 a k c (bvs lr)) (fun K hd => (hd.read hn6 hn0 (by decide) (t : Int) HRR.out).mono fun x w' ⟨a, c, k, h1, h2, h3, h4, h5⟩ => ⟨⟨a, c, k, h1, h2, h3⟩, h4, h5⟩)).mono ?_
                rintro x w2 ⟨⟨a2, c2, k2, rfl, hk2, ho2⟩, hd2, hm2⟩
                have HT2 := Lib.hid (hd2 0).whole
                have HB2 := Lib.hid (HB.out.trans (hm2.below (fun b T h => h.1) HB.out.size))
                have HO2 := Lib.hid ho2
                have Hk2 := Lib.hid hk2
                clear hd2 hm2 ho2 hk2
                go_wp2_with fail
                refine (HT2.out.ref (Nat.zero_le _) (X := fun x w' => ∃ a c k, x = .returned (.tuple #[.slice a k c, .int .i64 Er]) ∧ k = lr.length ∧ Own w' w2.heap.size 5 1 a k c (bvs lr)) (e' := e.wake p) (p' := p) (HT2.out.rok.wake p) (Nat.le_trans (e.loose_wake p) HT2.out.few) (fun Z hd hp => (rdk_read Z w.heap.size r q tb n e p (t : Int) w2 hd hp HT2.out.rok hn6 (by have := HT2.out.base; omega) (Nat.le_trans HT2.out.few (by decide)) HT2.out.tbR HRE.out).mono fun x w' ⟨a, c, k, h1, h2, h3, h4, h5, h6⟩ => ⟨⟨a, c, k, h1, h2, h3⟩, h4.mono (fun _ _ h => .inl h), h5, h6⟩)).mono ?_
                rintro x w4 ⟨⟨a4, c4, k4, rfl, hk4, ho4⟩, hd4, hm4⟩
                obtain rfl : k2 = k4 := by rw [hk4, Hk2.out]
                have HT4 := Lib.hid hd4
                have HB4 := Lib.hid (HB2.out.trans (hm4.below (fun b T h => h.1) HB2.out.size))
                have HS2 := Lib.hid (HO2.out.mod hm4 fun b _ _ => TKF_no8 b).src
                have HS4 := Lib.hid ho4.src
                have HIE := Lib.hid (HI.out.wakes)
                clear hd4 hm4 ho4 hk4 HB2 HT2 HO2 HT HB HI
                go_wp2_with fail
                refine (bytes_at a2 c2 lr a4 c4 lr w4 k2 k2 true HS2.out HS4.out Hk2.out Hk2.out (by have := HLX.out; have := Hk2.out; omega) (by have := HLX.out; have := Hk2.out; omega) (by simp)).mono ?_
                rintro x w5 ⟨rfl, nq, rfl⟩
                have hbd := ext_drewN w4 nq w4.heap.size
                have HT5 := Lib.hid (HT4.out.ext hbd)
                have HB5 := Lib.hid (bthen HB4.out hbd (Nat.le_refl _))
                clear hbd HT4 HB4
                go_wp2_with fail
                go_roundw
                case rel => exact ⟨t + 1, d.wake p, e.wake p, _, rfl, by omega, by go_num, HT5.out, HIE.out, HB5.out⟩
                case measure => simp [intOf]; omega
              · go_wp2_with fail
                refine (wakes09_any wz).mono ?_
                rintro e w4 ⟨rfl, hb4⟩
                go_wp2
                go_ret
                exact ⟨rfl, bthen HB.out hb4 (Nat.le_refl _)⟩
            · go_wp2_with fail
              refine (wakes09_any wz).mono ?_
              rintro e w4 ⟨rfl, hb4⟩
              go_wp2
              go_ret
              exact ⟨rfl, bthen HB.out hb4 (Nat.le_refl _)⟩
    · as_aux_lemma =>
        have HTz := Lib.hid (HT.out.mono (m' := 60) hj)
        have HBz := Lib.hid hbr
        clear HT hbr
        go_wp2_with fail
        go_loopw [18] (fun i wx => ∃ (t : Nat) (d : DS) (e : RS) (wz : World), wz = wx ∧ t ≤ n ∧ i = .int .i64 (t : Int) ∧ TwoDk R w.heap.size 0 0 wz g pg r q tb n d p e p 60 ∧ DInv d e n p ∧ Below w.heap.size w wz) (fun i _ => n - (intOf i).toNat)
        case atStart => exact ⟨0, d, e, _, rfl, by omega, rfl, HTz.out, HI.out, HBz.out⟩
        case round =>
          obtain ⟨t, d, e, wz, hwz, ht, rfl, hT, hI, hbz⟩ := hrel
          subst hwz
          clear HTz HBz HI
          have HT := Lib.hid hT
          have HI := Lib.hid hI
          have HB := Lib.hid hbz
          clear hT hI hbz
          by_cases htn : t < n
          · by_cases ht12 : t < 12
            · obtain ⟨⟨lr, Er⟩, hrr⟩ : ∃ y, y = d.read p (t : Int) := ⟨_, rfl⟩
              have hre := read_eq HI.out (t : Int)
              rw [← hrr] at hre
              have HRR := Lib.hid hrr.symm
              have HRE := Lib.hid hre.symm
              have HLX := Lib.hid (ds_read_len HI.out.ok hrr.symm)
              clear hrr hre
              go_wp2_with fail
              refine (HT.out.real0 (X := fun x w' => ∃ a c k, x = .returned (.tuple #[.slice a k c, .int .i64 Er]) ∧ k = lr.length ∧ Own w' wz.heap.size 5 1 a k c (bvs lr)) (fun K hd => (hd.read hn6 hn0 (by decide) (t : Int) HRR.out).mono fun x w' ⟨a, c, k, h1, h2, h3, h4, h5⟩ => ⟨⟨a, c, k, h1, h2, h3⟩, h4, h5⟩)).mono ?_
              rintro x w2 ⟨⟨a2, c2, k2, rfl, hk2, ho2⟩, hd2, hm2⟩
              have HT2 := Lib.hid (hd2 0).whole
              have HB2 := Lib.hid (HB.out.trans (hm2.below (fun b T h => h.1) HB.out.size))
              have HO2 := Lib.hid ho2
              have Hk2 := Lib.hid hk2
              clear hd2 hm2 ho2 hk2
              go_wp2_with fail
              refine (HT2.out.ref (Nat.zero_le _) (X := fun x w' => ∃ a c k, x = .returned (.tuple #[.slice a k c, .int .i64 Er]) ∧ k = lr.length ∧ Own w' w2.heap.size 5 1 a k c (bvs lr)) (e' := e.wake p) (p' := p) (HT2.out.rok.wake p) (Nat.le_trans (e.loose_wake p) HT2.out.few) (fun Z hd hp => (rdk_read Z w.heap.size r q tb n e p (t : Int) w2 hd hp HT2.out.rok hn6 (by have := HT2.out.base; omega) (Nat.le_trans HT2.out.few (by decide)) HT2.out.tbR HRE.out).mono fun x w' ⟨a, c, k, h1, h2, h3, h4, h5, h6⟩ => ⟨⟨a, c, k, h1, h2, h3⟩, h4.mono (fun _ _ h => .inl h), h5, h6⟩)).mono ?_
              rintro x w4 ⟨⟨a4, c4, k4, rfl, hk4, ho4⟩, hd4, hm4⟩
              obtain rfl : k2 = k4 := by rw [hk4, Hk2.out]
              have HT4 := Lib.hid hd4
              have HB4 := Lib.hid (HB2.out.trans (hm4.below (fun b T h => h.1) HB2.out.size))
              have HS2 := Lib.hid (HO2.out.mod hm4 fun b _ _ => TKF_no8 b).src
              have HS4 := Lib.hid ho4.src
              have HIE := Lib.hid (HI.out.wakes)
              clear hd4 hm4 ho4 hk4 HB2 HT2 HO2 HT HB HI
              go_wp2_with fail
              refine (bytes_at a2 c2 lr a4 c4 lr w4 k2 k2 true HS2.out HS4.out Hk2.out Hk2.out (by have := HLX.out; have := Hk2.out; omega) (by have := HLX.out; have := Hk2.out; omega) (by simp)).mono ?_
              rintro x w5 ⟨rfl, nq, rfl⟩
              have hbd := ext_drewN w4 nq w4.heap.size
              have HT5 := Lib.hid (HT4.out.ext hbd)
              have HB5 := Lib.hid (bthen HB4.out hbd (Nat.le_refl _))
              clear hbd HT4 HB4
              go_wp2_with fail
              go_roundw
              case rel => exact ⟨t + 1, d.wake p, e.wake p, _, rfl, by omega, by go_num, HT5.out, HIE.out, HB5.out⟩
              case measure => simp [intOf]; omega
            · go_wp2_with fail
              refine (wakes09_any wz).mono ?_
              rintro e w4 ⟨rfl, hb4⟩
              go_wp2
              go_ret
              exact ⟨rfl, bthen HB.out hb4 (Nat.le_refl _)⟩
          · go_wp2_with fail
            refine (wakes09_any wz).mono ?_
            rintro e w4 ⟨rfl, hb4⟩
            go_wp2
            go_ret
            exact ⟨rfl, bthen HB.out hb4 (Nat.le_refl _)⟩
end Go.Proofs.Ytclkkhpnnbkfmaa
