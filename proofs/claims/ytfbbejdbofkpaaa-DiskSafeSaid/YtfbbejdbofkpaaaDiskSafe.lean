/- The walk of DiskSafe. -/
import Derived.Test.YtfbbejdbofkpaaaDiskWakes
import Derived.Test.YtfbbejdbofkpaaaDiskPlain3
import Derived.Test.YtfbbejdbofkpaaaActs
namespace Go.Proofs.Ytfbbejdbofkpaaa
open Go.RowKit

theorem write_life (d : DS) (p : PS) (i : Int) (b : List Byte) : (d.write p i b).2.2.life = p.life := by
  unfold DS.write
  split
  · rfl
  · split
    · rfl
    · split
      · rfl
      · split <;> exact spend_life p
theorem sync_life (d : DS) (p : PS) : (d.sync p).2.2.life = p.life := by
  unfold DS.sync
  split
  · rfl
  · split <;> exact spend_life p
theorem cut_life (p : PS) (k : List Bool) (t : Int) : (p.cut k t).life = p.life := by unfold PS.cut; split <;> rfl
theorem arm_life (p : PS) (n : Int) (k : List Bool) (t : Int) : (p.arm n k t).life = p.life := rfl
theorem start_life (p : PS) : p.start.life = p.life ∨ p.start.life = p.life + 1 := by unfold PS.start; split <;> simp
theorem cut_start (p : PS) (k : List Bool) (t : Int) : (p.cut k t).start.off = false := by
  unfold PS.cut
  split
  · next h => unfold PS.start; rw [if_pos h]
  · unfold PS.start; rfl
theorem Kept.read {d : DS} {n m : Nat} {v : Nat → Sec} (h : Kept d n m v) (hmn : m ≤ n) {p : PS} (hp : p.off = false) {j : Nat} (hj : j < m) (hv : (v j).torn = false) : d.read p j = ((v j).bytes, 0) := by
  unfold DS.read
  rw [hp]
  have hw := h.wake p
  unfold DS.get DS.inB
  rw [hw.ok.now]
  simp only [Bool.false_eq_true, if_false]
  rw [if_pos (by rw [decide_eq_true_eq]; constructor <;> omega), Int.toNat_natCast, hw.now j hj, hv]
  rfl

set_option maxRecDepth 100000 in
set_option maxHeartbeats 8000000 in
theorem diskSafe_walk (w : World) (a : Option Addr) (c : Nat) (ps : List Bsl) (hm : Mat w a ps) (hn : ps.length ≤ 9223372036854775807) (al : Option Addr) (cl : Nat) (l : List ActV) (hs : AMat w al l) (hl : l.length ≤ 9223372036854775807) :
    Calls Try.prog 4 #[.slice a ps.length c, .slice al l.length cl] w fun e w' => e = .returned (.bool true) ∧ Below w.heap.size w w' := by
  have Hm := Lib.hid hm
  have Hs := Lib.hid hs
  obtain ⟨M, hM⟩ : ∃ M, M = ps.length := ⟨_, rfl⟩
  obtain ⟨N, hN⟩ : ∃ N, N = l.length := ⟨_, rfl⟩
  rw [← hM, ← hN]
  have HM := Lib.hid hM
  have HN := Lib.hid hN
  have hM2 : M ≤ 9223372036854775807 := by omega
  have hN2 : N ≤ 9223372036854775807 := by omega
  clear hm hs hM hN hn hl
  go_enter Try.func4, Try.ntmps4
  go_wp2_with fail
  refine (heavy09 al cl N l w Hs.out.src HN.out hN2).mono ?_
  rintro e w0 (⟨rfl, hb0⟩ | ⟨rfl, hb0, hlight⟩)
  · go_wp2
    go_ret
    exact ⟨rfl, hb0⟩
  · have Hli := Lib.hid hlight
    clear hlight
    by_cases h1 : 1 ≤ M
    · by_cases h10 : M ≤ 10
      · have g1 : ¬ M < 1 := by omega
        have g10 : ¬ 10 < M := by omega
        go_wp2_with fail
        refine (power_new w0).mono ?_
        rintro e w1 ⟨pg, rfl, hp, hb1⟩
        go_wp2_with fail
        refine (disk_new pg PS.new 20 w0.heap.size w1 hp (by decide) (by decide)).mono ?_
        rintro e w2 ⟨g, rfl, hd, hb2⟩
        have hN0 := new_dw hp hb1 hd hb2
        have HD2 : Hid (DW (fun _ => False) w.heap.size w2 g pg 20 (DS.new 0 20) PS.new 0) := Lib.hid ⟨hN0.disk.base hb0.size, hN0.pow.mono hb0.size, hN0.ok, Nat.le_trans hb0.size hN0.base, hN0.pend⟩
        have hb02 := bthen hb0 (bthen hb1 hb2 (Nat.le_refl _)) (Nat.le_refl _)
        clear hp hb1 hd hb2 hN0 hb0
        go_wp2_with fail
        obtain ⟨v, hv⟩ : ∃ v : Nat → Sec, v = fun i => ⟨pad ((ps.map Bsl.l).getD i []), false⟩ := ⟨_, rfl⟩
        have Hv := Lib.hid hv
        clear hv
        go_loopw [8] (fun i wr => ∃ (k : Nat) (d : DS), k ≤ M ∧ i = .int .i64 (k : Int) ∧ DW (fun _ => True) w.heap.size wr g pg 20 d PS.new k ∧ d.life = 0 ∧ (∀ j, j < k → d.now.getD j Sec.nought = v j) ∧ (∀ (j : Nat) (h : j < ps.length), j < k → ps[j].l.length ≤ 300) ∧ Below w.heap.size w wr) (fun i _ => M - (intOf i).toNat)
        case atStart => exact ⟨0, DS.new 0 20, by omega, rfl, HD2.out.mono (fun _ _ _ => trivial) (Nat.le_refl _), rfl, fun j h => by omega, fun j _ h => by omega, hb02⟩
        case round =>
          rename_i wr
          obtain ⟨k, d, hk, rfl, hD, hlife, hvj, h3j, hbr⟩ := hrel
          have H3j := Lib.hid h3j
          have HD := Lib.hid hD
          have Hlife := Lib.hid hlife
          have Hvj := Lib.hid hvj
          clear hD hlife hvj h3j hb02
          by_cases hlt : k < M
          · have hkp : k < ps.length := by have := HM.out; omega
            obtain ⟨b, o, rfl, hlb, hat⟩ := Hm.out.at hkp
            have hc0 := hat k hkp
            have hrow := Hm.out.row _ (List.getElem_mem hkp)
            have Hvk := Lib.hid (show v k = ⟨pad ps[k].l, false⟩ by rw [Hv.out]; simp [List.getD_eq_getElem?_getD, hkp])
            obtain ⟨q, hq⟩ : ∃ q, q = ps[k] := ⟨_, rfl⟩
            rw [← hq] at hc0 hrow Hvk
            have Hq := Lib.hid hq
            clear hq
            have hcell := (World.cell?_of_block (w := w) (a := ⟨b, o + k, none⟩) (hbr.block b hlb)).trans hc0
            have hs := Lib.hid (hrow.1.ext hbr)
            clear hat hc0 hrow
            by_cases h300 : q.l.length ≤ 300
            · go_wp2_with fail
              refine (sector_any (.slice none 0 0) (.int .i64 0) (.int .i64 0) (.int .i64 0) (.int .i64 0) false q.a q.c q.l.length q.l wr hs.out rfl (by omega) rfl).mono ?_
              rintro e w3 ⟨a3, c3, rfl, ho3, hb3⟩
              have HD3 := Lib.hid (HD.out.ext hb3)
              have Ho3 := Lib.hid ho3
              have hb03 := bthen hbr hb3 (Nat.le_refl _)
              clear hb3 ho3 hcell
              go_wp2_with fail
              refine (HD3.out.write (by decide) (by decide) (by omega) k a3 c3 256 (pad q.l) (fun w' hm => (Ho3.out.mod hm fun b _ _ => DF_no_u8 b).src) (pad_length q.l).symm (by decide)
                (write_on (n := 20) (i := k) HD3.out.ok rfl rfl (by rw [Hlife.out]; rfl) (by omega) (pad_length q.l))).mono ?_
              rintro e w4 ⟨rfl, hd4, hm4⟩
              have HD4 := Lib.hid hd4
              have hb04 := hb03.trans (hm4.below (fun b T h => h.1) hb03.size)
              clear hd4 hm4 hb03
              go_wp2_with fail
              go_roundw
              case rel =>
                refine ⟨k + 1, _, by omega, by go_num, HD4.out.mono (fun _ _ _ => trivial) (Nat.le_refl _), Hlife.out, fun j hj => ?_, fun j hj hjk => ?_, hb04⟩
                · have hnl := HD.out.ok.now
                  show (d.now.set k ⟨pad q.l, false⟩).getD j Sec.nought = v j
                  by_cases hjk : k = j
                  · subst hjk
                    rw [Hvk.out]
                    simp [List.getD_eq_getElem?_getD, List.getElem?_set, hnl, show k < 20 by omega]
                  · have := Hvj.out j (by omega)
                    rw [← this]
                    simp [List.getD_eq_getElem?_getD, List.getElem?_set, hjk]
                · by_cases hjk' : j = k
                  · subst hjk'
                    rw [← Hq.out]; exact h300
                  · exact H3j.out j hj (by omega)
              case measure => simp [intOf]; omega
            · go_wp2
              go_ret
              exact ⟨rfl, hbr⟩
          · have hkM : k = M := by omega
            subst hkM
            have H300 : Hid (∀ (j : Nat) (h : j < ps.length), ps[j].l.length ≤ 300) := Lib.hid fun j hj => H3j.out j hj (by have := HM.out; omega)
            go_wp2_with fail
            refine (HD.out.sync (by decide) (by decide) (by omega) (sync_on rfl rfl (by rw [Hlife.out]; rfl))).mono ?_
            rintro e wS ⟨rfl, hdS, hmS⟩
            have hbS := hbr.trans (hmS.below (fun b T h => h.1) hbr.size)
            obtain ⟨dS, HDS, HKS⟩ : ∃ dS, Hid (DW (fun _ => True) w.heap.size wS g pg 20 dS PS.new 10) ∧ Hid (Kept dS 20 k v) :=
              ⟨_, Lib.hid (hdS.mono (fun _ _ _ => trivial) (by omega)), Lib.hid ⟨hdS.ok, Hvj.out, Hvj.out, by simp⟩⟩
            clear hdS hmS hbr HD Hlife Hvj
            go_wp2_with fail
            go_loopw [9] (fun i wx => ∃ (j : Nat) (d : DS) (p : PS) (wr : World), wr = wx ∧ j ≤ 60 ∧ i = .int .i64 (j : Int) ∧ DW (fun _ => True) w.heap.size wr g pg 20 d p (10 + j) ∧ Kept d 20 k v ∧ 0 ≤ p.life ∧ p.life ≤ (j : Int) ∧ Below w.heap.size w wr) (fun i _ => 61 - (intOf i).toNat)
            case atStart => exact ⟨0, dS, PS.new, _, rfl, by omega, rfl, HDS.out, HKS.out, by decide, by decide, hbS⟩
            case round =>
              obtain ⟨j, d, p, wr, hwr, hj, rfl, hD, hK, hp0, hp1, hbr⟩ := hrel
              subst hwr
              have HD := Lib.hid hD
              have HK := Lib.hid hK
              have Hp0 := Lib.hid hp0
              have Hp1 := Lib.hid hp1
              clear hD hK hp0 hp1 hbS
              by_cases hjN : j < N
              · by_cases hj60 : j < 60
                · have hjl : j < l.length := by have := HN.out; omega
                  obtain ⟨b, o, rfl, hlb, hat⟩ := Hs.out.src.elem ActV.len (by decide) hjl
                  have hok := Hs.out.ok _ (List.getElem_mem hjl)
                  obtain ⟨hL3, hL5⟩ := Hli.out.2 j hjl hj60
                  obtain ⟨x, hx⟩ : ∃ x, x = l[j] := ⟨_, rfl⟩
                  rw [← hx] at hok hL3 hL5
                  have c0 := (World.cell?_of_block (w := w) (a := ⟨b, o + j * 7, none⟩) (hbr.block b hlb)).trans (hat j hjl 0 (.int .i64 x.what) (by rw [hx]; rfl))
                  have c1 := (World.cell?_of_block (w := w) (a := ⟨b, o + j * 7 + 1, none⟩) (hbr.block b hlb)).trans (hat j hjl 1 (.int .i64 x.i) (by rw [hx]; rfl))
                  have c2 := (World.cell?_of_block (w := w) (a := ⟨b, o + j * 7 + 2, none⟩) (hbr.block b hlb)).trans (hat j hjl 2 (.int .i64 x.n) (by rw [hx]; rfl))
                  have c3 := (World.cell?_of_block (w := w) (a := ⟨b, o + j * 7 + 3, none⟩) (hbr.block b hlb)).trans (hat j hjl 3 (.slice x.b.a x.b.l.length x.b.c) (by rw [hx]; rfl))
                  have c4 := (World.cell?_of_block (w := w) (a := ⟨b, o + j * 7 + 4, none⟩) (hbr.block b hlb)).trans (hat j hjl 4 (.bool x.raw) (by rw [hx]; rfl))
                  have c5 := (World.cell?_of_block (w := w) (a := ⟨b, o + j * 7 + 5, none⟩) (hbr.block b hlb)).trans (hat j hjl 5 (.slice x.ka x.keep.length x.kc) (by rw [hx]; rfl))
                  have c6 := (World.cell?_of_block (w := w) (a := ⟨b, o + j * 7 + 6, none⟩) (hbr.block b hlb)).trans (hat j hjl 6 (.int .i64 x.torn) (by rw [hx]; rfl))
                  have Hok0 := Lib.hid hok
                  have Hok := Lib.hid (hok.ext hbr)
                  have HPG := Lib.hid (show w.heap.size ≤ pg by obtain ⟨_, _, _, hc, _⟩ := HD.out.pow; exact hc.1)
                  clear hat hx hok
                  have hput := setRow_heap (wr.alloc (.cells #[.int .i64 0, .int .i64 0, .int .i64 0, .slice none 0 0, .bool false, .slice none 0 0, .int .i64 0] 36)) wr.heap.size _ #[.int .i64 x.what, .int .i64 x.i, .int .i64 x.n, .slice x.b.a x.b.l.length x.b.c, .bool x.raw, .slice x.ka x.keep.length x.kc, .int .i64 x.torn] _ _ (heap_alloc_new wr _)
                  have hbp : Below wr.heap.size wr ((wr.alloc (.cells #[.int .i64 0, .int .i64 0, .int .i64 0, .slice none 0 0, .bool false, .slice none 0 0, .int .i64 0] 36)).setRow wr.heap.size #[.int .i64 x.what, .int .i64 x.i, .int .i64 x.n, .slice x.b.a x.b.l.length x.b.c, .bool x.raw, .slice x.ka x.keep.length x.kc, .int .i64 x.torn]) := bsetRow (ext_alloc wr _) (Nat.le_refl _) _
                  have m0 := cell_of_row _ _ 0 _ _ _ hput
                  have m1 := cell_of_row _ _ 1 _ _ _ hput
                  have m2 := cell_of_row _ _ 2 _ _ _ hput
                  have m3 := cell_of_row _ _ 3 _ _ _ hput
                  have m5 := cell_of_row _ _ 5 _ _ _ hput
                  have m6 := cell_of_row _ _ 6 _ _ _ hput
                  obtain ⟨z, hz, ez⟩ : ∃ z : Nat, z < 9 ∧ (IntKind.u64.wrap x.what).tmod 9 = (z : Int) := by
                    have hx : 0 ≤ IntKind.u64.wrap x.what := by rw [IntKind.wrap_u64]; omega
                    rw [Int.tmod_eq_emod_of_nonneg hx]
                    exact ⟨((IntKind.u64.wrap x.what) % 9).toNat, by omega, by omega⟩
                  by_cases hz3 : z = 3
                  · have e3 : ((z : Int) == 3) = true := by simp; omega
                    go_wp2_with (first
                      | (refine wpList_store_row rfl rfl 36 (.tmp 10) (.tmp 80) rfl wr.heap.size rfl 36 #[.int .i64 0, .int .i64 0, .int .i64 0, .slice none 0 0, .bool false, .slice none 0 0, .int .i64 0] #[.int .i64 x.what, .int .i64 x.i, .int .i64 x.n, .slice x.b.a x.b.l.length x.b.c, .bool x.raw, .slice x.ka x.keep.length x.kc, .int .i64 x.torn] rfl (heap_alloc_new wr _) rfl (by kernel_rfl) (by intro v hv; simp at hv; rcases hv with rfl | rfl | rfl | rfl | rfl | rfl | rfl <;> rfl) ?_))
                    generalize hws : World.setRow _ _ _ = w1 at *
                    have HD1 := Lib.hid (HD.out.ext hbp)
                    have hb1 := bthen hbr hbp (Nat.le_refl _)
                    have Hxs := Lib.hid (Hok.out.1.1.ext hbp)
                    have Hks := Lib.hid (Hok.out.2.1.ext hbp)
                    have HG := Lib.hid (show wr.heap.size ≠ pg from fun h => by
                      obtain ⟨_, _, _, hc, _⟩ := HD.out.pow
                      have := heap_lt hc.2
                      omega)
                    clear hws hbp c0 c1 c2 c3 c4 c5 c6 hbr
                    generalize wr.heap.size = G10 at *
                    refine (HD1.out.read (by decide) (by decide) (by omega) x.i (b := (d.read p x.i).1) (E := (d.read p x.i).2) rfl).mono ?_
                    rintro e w2 ⟨a2, c2, k2, rfl, _, _, hd2, hm2⟩
                    have HDE := Lib.hid (hd2.mono (K' := fun _ => True) (m' := 10 + (j + 1)) (fun _ _ _ => trivial) (by omega))
                    have HKE := Lib.hid (HK.out.wake p)
                    have HLE := Lib.hid (show 0 ≤ p.life ∧ p.life ≤ ((j + 1 : Nat) : Int) by have := Hp0.out; have := Hp1.out; omega)
                    have hbE := hb1.trans (hm2.below (fun b T h => h.1) hb1.size)
                    clear hd2 hm2 hb1
                    go_wp2_with fail
                    go_roundw
                    case rel => exact ⟨j + 1, _, _, _, rfl, by omega, by go_num, HDE.out, HKE.out, HLE.out.1, HLE.out.2, hbE⟩
                    case measure => simp [intOf]; omega
                  by_cases hz8 : z = 8
                  · have e3 : ((z : Int) == 3) = false := by simp; omega
                    have e8 : ((z : Int) == 8) = true := by simp; omega
                    go_wp2_with (first
                      | (refine wpList_store_row rfl rfl 36 (.tmp 10) (.tmp 80) rfl wr.heap.size rfl 36 #[.int .i64 0, .int .i64 0, .int .i64 0, .slice none 0 0, .bool false, .slice none 0 0, .int .i64 0] #[.int .i64 x.what, .int .i64 x.i, .int .i64 x.n, .slice x.b.a x.b.l.length x.b.c, .bool x.raw, .slice x.ka x.keep.length x.kc, .int .i64 x.torn] rfl (heap_alloc_new wr _) rfl (by kernel_rfl) (by intro v hv; simp at hv; rcases hv with rfl | rfl | rfl | rfl | rfl | rfl | rfl <;> rfl) ?_))
                    generalize hws : World.setRow _ _ _ = w1 at *
                    have HD1 := Lib.hid (HD.out.ext hbp)
                    have hb1 := bthen hbr hbp (Nat.le_refl _)
                    have Hxs := Lib.hid (Hok.out.1.1.ext hbp)
                    have Hks := Lib.hid (Hok.out.2.1.ext hbp)
                    have HG := Lib.hid (show wr.heap.size ≠ pg from fun h => by
                      obtain ⟨_, _, _, hc, _⟩ := HD.out.pow
                      have := heap_lt hc.2
                      omega)
                    clear hws hbp c0 c1 c2 c3 c4 c5 c6 hbr
                    generalize wr.heap.size = G10 at *
                    refine (HD1.out.read (by decide) (by decide) (by omega) x.i (b := (d.read p x.i).1) (E := (d.read p x.i).2) rfl).mono ?_
                    rintro e w2 ⟨a2, c2, k2, rfl, _, _, hd2, hm2⟩
                    have HDE := Lib.hid (hd2.mono (K' := fun _ => True) (m' := 10 + (j + 1)) (fun _ _ _ => trivial) (by omega))
                    have HKE := Lib.hid (HK.out.wake p)
                    have HLE := Lib.hid (show 0 ≤ p.life ∧ p.life ≤ ((j + 1 : Nat) : Int) by have := Hp0.out; have := Hp1.out; omega)
                    have hbE := hb1.trans (hm2.below (fun b T h => h.1) hb1.size)
                    clear hd2 hm2 hb1
                    go_wp2_with fail
                    go_roundw
                    case rel => exact ⟨j + 1, _, _, _, rfl, by omega, by go_num, HDE.out, HKE.out, HLE.out.1, HLE.out.2, hbE⟩
                    case measure => simp [intOf]; omega
                  by_cases hz4 : z = 4
                  · have e3 : ((z : Int) == 3) = false := by simp; omega
                    have e8 : ((z : Int) == 8) = false := by simp; omega
                    have e4 : ((z : Int) == 4) = true := by simp; omega
                    go_wp2_with (first
                      | (refine wpList_store_row rfl rfl 36 (.tmp 10) (.tmp 80) rfl wr.heap.size rfl 36 #[.int .i64 0, .int .i64 0, .int .i64 0, .slice none 0 0, .bool false, .slice none 0 0, .int .i64 0] #[.int .i64 x.what, .int .i64 x.i, .int .i64 x.n, .slice x.b.a x.b.l.length x.b.c, .bool x.raw, .slice x.ka x.keep.length x.kc, .int .i64 x.torn] rfl (heap_alloc_new wr _) rfl (by kernel_rfl) (by intro v hv; simp at hv; rcases hv with rfl | rfl | rfl | rfl | rfl | rfl | rfl <;> rfl) ?_))
                    generalize hws : World.setRow _ _ _ = w1 at *
                    have HD1 := Lib.hid (HD.out.ext hbp)
                    have hb1 := bthen hbr hbp (Nat.le_refl _)
                    have Hxs := Lib.hid (Hok.out.1.1.ext hbp)
                    have Hks := Lib.hid (Hok.out.2.1.ext hbp)
                    have HG := Lib.hid (show wr.heap.size ≠ pg from fun h => by
                      obtain ⟨_, _, _, hc, _⟩ := HD.out.pow
                      have := heap_lt hc.2
                      omega)
                    clear hws hbp c0 c1 c2 c3 c4 c5 c6 hbr
                    generalize wr.heap.size = G10 at *
                    refine (HD1.out.sync (by decide) (by decide) (by omega) (E := (d.sync p).1) (d' := (d.sync p).2.1) (p' := (d.sync p).2.2) rfl).mono ?_
                    rintro e w2 ⟨rfl, hd2, hm2⟩
                    have HDE := Lib.hid (hd2.mono (K' := fun _ => True) (m' := 10 + (j + 1)) (fun _ _ _ => trivial) (by omega))
                    have HKE := Lib.hid (HK.out.sync p)
                    have HLE := Lib.hid (show 0 ≤ (d.sync p).2.2.life ∧ (d.sync p).2.2.life ≤ ((j + 1 : Nat) : Int) by rw [sync_life]; have := Hp0.out; have := Hp1.out; omega)
                    have hbE := hb1.trans (hm2.below (fun b T h => h.1) hb1.size)
                    clear hd2 hm2 hb1
                    go_wp2_with fail
                    go_roundw
                    case rel => exact ⟨j + 1, _, _, _, rfl, by omega, by go_num, HDE.out, HKE.out, HLE.out.1, HLE.out.2, hbE⟩
                    case measure => simp [intOf]; omega
                  by_cases hz5 : z = 5
                  · have e3 : ((z : Int) == 3) = false := by simp; omega
                    have e8 : ((z : Int) == 8) = false := by simp; omega
                    have e4 : ((z : Int) == 4) = false := by simp; omega
                    have e5 : ((z : Int) == 5) = true := by simp; omega
                    go_wp2_with (first
                      | (refine wpList_store_row rfl rfl 36 (.tmp 10) (.tmp 80) rfl wr.heap.size rfl 36 #[.int .i64 0, .int .i64 0, .int .i64 0, .slice none 0 0, .bool false, .slice none 0 0, .int .i64 0] #[.int .i64 x.what, .int .i64 x.i, .int .i64 x.n, .slice x.b.a x.b.l.length x.b.c, .bool x.raw, .slice x.ka x.keep.length x.kc, .int .i64 x.torn] rfl (heap_alloc_new wr _) rfl (by kernel_rfl) (by intro v hv; simp at hv; rcases hv with rfl | rfl | rfl | rfl | rfl | rfl | rfl <;> rfl) ?_))
                    generalize hws : World.setRow _ _ _ = w1 at *
                    have HD1 := Lib.hid (HD.out.ext hbp)
                    have hb1 := bthen hbr hbp (Nat.le_refl _)
                    have Hxs := Lib.hid (Hok.out.1.1.ext hbp)
                    have Hks := Lib.hid (Hok.out.2.1.ext hbp)
                    have HG := Lib.hid (show wr.heap.size ≠ pg from fun h => by
                      obtain ⟨_, _, _, hc, _⟩ := HD.out.pow
                      have := heap_lt hc.2
                      omega)
                    clear hws hbp c0 c1 c2 c3 c4 c5 c6 hbr
                    generalize wr.heap.size = G10 at *
                    refine (HD1.out.cut x.ka x.kc x.keep.length x.keep x.torn Hks.out rfl (by omega) rfl).mono ?_
                    rintro e w2 ⟨rfl, hd2, hm2⟩
                    have HDE := Lib.hid (hd2.mono (K' := fun _ => True) (m' := 10 + (j + 1)) (fun _ _ _ => trivial) (by omega))
                    have HKE := HK
                    have HLE := Lib.hid (show 0 ≤ (p.cut x.keep x.torn).life ∧ (p.cut x.keep x.torn).life ≤ ((j + 1 : Nat) : Int) by rw [cut_life]; have := Hp0.out; have := Hp1.out; omega)
                    have hbE := hb1.trans (hm2.below (fun b T h => h.1) hb1.size)
                    clear hd2 hm2 hb1
                    go_wp2_with fail
                    go_roundw
                    case rel => exact ⟨j + 1, _, _, _, rfl, by omega, by go_num, HDE.out, HKE.out, HLE.out.1, HLE.out.2, hbE⟩
                    case measure => simp [intOf]; omega
                  by_cases hz6 : z = 6
                  · have e3 : ((z : Int) == 3) = false := by simp; omega
                    have e8 : ((z : Int) == 8) = false := by simp; omega
                    have e4 : ((z : Int) == 4) = false := by simp; omega
                    have e5 : ((z : Int) == 5) = false := by simp; omega
                    have e6 : ((z : Int) == 6) = true := by simp; omega
                    go_wp2_with (first
                      | (refine wpList_store_row rfl rfl 36 (.tmp 10) (.tmp 80) rfl wr.heap.size rfl 36 #[.int .i64 0, .int .i64 0, .int .i64 0, .slice none 0 0, .bool false, .slice none 0 0, .int .i64 0] #[.int .i64 x.what, .int .i64 x.i, .int .i64 x.n, .slice x.b.a x.b.l.length x.b.c, .bool x.raw, .slice x.ka x.keep.length x.kc, .int .i64 x.torn] rfl (heap_alloc_new wr _) rfl (by kernel_rfl) (by intro v hv; simp at hv; rcases hv with rfl | rfl | rfl | rfl | rfl | rfl | rfl <;> rfl) ?_))
                    generalize hws : World.setRow _ _ _ = w1 at *
                    have HD1 := Lib.hid (HD.out.ext hbp)
                    have hb1 := bthen hbr hbp (Nat.le_refl _)
                    have Hxs := Lib.hid (Hok.out.1.1.ext hbp)
                    have Hks := Lib.hid (Hok.out.2.1.ext hbp)
                    have HG := Lib.hid (show wr.heap.size ≠ pg from fun h => by
                      obtain ⟨_, _, _, hc, _⟩ := HD.out.pow
                      have := heap_lt hc.2
                      omega)
                    clear hws hbp c0 c1 c2 c3 c4 c5 c6 hbr
                    generalize wr.heap.size = G10 at *
                    refine (HD1.out.start Hp0.out (by have := Hp1.out; omega) rfl).mono ?_
                    rintro e w2 ⟨rfl, hd2, hm2⟩
                    have HDE := Lib.hid (hd2.mono (K' := fun _ => True) (m' := 10 + (j + 1)) (fun _ _ _ => trivial) (by omega))
                    have HKE := HK
                    have HLE := Lib.hid (show 0 ≤ p.start.life ∧ p.start.life ≤ ((j + 1 : Nat) : Int) by have h0 := Hp0.out; have h1 := Hp1.out; rcases start_life p with h | h <;> rw [h] <;> omega)
                    have hbE := hb1.trans (hm2.below (fun b T h => h.1) hb1.size)
                    clear hd2 hm2 hb1
                    go_wp2_with fail
                    go_roundw
                    case rel => exact ⟨j + 1, _, _, _, rfl, by omega, by go_num, HDE.out, HKE.out, HLE.out.1, HLE.out.2, hbE⟩
                    case measure => simp [intOf]; omega
                  by_cases hz7 : z = 7
                  · have e3 : ((z : Int) == 3) = false := by simp; omega
                    have e8 : ((z : Int) == 8) = false := by simp; omega
                    have e4 : ((z : Int) == 4) = false := by simp; omega
                    have e5 : ((z : Int) == 5) = false := by simp; omega
                    have e6 : ((z : Int) == 6) = false := by simp; omega
                    have e7 : ((z : Int) == 7) = true := by simp; omega
                    go_wp2_with (first
                      | (refine wpList_store_row rfl rfl 36 (.tmp 10) (.tmp 80) rfl wr.heap.size rfl 36 #[.int .i64 0, .int .i64 0, .int .i64 0, .slice none 0 0, .bool false, .slice none 0 0, .int .i64 0] #[.int .i64 x.what, .int .i64 x.i, .int .i64 x.n, .slice x.b.a x.b.l.length x.b.c, .bool x.raw, .slice x.ka x.keep.length x.kc, .int .i64 x.torn] rfl (heap_alloc_new wr _) rfl (by kernel_rfl) (by intro v hv; simp at hv; rcases hv with rfl | rfl | rfl | rfl | rfl | rfl | rfl <;> rfl) ?_))
                    generalize hws : World.setRow _ _ _ = w1 at *
                    have HD1 := Lib.hid (HD.out.ext hbp)
                    have hb1 := bthen hbr hbp (Nat.le_refl _)
                    have Hxs := Lib.hid (Hok.out.1.1.ext hbp)
                    have Hks := Lib.hid (Hok.out.2.1.ext hbp)
                    have HG := Lib.hid (show wr.heap.size ≠ pg from fun h => by
                      obtain ⟨_, _, _, hc, _⟩ := HD.out.pow
                      have := heap_lt hc.2
                      omega)
                    clear hws hbp c0 c1 c2 c3 c4 c5 c6 hbr
                    generalize wr.heap.size = G10 at *
                    refine (HD1.out.arm x.n x.ka x.kc x.keep.length x.keep x.torn (Hok0.out.2.1.keep fun b o _ hl => (setCell_ne b (by have := HPG.out; omega)).trans (hb1.block b hl)) rfl (by omega) (by have := Hok.out.2.2.2; simp [Lit.wf, IntKind.min, IntKind.max, IntKind.signed, IntKind.bits] at this; omega) rfl).mono ?_
                    rintro e w2 ⟨rfl, hd2, hm2⟩
                    have HDE := Lib.hid (hd2.mono (K' := fun _ => True) (m' := 10 + (j + 1)) (fun _ _ _ => trivial) (by omega))
                    have HKE := HK
                    have HLE := Lib.hid (show 0 ≤ (p.arm x.n x.keep x.torn).life ∧ (p.arm x.n x.keep x.torn).life ≤ ((j + 1 : Nat) : Int) by rw [arm_life]; have := Hp0.out; have := Hp1.out; omega)
                    have hbE := hb1.trans (hm2.below (fun b T h => h.1) hb1.size)
                    clear hd2 hm2 hb1
                    go_wp2_with fail
                    go_roundw
                    case rel => exact ⟨j + 1, _, _, _, rfl, by omega, by go_num, HDE.out, HKE.out, HLE.out.1, HLE.out.2, hbE⟩
                    case measure => simp [intOf]; omega
                  have e3 : ((z : Int) == 3) = false := by simp; omega
                  have e8 : ((z : Int) == 8) = false := by simp; omega
                  have e4 : ((z : Int) == 4) = false := by simp; omega
                  have e5 : ((z : Int) == 5) = false := by simp; omega
                  have e6 : ((z : Int) == 6) = false := by simp; omega
                  have e7 : ((z : Int) == 7) = false := by simp; omega
                  obtain ⟨vv, hvv, ev⟩ : ∃ z : Nat, z < 10 ∧ (IntKind.u64.wrap x.i).tmod 10 = (z : Int) := by
                    have hx : 0 ≤ IntKind.u64.wrap x.i := by rw [IntKind.wrap_u64]; omega
                    rw [Int.tmod_eq_emod_of_nonneg hx]
                    exact ⟨((IntKind.u64.wrap x.i) % 10).toNat, by omega, by omega⟩
                  go_wp2_with (first
                    | (refine wpList_store_row rfl rfl 36 (.tmp 10) (.tmp 80) rfl wr.heap.size rfl 36 #[.int .i64 0, .int .i64 0, .int .i64 0, .slice none 0 0, .bool false, .slice none 0 0, .int .i64 0] #[.int .i64 x.what, .int .i64 x.i, .int .i64 x.n, .slice x.b.a x.b.l.length x.b.c, .bool x.raw, .slice x.ka x.keep.length x.kc, .int .i64 x.torn] rfl (heap_alloc_new wr _) rfl (by kernel_rfl) (by intro v hv; simp at hv; rcases hv with rfl | rfl | rfl | rfl | rfl | rfl | rfl <;> rfl) ?_))
                  generalize hws : World.setRow _ _ _ = w1 at *
                  have HD1 := Lib.hid (HD.out.ext hbp)
                  have hb1 := bthen hbr hbp (Nat.le_refl _)
                  have Hxs := Lib.hid (Hok.out.1.1.ext hbp)
                  have Hks := Lib.hid (Hok.out.2.1.ext hbp)
                  have HG := Lib.hid (show wr.heap.size ≠ pg from fun h => by
                    obtain ⟨_, _, _, hc, _⟩ := HD.out.pow
                    have := heap_lt hc.2
                    omega)
                  clear hws hbp c0 c1 c2 c3 c4 c5 c6 hbr
                  generalize wr.heap.size = G10 at *
                  have hl10 := heap_lt hput
                  clear hput
                  refine wp_region_chainL (by kernel_rfl) [10, 11] (Keeps.rel (fun b => b = G10)) [SpT.eq (.pointer (some ⟨g, 0, none⟩)), SpT.eq (.pointer (some ⟨G10, 1, none⟩)), SpT.eq (.int .i64 x.i), SpT.eq (.int .u64 (IntKind.u64.wrap x.i)), SpT.eq (.int .u64 ((IntKind.u64.wrap x.i).tmod 10)), SpT.eq (.int .i64 (vv : Int)), SpT.eq (.int .i64 ((10 + vv : Nat) : Int)), SpT.eq (.pointer (some ⟨G10, 3, none⟩)), SpT.eq (.slice x.b.a x.b.l.length x.b.c), SpT.eq (.agg #[.int .i64 0, .int .i64 0, .int .i64 0, .slice x.b.a x.b.l.length x.b.c, .bool false, .slice none 0 0, .int .i64 0]), SpT.top, SpT.top] (by kernel_rfl) (by kernel_rfl) (by kernel_rfl) (by kernel_rfl) ?_ ?_
                  · refine stepsL_free rfl ?_ (stepsL_free rfl ?_ (stepsL_free rfl ?_ (stepsL_free rfl ?_ (stepsL_free rfl ?_ (stepsL_free rfl ?_ (stepsL_free rfl ?_ (stepsL_free rfl ?_ (stepsL_free rfl ?_ (stepsL_free rfl ?_ (stepsL_chain rfl (stepsL_chain rfl (stepsL_nil))))))))))))
                    · intro ρ w' E
                      have e6 : ρ (.tmp 6) = .pointer (some ⟨g, 0, none⟩) := E.out 6 rfl
                      refine step_plain rfl ?_
                      exact op_move (.inl rfl) e6 ⟨Below.refl _ _, rfl⟩
                    · intro ρ w' E
                      have e10 : ρ (.tmp 10) = .pointer (some ⟨G10, 0, none⟩) := E.out 10 rfl
                      refine step_plain rfl ?_
                      refine op_val (v := .pointer (some ⟨G10, 1, none⟩)) (w' := w') ?_ ⟨Below.refl _ _, rfl⟩
                      have hcon := E.con
                      clear E
                      go_simp
                    · intro ρ w' E
                      have e86 : ρ (.tmp 86) = .pointer (some ⟨G10, 1, none⟩) := E.pre 1 rfl rfl
                      refine step_plain rfl ?_
                      refine op_val (v := .int .i64 x.i) (w' := w') ?_ ⟨Below.refl _ _, rfl⟩
                      have hk : w'.cell? ⟨G10, 1, none⟩ = some (.int .i64 x.i) := (World.cell?_of_block (w := w1) (E.t.block G10 rfl hl10)).trans m1
                      have hcon := E.con
                      clear E m0 m1 m2 m3 m5 m6
                      go_simp
                    · intro ρ w' E
                      have e87 : ρ (.tmp 87) = .int .i64 x.i := E.pre 2 rfl rfl
                      refine step_plain rfl ?_
                      refine op_val (v := .int .u64 (IntKind.u64.wrap x.i)) (w' := w') ?_ ⟨Below.refl _ _, rfl⟩
                      have hcon := E.con
                      clear E
                      go_simp
                    · intro ρ w' E
                      have e88 : ρ (.tmp 88) = .int .u64 (IntKind.u64.wrap x.i) := E.pre 3 rfl rfl
                      refine step_plain rfl ?_
                      refine op_val (v := .int .u64 ((IntKind.u64.wrap x.i).tmod 10)) (w' := w') ?_ ⟨Below.refl _ _, rfl⟩
                      have hcon := E.con
                      clear E
                      go_simp
                    · intro ρ w' E
                      have e89 : ρ (.tmp 89) = .int .u64 ((IntKind.u64.wrap x.i).tmod 10) := E.pre 4 rfl rfl
                      refine step_plain rfl ?_
                      refine op_val (v := .int .i64 (vv : Int)) (w' := w') ?_ ⟨Below.refl _ _, rfl⟩
                      have hcon := E.con
                      clear E
                      go_simp
                      rw [IntKind.wrap_i64]
                      omega
                    · intro ρ w' E
                      have e90 : ρ (.tmp 90) = .int .i64 (vv : Int) := E.pre 5 rfl rfl
                      refine step_plain rfl ?_
                      refine op_val (v := .int .i64 ((10 + vv : Nat) : Int)) (w' := w') ?_ ⟨Below.refl _ _, rfl⟩
                      have hcon := E.con
                      clear E
                      go_simp
                      rw [IntKind.wrap_i64]
                      omega
                    · intro ρ w' E
                      have e10 : ρ (.tmp 10) = .pointer (some ⟨G10, 0, none⟩) := E.out 10 rfl
                      refine step_plain rfl ?_
                      refine op_val (v := .pointer (some ⟨G10, 3, none⟩)) (w' := w') ?_ ⟨Below.refl _ _, rfl⟩
                      have hcon := E.con
                      clear E
                      go_simp
                    · intro ρ w' E
                      have e92 : ρ (.tmp 92) = .pointer (some ⟨G10, 3, none⟩) := E.pre 7 rfl rfl
                      refine step_plain rfl ?_
                      refine op_val (v := .slice x.b.a x.b.l.length x.b.c) (w' := w') ?_ ⟨Below.refl _ _, rfl⟩
                      have hk : w'.cell? ⟨G10, 3, none⟩ = some (.slice x.b.a x.b.l.length x.b.c) := (World.cell?_of_block (w := w1) (E.t.block G10 rfl hl10)).trans m3
                      have hcon := E.con
                      clear E m0 m1 m2 m3 m5 m6
                      go_simp
                    · intro ρ w' E
                      have e93 : ρ (.tmp 93) = .slice x.b.a x.b.l.length x.b.c := E.pre 8 rfl rfl
                      refine step_plain rfl ?_
                      refine op_val (v := .agg #[.int .i64 0, .int .i64 0, .int .i64 0, .slice x.b.a x.b.l.length x.b.c, .bool false, .slice none 0 0, .int .i64 0]) (w' := w') ?_ ⟨Below.refl _ _, rfl⟩
                      have hcon := E.con
                      clear E
                      go_simp
                  · intro ρ1 w1c G1 E1
                    have e94 : ρ1 (.tmp 94) = .agg #[.int .i64 0, .int .i64 0, .int .i64 0, .slice x.b.a x.b.l.length x.b.c, .bool false, .slice none 0 0, .int .i64 0] := E1.pre 9 rfl rfl
                    refine step_plain rfl ?_
                    refine op_call (f := 16) (args := #[.agg #[.int .i64 0, .int .i64 0, .int .i64 0, .slice x.b.a x.b.l.length x.b.c, .bool false, .slice none 0 0, .int .i64 0]]) (w' := w1c) (by have hcon := E1.con; have hfn := E1.fn; clear E1 m0 m1 m2 m3 m5 m6; go_simp) ?_
                    refine (sector_any (.slice none 0 0) (.int .i64 0) (.int .i64 0) (.int .i64 0) (.int .i64 0) false x.b.a x.b.c x.b.l.length x.b.l w1c (Hxs.out.ext G1) rfl (by omega) rfl).mono ?_
                    rintro e wx1 ⟨a5, c5, rfl, ho5, hb5⟩
                    refine ⟨_, rfl, (Keeps.rel (fun b => b = G10)).of hb5, ?_⟩
                    intro ρ2 w2c G2 E2
                    have e85 : ρ2 (.tmp 85) = .pointer (some ⟨g, 0, none⟩) := E2.pre 0 rfl rfl
                    have e91 : ρ2 (.tmp 91) = .int .i64 ((10 + vv : Nat) : Int) := E2.pre 6 rfl rfl
                    have e95 : ρ2 (.tmp 95) = .slice a5 256 c5 := E2.chn 10 95 rfl rfl rfl
                    refine step_plain rfl ?_
                    have hb12 := bthen G1 (bthen hb5 G2 (Nat.le_refl _)) (Nat.le_refl _)
                    have hD2 := HD1.out.ext hb12
                    have ho2 := ho5.ext G2
                    refine op_call (f := 17) (args := #[.pointer (some ⟨g, 0, none⟩), .int .i64 ((10 + vv : Nat) : Int), .slice a5 256 c5]) (w' := w2c) (by have hcon := E2.con; have hfn := E2.fn; clear E2 m0 m1 m2 m3 m5 m6; go_simp) ?_
                    refine (hD2.write (by decide) (by decide) (by omega) ((10 + vv : Nat) : Int) a5 c5 256 (pad x.b.l) (fun w' hm => (ho2.mod hm fun b _ _ => DF_no_u8 b).src) (pad_length _).symm (by decide) (E := (d.write p ((10 + vv : Nat) : Int) (pad x.b.l)).1) (d' := (d.write p ((10 + vv : Nat) : Int) (pad x.b.l)).2.1) (p' := (d.write p ((10 + vv : Nat) : Int) (pad x.b.l)).2.2) rfl).mono ?_
                    rintro e wx2 ⟨rfl, hd3, hm3⟩
                    refine ⟨_, rfl, trivial, ?_⟩
                    intro σ wF GF hκ
                    simp only [upd, updL, dstsOf', elemB, List.filterMap_cons, List.filterMap_nil, Nat.reduceAdd, Nat.reduceBEq, Bool.or_false, Bool.false_or, Bool.or_true, Bool.true_or, cond_true, cond_false, Nat.zero_add]
                    have HDE := Lib.hid ((hd3.ext GF).mono (K' := fun _ => True) (m' := 10 + (j + 1)) (fun _ _ _ => trivial) (by omega))
                    have HKE := Lib.hid (HK.out.write p ((10 + vv : Nat) : Int) (pad x.b.l) (by omega))
                    have HLE := Lib.hid (show 0 ≤ (d.write p ((10 + vv : Nat) : Int) (pad x.b.l)).2.2.life ∧ (d.write p ((10 + vv : Nat) : Int) (pad x.b.l)).2.2.life ≤ ((j + 1 : Nat) : Int) by rw [write_life]; have := Hp0.out; have := Hp1.out; omega)
                    have hb1c := hb1.trans (hb12.mono hb1.size)
                    have hbE := (hb1c.trans (hm3.below (fun b T h => h.1) hb1c.size)).trans (GF.mono (by have := hb1c.size; have := hm3.size; omega))
                    clear hd3 hm3 hb1 hb1c hb12 hD2 ho2 ho5 hb5 G1 G2 GF E1 E2 hκ m0 m1 m2 m3 m5 m6 hl10
                    go_wp2_with fail
                    go_roundw
                    case rel => exact ⟨j + 1, _, _, _, rfl, by omega, by go_num, HDE.out, HKE.out, HLE.out.1, HLE.out.2, hbE⟩
                    case measure => simp [intOf]; omega
                · skip
                  go_wp2_with fail
                  refine (HD.out.cut none 0 0 [] (-1) (Src.nil _ _) rfl (by decide) rfl).mono ?_
                  rintro e w2 ⟨rfl, hd2, hm2⟩
                  have HD2 := Lib.hid hd2
                  have hb2 := hbr.trans (hm2.below (fun b T h => h.1) hbr.size)
                  have hcl := cut_life p [] (-1)
                  clear hd2 hm2
                  go_wp2_with fail
                  refine (HD2.out.start (by rw [hcl]; exact Hp0.out) (by rw [hcl]; have := Hp1.out; omega) rfl).mono ?_
                  rintro e w3 ⟨rfl, hd3, hm3⟩
                  have hb3 := hb2.trans (hm3.below (fun b T h => h.1) hb2.size)
                  have hoff := cut_start p [] (-1)
                  obtain ⟨pp, HD3, Hoff⟩ : ∃ pp, Hid (DW (fun _ => True) w.heap.size w3 g pg 20 d pp 100) ∧ Hid (pp.off = false) := ⟨_, Lib.hid (hd3.mono (fun _ _ _ => trivial) (by omega)), Lib.hid hoff⟩
                  clear hd3 hm3 hb2 hcl hoff HD2
                  go_wp2_with fail
                  go_loopw [11] (fun i wx => ∃ (t : Nat) (d : DS) (wz : World), wz = wx ∧ t ≤ k ∧ i = .int .i64 (t : Int) ∧ DW (fun _ => True) w.heap.size wz g pg 20 d pp 100 ∧ Kept d 20 k v ∧ Below w.heap.size w wz) (fun i _ => k - (intOf i).toNat)
                  case atStart => exact ⟨0, d, _, rfl, by omega, rfl, HD3.out, HK.out, hb3⟩
                  case round =>
                    obtain ⟨t, d, wz, hwz, ht, rfl, hD, hK, hbz⟩ := hrel
                    subst hwz
                    have HDz := Lib.hid hD
                    have HKz := Lib.hid hK
                    clear hD hK hb3
                    by_cases htk : t < k
                    · have hkp : t < ps.length := by have := HM.out; omega
                      obtain ⟨b, o, rfl, hlb, hat⟩ := Hm.out.at hkp
                      have hc0 := hat t hkp
                      have hrow := Hm.out.row _ (List.getElem_mem hkp)
                      have Hvk := Lib.hid (show v t = ⟨pad ps[t].l, false⟩ by rw [Hv.out]; simp [List.getD_eq_getElem?_getD, hkp])
                      have hq300 := H300.out t hkp
                      have hqm := List.getElem_mem hkp
                      generalize ps[t] = q at *
                      have Hqm := Lib.hid hqm
                      clear hqm
                      have hs := Lib.hid (hrow.1.ext hbz)
                      have hbytes : (v t).bytes = pad q.l := by
                        rw [Hvk.out]
                        unfold Sec.bytes
                        rw [if_neg (by intro h; have := pad_length q.l; simp only at h; rw [h] at this; cases this)]
                      have Hrd := Lib.hid (show d.read pp t = (pad q.l, 0) by rw [HKz.out.read (by omega) Hoff.out htk (by rw [Hvk.out]), hbytes])
                      clear hat hrow hbytes
                      go_wp2_with fail
                      refine (HDz.out.read (by decide) (by decide) (by decide) t Hrd.out).mono ?_
                      rintro e w4 ⟨a4, c4, k4, rfl, hk4, ho4, hd4, hm4⟩
                      have HD4 := Lib.hid hd4
                      have HK4 := Lib.hid (HKz.out.wake pp)
                      have Ho4 := Lib.hid ho4
                      have Hk4 := Lib.hid (hk4.trans (pad_length q.l))
                      have hb4 := hbz.trans (hm4.below (fun b T h => h.1) hbz.size)
                      have hs4 := Lib.hid ((Hm.out.row q Hqm.out).1.ext hb4)
                      have hcell := (World.cell?_of_block (w := w) (a := ⟨b, o + t, none⟩) (hb4.block b hlb)).trans hc0
                      clear hd4 ho4 hm4 hk4 hc0
                      go_wp2_with fail
                      refine (sector_any (.slice none 0 0) (.int .i64 0) (.int .i64 0) (.int .i64 0) (.int .i64 0) false q.a q.c q.l.length q.l w4 hs4.out rfl (by omega) rfl).mono ?_
                      rintro e w5 ⟨a5, c5, rfl, ho5, hb5⟩
                      have HD5 := Lib.hid (HD4.out.ext hb5)
                      have Ho5 := Lib.hid ho5
                      have Ho4' := Lib.hid (Ho4.out.ext hb5)
                      have hb05 := bthen hb4 hb5 (Nat.le_refl _)
                      clear ho5 hb5 hb4 hcell
                      go_wp2_with fail
                      refine (bytes_at a4 c4 (pad q.l) a5 c5 (pad q.l) w5 k4 256 true Ho4'.out.src Ho5.out.src (by rw [Hk4.out, pad_length]) (pad_length _).symm (by rw [Hk4.out]; decide) (by decide) (decide_eq_true rfl)).mono ?_
                      rintro e w6 ⟨rfl, nq, rfl⟩
                      have hbd := ext_drewN w5 nq w5.heap.size
                      have HD6 := Lib.hid (HD5.out.ext hbd)
                      have hb06 := bthen hb05 hbd (Nat.le_refl _)
                      clear hbd hb05
                      go_wp2_with fail
                      go_roundw
                      case rel => exact ⟨t + 1, _, _, rfl, by omega, by go_num, HD6.out, HK4.out, hb06⟩
                      case measure => simp [intOf]; omega
                    · go_wp2_with fail
                      refine (wakes09_any wz).mono ?_
                      rintro e w4 ⟨rfl, hb4⟩
                      go_wp2
                      go_ret
                      exact ⟨rfl, bthen hbz hb4 (Nat.le_refl _)⟩
              · skip
                go_wp2_with fail
                refine (HD.out.cut none 0 0 [] (-1) (Src.nil _ _) rfl (by decide) rfl).mono ?_
                rintro e w2 ⟨rfl, hd2, hm2⟩
                have HD2 := Lib.hid hd2
                have hb2 := hbr.trans (hm2.below (fun b T h => h.1) hbr.size)
                have hcl := cut_life p [] (-1)
                clear hd2 hm2
                go_wp2_with fail
                refine (HD2.out.start (by rw [hcl]; exact Hp0.out) (by rw [hcl]; have := Hp1.out; omega) rfl).mono ?_
                rintro e w3 ⟨rfl, hd3, hm3⟩
                have hb3 := hb2.trans (hm3.below (fun b T h => h.1) hb2.size)
                have hoff := cut_start p [] (-1)
                obtain ⟨pp, HD3, Hoff⟩ : ∃ pp, Hid (DW (fun _ => True) w.heap.size w3 g pg 20 d pp 100) ∧ Hid (pp.off = false) := ⟨_, Lib.hid (hd3.mono (fun _ _ _ => trivial) (by omega)), Lib.hid hoff⟩
                clear hd3 hm3 hb2 hcl hoff HD2
                go_wp2_with fail
                go_loopw [11] (fun i wx => ∃ (t : Nat) (d : DS) (wz : World), wz = wx ∧ t ≤ k ∧ i = .int .i64 (t : Int) ∧ DW (fun _ => True) w.heap.size wz g pg 20 d pp 100 ∧ Kept d 20 k v ∧ Below w.heap.size w wz) (fun i _ => k - (intOf i).toNat)
                case atStart => exact ⟨0, d, _, rfl, by omega, rfl, HD3.out, HK.out, hb3⟩
                case round =>
                  obtain ⟨t, d, wz, hwz, ht, rfl, hD, hK, hbz⟩ := hrel
                  subst hwz
                  have HDz := Lib.hid hD
                  have HKz := Lib.hid hK
                  clear hD hK hb3
                  by_cases htk : t < k
                  · have hkp : t < ps.length := by have := HM.out; omega
                    obtain ⟨b, o, rfl, hlb, hat⟩ := Hm.out.at hkp
                    have hc0 := hat t hkp
                    have hrow := Hm.out.row _ (List.getElem_mem hkp)
                    have Hvk := Lib.hid (show v t = ⟨pad ps[t].l, false⟩ by rw [Hv.out]; simp [List.getD_eq_getElem?_getD, hkp])
                    have hq300 := H300.out t hkp
                    have hqm := List.getElem_mem hkp
                    generalize ps[t] = q at *
                    have Hqm := Lib.hid hqm
                    clear hqm
                    have hs := Lib.hid (hrow.1.ext hbz)
                    have hbytes : (v t).bytes = pad q.l := by
                      rw [Hvk.out]
                      unfold Sec.bytes
                      rw [if_neg (by intro h; have := pad_length q.l; simp only at h; rw [h] at this; cases this)]
                    have Hrd := Lib.hid (show d.read pp t = (pad q.l, 0) by rw [HKz.out.read (by omega) Hoff.out htk (by rw [Hvk.out]), hbytes])
                    clear hat hrow hbytes
                    go_wp2_with fail
                    refine (HDz.out.read (by decide) (by decide) (by decide) t Hrd.out).mono ?_
                    rintro e w4 ⟨a4, c4, k4, rfl, hk4, ho4, hd4, hm4⟩
                    have HD4 := Lib.hid hd4
                    have HK4 := Lib.hid (HKz.out.wake pp)
                    have Ho4 := Lib.hid ho4
                    have Hk4 := Lib.hid (hk4.trans (pad_length q.l))
                    have hb4 := hbz.trans (hm4.below (fun b T h => h.1) hbz.size)
                    have hs4 := Lib.hid ((Hm.out.row q Hqm.out).1.ext hb4)
                    have hcell := (World.cell?_of_block (w := w) (a := ⟨b, o + t, none⟩) (hb4.block b hlb)).trans hc0
                    clear hd4 ho4 hm4 hk4 hc0
                    go_wp2_with fail
                    refine (sector_any (.slice none 0 0) (.int .i64 0) (.int .i64 0) (.int .i64 0) (.int .i64 0) false q.a q.c q.l.length q.l w4 hs4.out rfl (by omega) rfl).mono ?_
                    rintro e w5 ⟨a5, c5, rfl, ho5, hb5⟩
                    have HD5 := Lib.hid (HD4.out.ext hb5)
                    have Ho5 := Lib.hid ho5
                    have Ho4' := Lib.hid (Ho4.out.ext hb5)
                    have hb05 := bthen hb4 hb5 (Nat.le_refl _)
                    clear ho5 hb5 hb4 hcell
                    go_wp2_with fail
                    refine (bytes_at a4 c4 (pad q.l) a5 c5 (pad q.l) w5 k4 256 true Ho4'.out.src Ho5.out.src (by rw [Hk4.out, pad_length]) (pad_length _).symm (by rw [Hk4.out]; decide) (by decide) (decide_eq_true rfl)).mono ?_
                    rintro e w6 ⟨rfl, nq, rfl⟩
                    have hbd := ext_drewN w5 nq w5.heap.size
                    have HD6 := Lib.hid (HD5.out.ext hbd)
                    have hb06 := bthen hb05 hbd (Nat.le_refl _)
                    clear hbd hb05
                    go_wp2_with fail
                    go_roundw
                    case rel => exact ⟨t + 1, _, _, rfl, by omega, by go_num, HD6.out, HK4.out, hb06⟩
                    case measure => simp [intOf]; omega
                  · go_wp2_with fail
                    refine (wakes09_any wz).mono ?_
                    rintro e w4 ⟨rfl, hb4⟩
                    go_wp2
                    go_ret
                    exact ⟨rfl, bthen hbz hb4 (Nat.le_refl _)⟩
      · have g1 : ¬ M < 1 := by omega
        have g10 : 10 < M := by omega
        go_wp2
        go_ret
        exact ⟨rfl, hb0⟩
    · have g1 : M < 1 := by omega
      go_wp2
      go_ret
      exact ⟨rfl, hb0⟩
end Go.Proofs.Ytfbbejdbofkpaaa
