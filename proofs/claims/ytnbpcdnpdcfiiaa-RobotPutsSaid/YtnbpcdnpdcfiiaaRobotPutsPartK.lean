/- Several texts of this claim, one behind the other: SpoilM, KeepSpoilM. -/
import Derived.Test.YtnbpcdnpdcfiiaaRobotPutsPartB
import Derived.Test.YtnbpcdnpdcfiiaaRobotPutsPartA
import Derived.Test.YtnbpcdnpdcfiiaaKeepTwinM
import Derived.Test.YtnbpcdnpdcfiiaaRobotPutsPartI
/- cellarerkeep.SpoilBytes, with a frame by blocks: one block of bytes alone is written. -/
namespace Go.Proofs.Ytnbpcdnpdcfiiaa
open Go.RowKit

/-- The one block of a slice of bytes. -/
abbrev UF (a : Option Addr) : Nat → TypeId → Prop := fun b T => a = some ⟨b, 0, none⟩ ∧ T = 5
set_option maxHeartbeats 1000000 in
theorem spoil_mod (B : Nat) (a : Option Addr) (c n : Nat) (l : List Byte) (w : World) (ho : Own w B 5 1 a n c (bvs l)) (hn : n = l.length) (hl : n ≤ 140737488355328) :
    Calls Try.prog 21 #[.slice a n c] w fun e w' => e = .returned (.tuple #[]) ∧ Mod (UF a) w w' ∧ Below B w w' := by
  have Hn := Lib.hid hn
  clear hn
  go_enter Try.func21, Try.ntmps21
  go_wp2_with fail
  go_loopw [2] (fun i wr => ∃ (j : Nat) (m : List Byte), j ≤ n ∧ i = .int .i64 (j : Int) ∧ m.length = n ∧ Own wr B 5 1 a n c (bvs m) ∧ Mod (UF a) w wr ∧ Below B w wr) (fun i _ => n - (intOf i).toNat)
  case atStart => exact ⟨0, l, by omega, rfl, Hn.out.symm, ho, Mod.refl _ _, Below.refl _ _⟩
  case round =>
    rename_i wr
    obtain ⟨j, m, hj, rfl, hm, hown, hb, hbl⟩ := hrel
    by_cases hlt : j < n
    · obtain ⟨g, rfl, hbg, hlg, hat, hfz⟩ := hown.at hlt
      have hc1 := hat j (by rw [bvs_length]; omega)
      have hf1 := hfz j
      obtain ⟨_, _, cur, hcur⟩ := hown.blk (by omega)
      rw [bvs_get m j (by rw [bvs_length]; omega)] at hc1
      generalize m[j]'(by omega) = x at hc1
      have Hm := Lib.hid hm
      have Hc := Lib.hid hcur
      clear hat hfz hm hcur
      have hx := x.isLt
      go_wp2_with fail
      go_roundw
      case rel =>
        have ev : Value.int IntKind.u8 ((((x.toNat : Nat) : Int) + 101) % 256) = .int .u8 (((BitVec.ofNat 8 (x.toNat + 101)).toNat : Nat) : Int) := by
          rw [BitVec.toNat_ofNat]; congr 1
        refine ⟨j + 1, m.set j (BitVec.ofNat 8 (x.toNat + 101)), by omega, by go_num, by rw [List.length_set]; exact Hm.out, ?_, hb.setCell Hc.out ⟨rfl, rfl⟩ _ _, hbl.setCell hbg _⟩
        rw [← bvs_set, ev]
        exact hown.set j _ hlt
      case measure => simp [intOf] <;> omega
    · obtain rfl : j = n := by omega
      go_wp2
      go_end0
      exact ⟨rfl, hb, hbl⟩
theorem UF_no (a : Option Addr) {T' : TypeId} (hT : T' ≠ 5) : ∀ b T, UF a b T → T ≠ T' := by
  rintro b T ⟨_, rfl⟩ h; exact hT h.symm
end Go.Proofs.Ytnbpcdnpdcfiiaa

/- cellarerkeep.SpoilMedium. -/
namespace Go.Proofs.Ytnbpcdnpdcfiiaa
open Go.RowKit

set_option maxHeartbeats 1000000 in
theorem spoil_nil (a : Option Addr) (c : Nat) (w : World) :
    Calls Try.prog 21 #[.slice a 0 c] w fun e w' => e = .returned (.tuple #[]) ∧ Below w.heap.size w w' := by
  go_enter Try.func21, Try.ntmps21
  go_wp2_with fail
  go_loopw [2] (fun i wr => i = .int .i64 0 ∧ Below w.heap.size w wr) (fun i _ => 0)
  case atStart => exact ⟨rfl, Below.refl _ _⟩
  case round =>
    rename_i wr
    obtain ⟨rfl, hb⟩ := hrel
    go_wp2
    go_end0
    exact ⟨rfl, hb⟩

set_option maxRecDepth 100000 in
set_option maxHeartbeats 4000000 in
theorem spoilmed_any (B N : Nat) (cap : Int) (a : Option Addr) (c n : Nat) (cs : List CellV) (w : World) (ho : OwnM w B a c cs) (hn : n = cs.length) (hn2 : n ≤ 100000) (hx : ∀ x ∈ cs, x.d.l.length ≤ 140737488355328) (hB : B ≤ w.heap.size) (hN1 : ∀ x, a = some ⟨x, 0, none⟩ → n ≠ 0 → x < N) (hN2 : ∀ y ∈ cs, y.d.l ≠ [] → ∀ x, y.d.a = some ⟨x, 0, none⟩ → x < N) :
    Calls Try.prog 17 #[.agg #[.int .i64 cap, .slice a n c]] w fun e w' => e = .returned (.tuple #[]) ∧ Below B w w' ∧ Mod (fun b _ => B ≤ b ∧ b < N) w w' := by
  have Hn := Lib.hid hn
  have Hx := Lib.hid hx
  have HN1 := Lib.hid hN1
  have HN2 := Lib.hid hN2
  clear hN1 hN2
  have Hap := Lib.hid ho.apart
  have hz := heap_alloc_new w (.cells #[.int .i64 cap, .slice a n c] 24)
  have hb1 := ext_alloc w (.cells #[.int .i64 cap, .slice a n c] 24)
  have ho1 := ho.ext hb1
  have hrow0 := ho1.row
  rw [← hn] at hrow0
  clear hn hx
  go_enter Try.func17, Try.ntmps17
  go_wp2_with fail
  go_loopw [2] (fun i wr => ∃ (k : Nat) (vs : List CellV), k ≤ n ∧ i = .int .i64 (k : Int) ∧ vs.map CellV.d = cs.map CellV.d ∧ Own wr B 73 3 a n c (flt CellV.cells vs) ∧ (∀ (j : Nat) (h : j < cs.length), k ≤ j → cs[j].d.l ≠ [] → Own wr B 5 1 cs[j].d.a cs[j].d.l.length cs[j].d.c (bvs cs[j].d.l)) ∧ wr.heap[w.heap.size]? = some (.cells #[.int .i64 cap, .slice a n c] 24 (0, 0)) ∧ Below B w wr ∧ Mod (fun b _ => B ≤ b ∧ b < N) w wr) (fun i _ => n - (intOf i).toNat)
  case atStart => exact ⟨0, cs, by omega, rfl, rfl, hrow0, fun j hj _ _ => ho1.dat _ (List.getElem_mem hj), hz, hb1.mono hB, bmod hb1 _⟩
  case round =>
    rename_i wr
    obtain ⟨k, vs, hk, rfl, hvs, hrow, hdat, r1, hbr, hmr⟩ := hrel
    have HMr := Lib.hid hmr
    have Hvs := Lib.hid hvs
    have Hdat := Lib.hid hdat
    have R1 := Lib.hid r1
    have d1 := cell_of_row wr w.heap.size 1 _ _ _ r1
    have hlg := heap_lt r1
    clear hvs hdat ho1 hz hb1 hrow0 hmr
    by_cases hlt : k < n
    · have hkc : k < cs.length := by have := Hn.out; omega
      have hvl : vs.length = cs.length := by have := congrArg List.length Hvs.out; simpa using this
      have hkv : k < vs.length := by omega
      have hvd : vs[k].d = cs[k].d := by
        have h := congrArg (fun l : List Bsl => l[k]?) Hvs.out
        rw [List.getElem?_map, List.getElem?_map, List.getElem?_eq_getElem hkv, List.getElem?_eq_getElem hkc] at h
        exact Option.some.inj h
      obtain ⟨x, rfl, hBx, hlx, hat, hfz⟩ := hrow.elem CellV.len (by decide) hkv
      have q0' := hat 0 _ rfl
      have q1' := hat 1 _ rfl
      have hxl := Hx.out _ (List.getElem_mem hkc)
      rw [hvd] at q1'
      have q1 : wr.cell? ⟨x, k * 3 + 1, none⟩ = some (.slice cs[k].d.a cs[k].d.l.length cs[k].d.c) := q1'
      have HD := Lib.hid (Hdat.out k hkc (Nat.le_refl k))
      have HA : Hid (∀ (j : Nat) (h : j < cs.length), k + 1 ≤ j → cs[j].d.l ≠ [] → cs[k].d.l ≠ [] → cs[k].d.a ≠ cs[j].d.a) := Lib.hid fun j hj hkj h1 h2 => Hap.out.ne hkc hj (by omega) h2 h1
      have HQN : Hid (cs[k].d.l ≠ [] → ∀ x, cs[k].d.a = some ⟨x, 0, none⟩ → x < N) := Lib.hid (HN2.out _ (List.getElem_mem hkc))
      generalize hq : cs[k].d = q at q1 HD HA hxl hvd HQN
      obtain ⟨qa, qc, ql⟩ := q
      dsimp only at q1 HD HA hxl HQN
      obtain ⟨L, hL⟩ : ∃ L, L = ql.length := ⟨_, rfl⟩
      rw [← hL] at q1 HD hxl
      have HL := Lib.hid hL
      have Hrow := Lib.hid hrow
      have hxg : x ≠ w.heap.size := by
        intro e
        obtain ⟨_, _, cur, hcur⟩ := hrow.blk (by omega)
        rw [e, r1] at hcur
        revert hcur; simp
      clear q1' q0' hL hq r1 hat hfz hrow
      -- what the call leaves
      have key : Calls Try.prog 21 #[.slice qa L qc] wr fun e w' => e = .returned (.tuple #[]) ∧ Below B wr w' ∧ Mod (fun b T => T = 5) wr w' ∧ Mod (fun b _ => B ≤ b ∧ b < N) wr w' ∧ (∀ (j : Nat) (h : j < cs.length), k + 1 ≤ j → cs[j].d.l ≠ [] → Own w' B 5 1 cs[j].d.a cs[j].d.l.length cs[j].d.c (bvs cs[j].d.l)) := by
        by_cases h0 : L = 0
        · subst h0
          refine (spoil_nil qa qc wr).mono ?_
          rintro e w2 ⟨rfl, hb⟩
          exact ⟨rfl, hb.mono (by omega), bmod hb _, bmod hb _, fun j hj hkj h1 => (Hdat.out j hj (by omega) h1).ext hb⟩
        · have hne : ql ≠ [] := fun e => h0 (by rw [HL.out, e]; rfl)
          refine (spoil_mod B qa qc L ql wr (HD.out hne) HL.out hxl).mono ?_
          rintro e w2 ⟨rfl, hm, hb⟩
          refine ⟨rfl, hb, hm.mono fun _ _ _ h => h.2, hm.mono fun b T _ h => ⟨by have ho := HD.out hne; rw [h.1] at ho; exact (ho.blk (by omega)).1, HQN.out hne b h.1⟩, fun j hj hkj h1 => (Hdat.out j hj (by omega) h1).mod hm fun g hg _ hf => HA.out j hj hkj h1 hne (by rw [hg]; exact hf.1)⟩
      have Key := Lib.hid key
      clear key
      go_wp2_with fail
      refine Key.out.mono ?_
      rintro e w2 ⟨rfl, hb2, hm2, hmF, hd2⟩
      have hbr2 := hbr.trans hb2
      have g2 := hm2.keep R1.out (by decide)
      have hrow2 := Hrow.out.mod hm2 fun _ _ _ hf => absurd (show 73 = 5 from hf) (by decide)
      obtain ⟨x2, hx2, _, _, hat2, hfz2⟩ := hrow2.elem CellV.len (by decide) hkv
      obtain rfl : x = x2 := by simpa using hx2
      have q0 := hat2 0 _ rfl
      have hf0 := hfz2 (k * 3)
      have q0 : w2.cell? ⟨x, k * 3, none⟩ = some (.int .i64 vs[k].kind) := q0
      have d1' := cell_of_row w2 w.heap.size 1 _ _ _ g2
      have hset := hrow2.setAt (k * 3 + 0) (.int .i64 9) (by omega)
      rw [flt_set1 CellV.len vs k 0 hkv (by decide) ⟨9, vs[k].d, vs[k].bad⟩ _ rfl] at hset
      obtain ⟨_, _, cur2, hcur2⟩ := hrow2.blk (by omega)
      have hm3 := (Mod.refl (fun b T => T = 73) w2).setCell hcur2 rfl (k * 3) (.int .i64 9)
      have HS : Hid (Own (w2.setCell ⟨x, k * 3, none⟩ (.int .i64 9)) B 73 3 (some ⟨x, 0, none⟩) n c (flt CellV.cells (vs.set k ⟨9, vs[k].d, vs[k].bad⟩))) := Lib.hid hset
      have HV : Hid ((vs.set k ⟨9, vs[k].d, vs[k].bad⟩).map CellV.d = cs.map CellV.d) := Lib.hid (by
        rw [List.map_set, ← Hvs.out]
        have e2 : (vs.map CellV.d)[k]'(by simpa using hkv) = vs[k].d := by simp
        show (vs.map CellV.d).set k vs[k].d = _
        rw [← e2, List.set_getElem_self])
      have HD3 : Hid (∀ (j : Nat) (h : j < cs.length), k + 1 ≤ j → cs[j].d.l ≠ [] → Own (w2.setCell ⟨x, k * 3, none⟩ (.int .i64 9)) B 5 1 cs[j].d.a cs[j].d.l.length cs[j].d.c (bvs cs[j].d.l)) := Lib.hid fun j hj hkj h1 => (hd2 j hj hkj h1).mod hm3 fun _ _ _ hf => absurd (show 5 = 73 from hf) (by decide)
      have G3 := Lib.hid (hm3.keep g2 (by decide))
      have HM3 := Lib.hid ((HMr.out.trans hmF).setCell hcur2 (F := fun b _ => B ≤ b ∧ b < N) ⟨hBx, HN1.out x rfl (by omega)⟩ (k * 3) (.int .i64 9))
      have HB3 := Lib.hid (hbr2.setCell (p := ⟨x, k * 3, none⟩) hBx (.int .i64 9))
      generalize vs[k].kind = kk at q0
      clear hmF hset hrow2 hat2 hfz2 hm2 hm3 hd2 d1 hcur2 g2 hb2 hbr2 hx2 q1
      go_wp2_with fail
      go_roundw
      case rel => exact ⟨k + 1, _, by omega, by go_num, HV.out, HS.out, HD3.out, G3.out, HB3.out, HM3.out⟩
      case measure => simp [intOf]; omega
    · go_wp2
      go_end0
      exact ⟨rfl, hbr, HMr.out⟩
end Go.Proofs.Ytnbpcdnpdcfiiaa
