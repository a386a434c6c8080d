/- The page's disk: Read. -/
import Derived.Test.YtclkkhpnnbkfmaaRefDkWake
import Derived.Test.YtclkkhpnnbkfmaaKeep
namespace Go.Proofs.Ytclkkhpnnbkfmaa
open Go.RowKit
variable {R : Nat}

theorem lastOf_app (i : Nat) : ∀ a b : List (Nat × List Byte), lastOf i (a ++ b) = match lastOf i b with | some x => some x | none => lastOf i a
  | [], b => by rw [List.nil_append]; cases lastOf i b <;> rfl
  | x :: a, b => by
    rw [List.cons_append, lastOf, lastOf_app i a b, lastOf]
    cases lastOf i b <;> rfl
theorem lastOf_drop_some {i : Nat} {l : List (Nat × List Byte)} {j : Nat} {b : List Byte} (h : lastOf i (l.drop j) = some b) : lastOf i l = some b := by
  have := lastOf_app i (l.take j) (l.drop j)
  rw [List.take_append_drop, h] at this
  exact this
theorem lastOf_step {i : Nat} {l : List (Nat × List Byte)} {j : Nat} (hj : j < l.length) (h : lastOf i (l.drop (j + 1)) = none) : lastOf i (l.drop j) = if l[j].1 = i then some l[j].2 else none := by
  rw [List.drop_eq_getElem_cons hj, lastOf, h]

set_option maxRecDepth 100000 in
set_option maxHeartbeats 8000000 in
theorem rdk_read (K : Nat → Prop) (B r q tb n : Nat) (d : RS) (p : PS) (i : Int) (w : World) (hd : RDk K B w r q tb d) (hp : RPow R B w q p) (hok : d.ok n) (hn : n ≤ 100000) (hB : B ≤ w.heap.size) (hm : d.loose.length ≤ 100000) (htR : tb < R) {b : List Byte} {E : Int} (hr : d.read p i = (b, E)) :
    Calls Try.prog 61 #[.pointer (some ⟨r, 0, none⟩), .int .i64 i] w fun e w' => ∃ a c k, e = .returned (.tuple #[.slice a k c, .int .i64 E]) ∧ k = b.length ∧ Own w' w.heap.size 5 1 a k c (bvs b) ∧ RDk K B w' r q tb (d.wake p) ∧ RPow R B w' q p ∧ Mod (RDF B tb) w w' := by
  have HA := Lib.hid (rdk_wake K B r q tb n d p w hd hp hok hn hB hm htR)
  have HR := Lib.hid hr
  have Hok := Lib.hid (hok.wake p)
  have hml : (d.wake p).loose.length ≤ 100000 := by unfold RS.wake; split; exact hm; simp
  have Hoff0 : Hid (d.read p i = if p.off then ([], 5) else (d.wake p).get i) := Lib.hid rfl
  clear hd hp hok hr hm htR
  generalize d.wake p = d1 at *
  go_enter Try.func61, Try.ntmps61
  go_wp2_with fail
  refine HA.out.mono ?_
  rintro e w1 ⟨rfl, hd1, hp1, hm1⟩
  have HD1 := Lib.hid hd1
  have HP1 := Lib.hid hp1
  have HM1 := Lib.hid hm1
  obtain ⟨sa, sc, ss, tc, la, lc, ls, hc, hss, hls⟩ := hd1
  have Hc := Lib.hid hc
  have Hss := Lib.hid hss
  have Hls := Lib.hid hls
  have Hsn := Lib.hid (show ss.length = n by rw [← Hok.out.safe, ← hss, List.length_map])
  have Htn := Lib.hid Hok.out.torn
  have Hlm := Lib.hid (show ls.length = d1.loose.length by rw [← hls, List.length_map])
  obtain ⟨m, hmm⟩ : ∃ m, m = ls.length := ⟨_, rfl⟩
  have Hmm := Lib.hid hmm
  have hm1 : m ≤ 100000 := by have := Hlm.out; omega
  obtain ⟨c0, c1, c2, c3, c4, hfg, hlg⟩ := hc.cells
  obtain ⟨p0, p1, p6, hlq⟩ := rpow_cells hp1
  rw [Hsn.out] at c2
  rw [Htn.out] at c3
  rw [← hmm] at c4
  clear hc hss hls hp1 HA hmm
  cases hoff : p.off with
  | true =>
    have hR := HR.out
    rw [Hoff0.out, hoff, if_pos rfl] at hR
    simp only [Prod.mk.injEq] at hR
    obtain ⟨rfl, rfl⟩ := hR
    rw [hoff] at p0
    clear hoff HR Hoff0
    go_wp2
    go_ret2
    exact ⟨none, 0, 0, rfl, rfl, Own.nil _ _ _ _ _, HD1.out, HP1.out, HM1.out⟩
  | false =>
    have hR := HR.out
    rw [Hoff0.out, hoff, if_neg (by decide)] at hR
    have HR := Lib.hid hR
    rw [hoff] at p0
    clear hoff hR Hoff0
    by_cases hin : 0 ≤ i ∧ i < (n : Int)
    · obtain ⟨k, rfl⟩ := Int.eq_ofNat_of_zero_le hin.1
      have hkn : k < n := by omega
      have hkn2 : ¬ n ≤ k := by omega
      have hk0 : (0 : Int) ≤ (k : Int) := by omega
      have hR := HR.out
      unfold RS.get at hR
      rw [if_pos (by rw [Hok.out.safe]; omega), Int.toNat_natCast] at hR
      have HR := Lib.hid hR
      have hwm : IntKind.i64.wrap ((m : Int) - 1) = (m : Int) - 1 := by rw [IntKind.wrap_i64]; omega
      clear hin hR
      go_wp2_with fail
      clear hwm
      go_loopw [6] (fun iv wx => ∃ (j : Nat) (wr : World), wr = wx ∧ wr = w1 ∧ j ≤ m ∧ iv = .int .i64 ((j : Int) - 1) ∧ lastOf k (d1.loose.drop j) = none) (fun iv _ => (intOf iv + 1).toNat)
      case atStart => exact ⟨m, _, rfl, rfl, Nat.le_refl _, rfl, by rw [List.drop_eq_nil_of_le (by have := Hlm.out; have := Hmm.out; omega)]; rfl⟩
      case round =>
        obtain ⟨j, wr, hwr, hwr1, hj, rfl, hlast⟩ := hrel
        subst hwr
        subst hwr1
        have Hlast := Lib.hid hlast
        clear hlast
        cases j with
        | succ j =>
          have hj1 : (((j + 1 : Nat) : Int) - 1) = (j : Int) := by omega
          rw [hj1]
          have hjm : j < m := by omega
          have hjl : j < ls.length := by have := Hmm.out; omega
          have hj0 : (0 : Int) ≤ (j : Int) := by omega
          obtain ⟨px, rfl, hpx, hpxl, hat, hfp⟩ := Hc.out.loose.elem WrV.len (by omega) hjl
          have m0 : wr.cell? ⟨px, j * 2, none⟩ = some (.int .i64 (ls[j].i : Int)) := hat 0 _ rfl
          have m1 : wr.cell? ⟨px, j * 2 + 1, none⟩ = some (.slice ls[j].a ls[j].b.length ls[j].c) := hat 1 _ rfl
          have hx := Hc.out.wrs _ (List.getElem_mem hjl)
          have Hst := Lib.hid (lastOf_step (i := k) (l := d1.loose) (j := j) (by have := Hlm.out; omega) Hlast.out)
          have hdk : d1.loose[j]'(by have := Hlm.out; omega) = ls[j].pl := by simp [← Hls.out]
          rw [hdk] at Hst
          have hx256 := (Hok.out.loose ls[j].pl (by rw [← Hls.out]; exact List.mem_map.2 ⟨_, List.getElem_mem hjl, rfl⟩)).2
          generalize ls[j] = x at *
          have HX := Lib.hid hx
          have Hx256 : Hid (x.b.length = 256) := Lib.hid hx256
          clear hat hdk hx hx256 hj1
          by_cases hxk : x.i = k
          · have hst := Hst.out
            rw [if_pos (show x.pl.1 = k from hxk)] at hst
            have hl := lastOf_drop_some hst
            have hR := HR.out
            rw [hl] at hR
            simp only [Prod.mk.injEq] at hR
            obtain ⟨hb, rfl⟩ := hR
            have Hb : Hid (x.b = b) := Lib.hid hb
            have e44 : ((x.i : Int) == (k : Int)) = true := by simp; omega
            clear hst hl hb hxk
            go_wp2_with fail
            refine (twin_at x.a x.c x.b.length x.b wr HX.out.1.src rfl (by have := Hx256.out; omega)).mono ?_
            rintro e w2 ⟨a2, c2', rfl, ho2, hb2⟩
            have HD2 := Lib.hid (HD1.out.ext hb2)
            have HP2 := Lib.hid (HP1.out.ext hb2)
            have HM2 := Lib.hid (HM1.out.ext hb2)
            have HO2 := Lib.hid (ho2.mono HM1.out.size)
            clear ho2 hb2
            go_wp2
            go_ret2
            exact ⟨a2, c2', _, rfl, by rw [← Hb.out], by rw [← Hb.out]; exact HO2.out, HD2.out, HP2.out, HM2.out⟩
          · have hst := Hst.out
            rw [if_neg (show ¬ x.pl.1 = k from hxk)] at hst
            have Hst2 := Lib.hid hst
            have e44 : ((x.i : Int) == (k : Int)) = false := by simp; omega
            have hwj : IntKind.i64.wrap ((j : Int) - 1) = (j : Int) - 1 := by rw [IntKind.wrap_i64]; omega
            clear hst hxk
            go_wp2_with fail
            go_roundw
            case rel => exact ⟨j, _, rfl, rfl, by omega, rfl, Hst2.out⟩
            case measure => simp [intOf]
        | zero =>
          have hj1 : (((0 : Nat) : Int) - 1) = -1 := by omega
          rw [hj1]
          have hR := HR.out
          have hl0 := Hlast.out
          rw [List.drop_zero] at hl0
          rw [hl0] at hR
          clear hl0 hj1
          obtain ⟨g', hg', _, _, hat, _⟩ := Hc.out.torn.at (i := k) (by rw [Htn.out]; exact hkn)
          simp only [Option.some.injEq, Addr.mk.injEq, and_self, and_true] at hg'
          subst hg'
          have ht := hat k (by rw [bovs_length, Htn.out]; exact hkn)
          simp only [bovs, List.getElem_map] at ht
          simp only [List.getD_eq_getElem?_getD, List.getElem?_eq_getElem (show k < d1.torn.length by rw [Htn.out]; exact hkn), List.getElem?_eq_getElem (show k < d1.safe.length by rw [Hok.out.safe]; exact hkn), Option.getD_some] at hR
          clear hat
          cases htk : d1.torn[k]'(by rw [Htn.out]; exact hkn) with
          | true =>
            rw [htk] at ht hR
            rw [if_pos rfl] at hR
            simp only [Prod.mk.injEq] at hR
            obtain ⟨rfl, rfl⟩ := hR
            clear htk
            go_wp2
            go_ret2
            exact ⟨none, 0, 0, rfl, rfl, Own.nil _ _ _ _ _, HD1.out, HP1.out, HM1.out⟩
          | false =>
            rw [htk] at ht hR
            rw [if_neg (by decide)] at hR
            simp only [Prod.mk.injEq] at hR
            obtain ⟨hb, rfl⟩ := hR
            have hks : k < ss.length := by rw [Hsn.out]; exact hkn
            obtain ⟨sx, rfl, _, _, hat, _⟩ := Hc.out.safe.at hks
            have hs := hat k (by rw [List.length_map]; exact hks)
            rw [List.getElem_map] at hs
            have hsl : ss[k].l = b := by rw [← hb]; simp [← Hss.out]
            have hx := Hc.out.rows _ (List.getElem_mem hks)
            have h256 := Hok.out.bytes _ (List.getElem_mem (show k < d1.safe.length by rw [Hok.out.safe]; exact hkn))
            rw [hb] at h256
            unfold Bsl.val at hs
            generalize ss[k] = x at *
            have Hb := Lib.hid hsl
            have HX := Lib.hid hx
            have H256 := Lib.hid h256
            clear hat hsl hx h256 hb htk
            go_wp2_with fail
            refine (twin_at x.a x.c x.l.length x.l wr HX.out.1.src rfl (by rw [Hb.out, H256.out]; decide)).mono ?_
            rintro e w2 ⟨a2, c2', rfl, ho2, hb2⟩
            have HD2 := Lib.hid (HD1.out.ext hb2)
            have HP2 := Lib.hid (HP1.out.ext hb2)
            have HM2 := Lib.hid (HM1.out.ext hb2)
            have HO2 := Lib.hid (ho2.mono HM1.out.size)
            clear ho2 hb2
            go_wp2
            go_ret2
            exact ⟨a2, c2', _, rfl, by rw [Hb.out], by rw [← Hb.out]; exact HO2.out, HD2.out, HP2.out, HM2.out⟩
    · have hR := HR.out
      unfold RS.get at hR
      rw [if_neg (by rw [Hok.out.safe]; exact hin)] at hR
      simp only [Prod.mk.injEq] at hR
      obtain ⟨rfl, rfl⟩ := hR
      clear HR
      by_cases hi0 : i < 0
      · have hz0 : (i < 0) := hi0
        clear hin
        go_wp2
        go_ret2
        exact ⟨none, 0, 0, rfl, rfl, Own.nil _ _ _ _ _, HD1.out, HP1.out, HM1.out⟩
      · have hin2 : (n : Int) ≤ i := by omega
        clear hin
        go_wp2
        go_ret2
        exact ⟨none, 0, 0, rfl, rfl, Own.nil _ _ _ _ _, HD1.out, HP1.out, HM1.out⟩
end Go.Proofs.Ytclkkhpnnbkfmaa
