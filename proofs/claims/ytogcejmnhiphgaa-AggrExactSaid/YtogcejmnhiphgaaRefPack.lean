/- The page's Pack. -/
import Derived.Test.YtogcejmnhiphgaaRefBytes
import Derived.Test.YtogcejmnhiphgaaAggrPlain
import Derived.Test.YtogcejmnhiphgaaKeep
namespace Go.Proofs.Ytogcejmnhiphgaa
open Go.RowKit

theorem packP_bytes {size : Int} {l : List Rec} {b : List Byte} {of : List Int} {E : Int} (h : bytesP size l = (b, of, E)) : packP size l = if E ≠ 0 then ([], [], E) else (rowsC b size.toNat, of, 0) := by
  unfold bytesP at h
  unfold packP
  split at h
  · rename_i hE
    simp only [Prod.mk.injEq] at h
    obtain ⟨rfl, rfl, rfl⟩ := h
    rw [if_pos hE, if_pos hE]
  · rename_i hE
    simp only [Prod.mk.injEq] at h
    obtain ⟨rfl, rfl, rfl⟩ := h
    rw [if_neg hE, if_neg (by simp)]
theorem bytesP_ok {size : Int} {l : List Rec} {b : List Byte} {of : List Int} (h : bytesP size l = (b, of, 0)) : (32 ≤ size ∧ size ≤ 256) ∧ b.length ≤ 8013 * 66 ∧ 1 ≤ b.length := by
  unfold bytesP at h
  split at h
  · rename_i hE
    simp only [Prod.mk.injEq] at h
    exact absurd h.2.2 hE
  · rename_i hE
    simp only [Prod.mk.injEq] at h
    obtain ⟨rfl, _, _⟩ := h
    obtain ⟨h1, h2, h3, _, h5⟩ := wholeP_ok (by simpa using hE)
    have h6 := aggrL_len _ h3
    rw [h5]
    refine ⟨h1, by omega, ?_⟩
    unfold aggrL
    rw [joinB_cons, List.length_append, frameOf_length]
    omega

set_option maxRecDepth 100000 in
set_option maxHeartbeats 8000000 in
theorem refpack_at (size : Int) (a : Option Addr) (c n : Nat) (rs : List RecV) (rows : List (List Byte)) (of : List Int) (E : Int) (w : World) (ha : RMat w a rs) (hn : n = rs.length) (hl : n ≤ 9223372036854775807) (hR : packP size (recs rs) = (rows, of, E)) :
    Calls Try.prog 21 #[.int .i64 size, .slice a n c] w fun e w' => ∃ aB m cB aO no cO bs, e = .returned (.tuple #[.slice aB m cB, .slice aO no cO, .int .i64 E]) ∧ PackR w' w.heap.size rows of aB m cB aO no cO bs ∧ Below w.heap.size w w' := by
  obtain ⟨i1, hr1, hr2, hr3, hr4⟩ := info_parts infoRowB
  obtain ⟨⟨l, of0, E0⟩, hW⟩ : ∃ x, x = bytesP size (recs rs) := ⟨_, rfl⟩
  obtain ⟨L, hL⟩ : ∃ n, l.length = n := ⟨_, rfl⟩
  rw [packP_bytes hW.symm] at hR
  have HR := Lib.hid hR
  have HW := Lib.hid (refbytes_at size a c n rs l of0 E0 L w ha hn hl hW.symm hL)
  have HWW := Lib.hid hW.symm
  have HL := Lib.hid hL
  clear ha hn hR hW hL hl
  go_enter Try.func21, Try.ntmps21
  go_wp2_with fail
  refine HW.out.mono ?_
  rintro e w2 ⟨a2, c2, aO, no, cO, rfl, ho2, hO2, hb2⟩
  have HB2 := Lib.hid hb2
  have HO2 := Lib.hid ho2
  have HF2 := Lib.hid hO2
  have hs2 := hb2.size
  clear hb2 ho2 hO2 HW
  by_cases hE : E0 ≠ 0
  · have hR := HR.out
    rw [if_pos hE] at hR
    simp only [Prod.mk.injEq] at hR
    obtain ⟨rfl, rfl, rfl⟩ := hR
    have hE' : (E0 != 0) = true := by simpa using hE
    clear hE HR HWW
    go_wp2
    go_ret3
    exact ⟨none, 0, 0, none, 0, 0, [], rfl, ⟨Own.nil _ _ _ _ _, rfl, by simp, Own.nil _ _ _ _ _⟩, HB2.out⟩
  · have hE : E0 = 0 := by simpa using hE
    subst hE
    obtain ⟨hsz, hLle, hL1⟩ := bytesP_ok HWW.out
    rw [HL.out] at hLle hL1
    obtain ⟨sz, rfl⟩ := Int.eq_ofNat_of_zero_le (show 0 ≤ size by omega)
    have hR := HR.out
    rw [if_neg (by simp), Int.toNat_natCast] at hR
    have hR : rowsC l sz = rows ∧ of0 = of ∧ (0 : Int) = E := by simpa using hR
    obtain ⟨hrw, hof, rfl⟩ := hR
    subst hof
    have Hrw := Lib.hid hrw
    clear hrw HR HWW
    obtain ⟨x2, rfl⟩ : ∃ x, a2 = some ⟨x, 0, none⟩ := by
      obtain ⟨_, h0 | ⟨g', cur, ha, _⟩⟩ := HO2.out
      · omega
      · exact ⟨g', ha⟩
    have hLc := HO2.out.len.1
    have hcm := HO2.out.len.2
    unfold maxLen at hcm
    have hsz1 : 32 ≤ sz := by omega
    have hsz2 : sz ≤ 256 := by omega
    clear hsz
    go_wp2_with fail
    go_loopw [10, 11] (fun bv i wx => ∃ (k : Nat) (aR : Option Addr) (cR : Nat) (bs : List Bsl) (wr : World), wr = wx ∧ bv = .slice aR k cR ∧ i = .int .i64 ((k * sz : Nat) : Int) ∧ (k = 0 ∨ (k - 1) * sz < L) ∧ Own wr w2.heap.size 34 1 aR k cR (bs.map Bsl.val) ∧ bs.map Bsl.l = (List.range k).map (rowC l sz) ∧ (∀ p ∈ bs, Own wr w2.heap.size 5 1 p.a p.l.length p.c (bvs p.l)) ∧ Below w2.heap.size w2 wr) (fun _ i _ => (L + 256) - (intOf i).toNat)
    case atStart => exact ⟨0, none, 0, [], _, rfl, rfl, by simp, .inl rfl, Own.nil _ _ _ _ _, rfl, by simp, Below.refl _ _⟩
    case round =>
      obtain ⟨k, aR, cR, bs, wr, hwr, rfl, rfl, hk, hB, hbl, hd, hbr⟩ := hrel
      subst hwr
      have hkL : k * sz ≤ L + sz := by
        rcases hk with rfl | hk
        · omega
        · cases k with
          | zero => omega
          | succ k => rw [Nat.add_sub_cancel] at hk; rw [Nat.add_mul]; omega
      have hk2 : k ≤ k * sz := Nat.le_mul_of_pos_right k (by omega)
      have hS : Src wr (some ⟨x2, k * sz, none⟩) (bvs (rowC l sz k)) := by
        have := (HO2.out.src.ext hbr).sub (k * sz) sz
        unfold rowC
        rw [bvs_take, bvs_drop]
        rw [Nat.zero_add] at this
        exact this
      have hrl : (rowC l sz k).length = min sz (L - k * sz) := by unfold rowC; rw [List.length_take, List.length_drop, HL.out]
      obtain ⟨rw', hrw'⟩ : ∃ x, x = rowC l sz k := ⟨_, rfl⟩
      have hnx : (k + 1) * sz = k * sz + sz := by rw [Nat.add_mul, Nat.one_mul]
      rw [← hrw'] at hS hrl
      have HS := Lib.hid hS
      have HB := Lib.hid hB
      have Hbl := Lib.hid hbl
      have Hd := Lib.hid hd
      have HBr := Lib.hid hbr
      have Hrw' := Lib.hid hrw'
      have Hnx := Lib.hid hnx
      obtain ⟨q, hq⟩ : ∃ q, q = k * sz := ⟨_, rfl⟩
      rw [← hq] at hkL hk2 HS hrl ⊢
      have Hq := Lib.hid hq
      have Hk := Lib.hid hk
      clear hS hB hbl hd hbr hrw' hnx hq hk
      by_cases hqL : q < L
      · obtain ⟨m, hm⟩ : ∃ m, m = min sz (L - q) := ⟨_, rfl⟩
        rw [← hm] at hrl
        have Hrl := Lib.hid hrl
        clear hrl
        have hm2 : m ≤ 256 := by omega
        have hqm : q + m ≤ L := by omega
        have hmm : min ((q : Int) + (sz : Int)) (L : Int) = ((q + m : Nat) : Int) := by omega
        have Hm := Lib.hid hm
        clear hm
        go_wp2_with fail
        all_goals first
          | rw [show L - q = m from by have := Hm.out; omega]
          | rw [show ((q : Int) + (sz : Int)).toNat - q = m from by have := Hm.out; omega]
        all_goals (
          refine (twin_at _ _ m rw' wr HS.out Hrl.out.symm (by omega)).mono ?_
          rintro e w3 ⟨ad, cd, rfl, hod, hbd⟩
          have hba := ext_alloc w3 (.cells #[.slice ad m cd] 34)
          have hbb := bthen hbd hba (Nat.le_refl _)
          have HB4 := Lib.hid (HB.out.ext hbb)
          have Hd4 := Lib.hid (fun p hp => (Hd.out p hp).ext hbb)
          have Hod4 := Lib.hid ((hod.ext hba).mono HBr.out.size)
          have HSn := Lib.hid (src_new w3 [.slice ad m cd] 34)
          have HBa := Lib.hid (bthen HBr.out hbb (Nat.le_refl _))
          have hsz4 := HBa.out.size
          clear hba hbb hod hbd HB Hd HBr HS
          go_wp2_with (refine wpList_appm rfl (.tmp 29) (.tmp 40) 25 rfl w2.heap.size 34 i1 (.slice none 0 0) 1 24 Try.underlying25 hr1 hr2 hr3 hr4 rfl (by decide) aR k cR (bs.map Bsl.val) rfl HB4.out (some ⟨w3.heap.size, 0, none⟩) 1 1 [.slice ad m cd] rfl rfl HSn.out (by simp [Value.oneCell']) (by unfold maxLen; omega) (by omega) hsz4 ?_; intro a5 c5 w5 hA5)
          have HB5 : Hid (Own w5 w2.heap.size 34 1 a5 (k + 1) c5 ((bs ++ [(⟨ad, cd, rw'⟩ : Bsl)]).map Bsl.val)) := Lib.hid (by
            have := hA5.own
            rw [List.map_append]
            simp only [List.map_cons, List.map_nil, Bsl.val]
            rw [Hrl.out]
            exact this)
          have hm5 := hA5.mod (fun _ T => T = 34) fun _ _ _ _ => rfl
          have Hd5 : Hid (∀ p ∈ bs ++ [(⟨ad, cd, rw'⟩ : Bsl)], Own w5 w2.heap.size 5 1 p.a p.l.length p.c (bvs p.l)) := Lib.hid (by
            intro p hp
            rcases List.mem_append.1 hp with hp | hp
            · exact Own.mod (Hd4.out p hp) hm5 fun _ _ _ hf => absurd (show 5 = 34 from hf) (by decide)
            · rw [List.mem_singleton.1 hp]
              have := Hod4.out.mod hm5 fun _ _ _ hf => absurd (show 5 = 34 from hf) (by decide)
              dsimp only
              rw [Hrl.out]
              exact this)
          have HB6 := Lib.hid (HBa.out.trans hA5.below)
          clear hA5 hm5 HB4 Hd4 Hod4 HSn HBa hsz4
          go_roundw
          case rel =>
            refine ⟨k + 1, a5, c5, bs ++ [⟨ad, cd, rw'⟩], _, rfl, rfl, by rw [Hnx.out, ← Hq.out]; go_num, .inr (by rw [Nat.add_sub_cancel, ← Hq.out]; exact hqL), HB5.out, ?_, Hd5.out, HB6.out⟩
            rw [List.map_append, Hbl.out, List.range_succ, List.map_append, Hrw'.out]
            rfl
          case measure => simp [intOf]; omega)
      · have hkM : (L + sz - 1) / sz = k := by
          have h1 := Hk.out
          have h2 := Hnx.out
          have h3 := Hq.out
          apply Nat.div_eq_of_lt_le
          · rcases h1 with rfl | h1
            · omega
            · cases k with
              | zero => omega
              | succ k => rw [Nat.add_sub_cancel] at h1; rw [Nat.add_mul]; omega
          · rw [h2]
            omega
        have Hfin : Hid (PackR wr w.heap.size rows of0 aR k cR aO no cO bs) := Lib.hid (by
          refine ⟨HB.out.mono hs2, ?_, fun p hp => (Hd.out p hp).mono hs2, HF2.out.ext HBr.out⟩
          rw [Hbl.out, ← Hrw.out]
          unfold rowsC
          rw [HL.out, hkM])
        have HB6 := Lib.hid (bthen HB2.out HBr.out (Nat.le_refl _))
        clear hrl hkM
        go_wp2
        go_ret3
        exact ⟨aR, k, cR, aO, no, cO, bs, rfl, Hfin.out, HB6.out⟩
end Go.Proofs.Ytogcejmnhiphgaa
