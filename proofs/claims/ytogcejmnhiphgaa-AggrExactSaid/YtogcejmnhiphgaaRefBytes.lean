/- The page's bytes of an aggregate. -/
import Derived.Test.YtogcejmnhiphgaaAggrPack
import Derived.Test.YtogcejmnhiphgaaRefFrame
namespace Go.Proofs.Ytogcejmnhiphgaa
open Go.RowKit

theorem joinE_snoc (l : List Rec) {t : Rec} (ht : t.e = 0) : joinE (l ++ [t]) = joinE l := by
  induction l with
  | nil => simp [joinE, ht]
  | cons r l ih => simp only [List.cons_append, joinE, ih]
theorem endE {k : Int} {n : Nat} (h : k = 4 ∨ k = 5) (hn : n ≤ 64) : (⟨k, n, []⟩ : Rec).e = 0 := by
  refine recE_ok.2 ?_
  show 1 ≤ k ∧ k ≤ 5 ∧ 0 ≤ (n : Int) ∧ (n : Int) < 1073741824 ∧ 0 ≤ 8000
  omega
theorem joinE_aggr {l : List Rec} (h1 : l.length ≤ 64) : joinE (aggrL l) = joinE l := by
  unfold aggrL
  rw [joinE, if_pos (endE (.inl rfl) h1), joinE_snoc l (endE (.inr rfl) h1)]
def bytesP (size : Int) (l : List Rec) : List Byte × List Int × Int := if (wholeP size l).2 ≠ 0 then ([], [], (wholeP size l).2) else ((wholeP size l).1, offsP l, 0)
theorem bytesP_of {size : Int} {l : List Rec} {b : List Byte} {E : Int} (h : wholeP size l = (b, E)) : bytesP size l = if E ≠ 0 then ([], [], E) else (b, offsP l, 0) := by
  unfold bytesP
  rw [h]
theorem bytesP_arg {size : Int} {l : List Rec} (h : size < 32 ∨ 256 < size) : bytesP size l = ([], [], 1) := by
  rw [bytesP_of (b := []) (E := 1) (by unfold wholeP; rw [if_pos h])]
  rfl
theorem bytesP_len {size : Int} {l : List Rec} (h : ¬ (size < 32 ∨ 256 < size)) (h2 : l.length < 1 ∨ 64 < l.length) : bytesP size l = ([], [], 2) := by
  rw [bytesP_of (b := []) (E := 2) (by unfold wholeP; rw [if_neg h, if_pos h2])]
  rfl
theorem bytesP_rec {size : Int} {l : List Rec} (h : ¬ (size < 32 ∨ 256 < size)) (h2 : ¬ (l.length < 1 ∨ 64 < l.length)) (h3 : joinE l ≠ 0) : bytesP size l = ([], [], joinE l) := by
  rw [bytesP_of (b := []) (E := joinE l) (by unfold wholeP; rw [if_neg h, if_neg h2, joinE_aggr (by omega), if_pos h3]), if_pos h3]
theorem bytesP_bare {size : Int} {l : List Rec} (h : ¬ (size < 32 ∨ 256 < size)) (h2 : ¬ (l.length < 1 ∨ 64 < l.length)) (h3 : joinE l = 0) (h4 : bareP l = true) : bytesP size l = ([], [], 1) := by
  rw [bytesP_of (b := []) (E := 1) (by unfold wholeP; rw [if_neg h, if_neg h2, joinE_aggr (by omega), if_neg (by rw [h3]; simp), if_pos h4])]
  rfl
theorem bytesP_yes {size : Int} {l : List Rec} (h : ¬ (size < 32 ∨ 256 < size)) (h2 : ¬ (l.length < 1 ∨ 64 < l.length)) (h3 : joinE l = 0) (h4 : bareP l = false) : bytesP size l = (joinB (aggrL l), offsP l, 0) := by
  rw [bytesP_of (b := joinB (aggrL l)) (E := 0) (by unfold wholeP; rw [if_neg h, if_neg h2, joinE_aggr (by omega), if_neg (by rw [h3]; simp), if_neg (by rw [h4]; simp)])]
  rfl
theorem bareP_take {l : List Rec} {k : Nat} (h : k < l.length) : bareP (l.take (k + 1)) = (bareP (l.take k) || bareK l[k].kind) := by
  unfold bareP
  rw [List.take_succ_eq_append_getElem h, List.any_append]
  simp only [List.any_cons, List.any_nil, Bool.or_false]
theorem bareP_at {l : List Rec} {k : Nat} (h : k < l.length) (hb : bareK l[k].kind = true) : bareP l = true := by
  unfold bareP
  exact List.any_eq_true.2 ⟨_, List.getElem_mem h, hb⟩
theorem refframe_no (k s : Int) (w : World) (he : (⟨k, s, []⟩ : Rec).e = 0) :
    Calls Try.prog 73 #[.agg #[.int .i64 k, .int .i64 s, .slice none 0 0]] w fun e w' => ∃ a' c', e = .returned (.slice a' 13 c') ∧ Own w' w.heap.size 5 1 a' 13 c' (bvs (frameOf ⟨k, s, []⟩)) ∧ Below w.heap.size w w' :=
  refframe_ok ⟨k, s, ⟨none, 0, []⟩⟩ w ⟨Src.nil _ _, by simp⟩ he

set_option maxRecDepth 100000 in
set_option maxHeartbeats 8000000 in
theorem refbytes_at (size : Int) (a : Option Addr) (c n : Nat) (rs : List RecV) (l : List Byte) (of : List Int) (E : Int) (Ll : Nat) (w : World) (ha : RMat w a rs) (hn : n = rs.length) (hl : n ≤ 9223372036854775807) (hR : bytesP size (recs rs) = (l, of, E)) (hLl : l.length = Ll) :
    Calls Try.prog 48 #[.int .i64 size, .slice a n c] w fun e w' => ∃ aB cB aO no cO, e = .returned (.tuple #[.slice aB Ll cB, .slice aO no cO, .int .i64 E]) ∧ Own w' w.heap.size 5 1 aB Ll cB (bvs l) ∧ Own w' w.heap.size 3 1 aO no cO (ivs of) ∧ Below w.heap.size w w' := by
  obtain ⟨i0, hi, hz0, hz1, hz2⟩ := info_parts infoIntB
  obtain ⟨i8, hi8, hy0, hy1, hy2⟩ := info_parts info8
  have HR := Lib.hid hR
  have HA := Lib.hid ha
  have HN := Lib.hid hn
  have HLl := Lib.hid hLl
  clear hR ha hn hLl
  go_enter Try.func48, Try.ntmps48
  by_cases h1 : size < 32 ∨ 256 < size
  · have hR := HR.out
    rw [bytesP_arg h1] at hR
    simp only [Prod.mk.injEq] at hR
    obtain ⟨rfl, rfl, rfl⟩ := hR
    have hl0 : Ll = 0 := HLl.out.symm
    subst hl0
    by_cases h2 : size < 32
    · clear h1
      go_wp2
      go_ret3
      exact ⟨none, 0, none, 0, 0, rfl, Own.nil _ _ _ _ _, Own.nil _ _ _ _ _, Below.refl _ _⟩
    · have h3 : 256 < size := by omega
      clear h1
      go_wp2
      go_ret3
      exact ⟨none, 0, none, 0, 0, rfl, Own.nil _ _ _ _ _, Own.nil _ _ _ _ _, Below.refl _ _⟩
  have h11 : ¬ size < 32 := by omega
  have h12 : ¬ 256 < size := by omega
  by_cases h2 : (recs rs).length < 1 ∨ 64 < (recs rs).length
  · have hR := HR.out
    rw [bytesP_len h1 h2] at hR
    rw [recs_length, ← HN.out] at h2
    simp only [Prod.mk.injEq] at hR
    obtain ⟨rfl, rfl, rfl⟩ := hR
    have hl0 : Ll = 0 := HLl.out.symm
    subst hl0
    clear h1
    by_cases h3 : n < 1
    · have h3 : (n : Int) < 1 := by omega
      clear h2
      go_wp2
      go_ret3
      exact ⟨none, 0, none, 0, 0, rfl, Own.nil _ _ _ _ _, Own.nil _ _ _ _ _, Below.refl _ _⟩
    · have h3 : ¬ (n : Int) < 1 := by omega
      have h4 : (64 : Int) < (n : Int) := by omega
      clear h2
      go_wp2
      go_ret3
      exact ⟨none, 0, none, 0, 0, rfl, Own.nil _ _ _ _ _, Own.nil _ _ _ _ _, Below.refl _ _⟩
  have hrl := recs_length rs
  rw [← HN.out] at hrl
  have h13 : ¬ (n : Int) < 1 := by omega
  have h14 : ¬ (64 : Int) < (n : Int) := by omega
  have hn64 : n ≤ 64 := by omega
  have H1 := Lib.hid h1
  have H2 := Lib.hid h2
  clear h1 h2 hrl
  go_wp2_with fail
  go_loopw [7] (fun i wx => ∃ (k : Nat) (wr : World), wr = wx ∧ k ≤ n ∧ i = .int .i64 (k : Int) ∧ (∀ r ∈ (recs rs).take k, r.e = 0) ∧ Below w.heap.size w wr) (fun i _ => n - (intOf i).toNat)
  case atStart => exact ⟨0, _, rfl, by omega, rfl, by simp, Below.refl _ _⟩
  case round =>
    obtain ⟨k, wr, hwr, hk, rfl, hall, hbr⟩ := hrel
    subst hwr
    have HBr := Lib.hid hbr
    have Hall := Lib.hid hall
    clear hall hbr
    by_cases hkn : k < n
    · have hkr : k < rs.length := by rw [← HN.out]; exact hkn
      obtain ⟨b, o, rfl, hlb, hat⟩ := HA.out.at hkr
      obtain ⟨q0, q1, q2⟩ := hat k hkr
      have hrl : (recs rs)[k]'(by rw [recs_length]; exact hkr) = rs[k].pl := by simp [recs]
      have Htk := Lib.hid (recs_take_succ rs k hkr)
      have HEk : Hid (rs[k].pl.e ≠ 0 → joinE (recs rs) = rs[k].pl.e) := Lib.hid fun hne => by
        have h1 := joinE_at (l := recs rs) (k := k) (by rw [recs_length]; exact hkr) Hall.out (by rw [hrl]; exact hne)
        rw [hrl] at h1
        exact h1
      generalize rs[k] = x at *
      have c0 := (World.cell?_of_block (w := w) (a := ⟨b, o + k * 3, none⟩) (HBr.out.block b hlb)).trans q0
      have c1 := (World.cell?_of_block (w := w) (a := ⟨b, o + k * 3 + 1, none⟩) (HBr.out.block b hlb)).trans q1
      have c2' := (World.cell?_of_block (w := w) (a := ⟨b, o + k * 3 + 2, none⟩) (HBr.out.block b hlb)).trans q2
      obtain ⟨E1, hE1⟩ : ∃ E1, x.pl.e = E1 := ⟨_, rfl⟩
      have HC := Lib.hid (refrec_at x E1 wr hE1)
      have HE1 := Lib.hid hE1
      unfold RecV.val at HC
      clear hat q0 q1 q2 hrl hE1
      go_wp2_with fail
      refine HC.out.mono ?_
      rintro e w1 ⟨rfl, hb1⟩
      have HB1 := Lib.hid (bthen HBr.out hb1 (Nat.le_refl _))
      clear hb1 HC c0 c1 c2' HBr
      by_cases hE0 : E1 = 0
      · subst hE0
        clear HEk
        go_wp2_with fail
        go_roundw
        case rel =>
          refine ⟨k + 1, _, rfl, by omega, by go_num, ?_, HB1.out⟩
          rw [Htk.out]
          intro y hy
          rcases List.mem_append.1 hy with h | h
          · exact Hall.out y h
          · rw [List.mem_singleton.1 h]
            exact HE1.out
        case measure => simp [intOf]; omega
      · have hj := HEk.out (by rw [HE1.out]; exact hE0)
        rw [HE1.out] at hj
        have hR := HR.out
        rw [bytesP_rec H1.out H2.out (by rw [hj]; exact hE0), hj] at hR
        simp only [Prod.mk.injEq] at hR
        obtain ⟨rfl, rfl, rfl⟩ := hR
        have hl0 : Ll = 0 := HLl.out.symm
        subst hl0
        have hne : ((E1 : Int) != 0) = true := by simpa using hE0
        clear hj HEk hE0 HR
        go_wp2
        go_ret3
        exact ⟨none, 0, none, 0, 0, rfl, Own.nil _ _ _ _ _, Own.nil _ _ _ _ _, HB1.out⟩
    · obtain rfl : n = k := by omega
      have hall := Hall.out
      rw [List.take_of_length_le (by rw [recs_length, ← HN.out]; omega)] at hall
      have hE0 := joinE_ok.2 hall
      have Hok := Lib.hid hall
      have HE0 := Lib.hid hE0
      clear hall hE0 Hall
      have hd8 : ∀ r ∈ rs, r.pl.e = 0 := fun r hr => Hok.out r.pl (List.mem_map.2 ⟨r, hr, rfl⟩)
      have Hd8 := Lib.hid hd8
      clear hd8
      go_wp2_with fail
      go_loop [9] (fun i => ∃ k : Nat, k ≤ n ∧ i = .int .i64 (k : Int) ∧ bareP ((recs rs).take k) = false) (fun i => n - (intOf i).toNat)
      case atStart => exact ⟨0, by omega, rfl, rfl⟩
      case round =>
        obtain ⟨k, hk, rfl, hbk⟩ := hrel
        have Hbk := Lib.hid hbk
        clear hbk
        by_cases hkn : k < n
        · have hkr : k < rs.length := by rw [← HN.out]; exact hkn
          obtain ⟨b, o, rfl, hlb, hat⟩ := HA.out.at hkr
          obtain ⟨q0, _, _⟩ := hat k hkr
          have hrl : (recs rs)[k]'(by rw [recs_length]; exact hkr) = rs[k].pl := by simp [recs]
          have hrk := recE_ok.1 (Hd8.out _ (List.getElem_mem hkr))
          have hk1 : 1 ≤ rs[k].kind := hrk.1
          have hk5 : rs[k].kind ≤ 5 := hrk.2.1
          have Hnx : Hid (bareP ((recs rs).take (k + 1)) = (bareP ((recs rs).take k) || bareK rs[k].kind)) := Lib.hid (by rw [bareP_take (by rw [recs_length]; exact hkr), hrl]; rfl)
          have Hye : Hid (bareK rs[k].kind = true → bareP (recs rs) = true) := Lib.hid fun h => bareP_at (by rw [recs_length]; exact hkr) (by rw [hrl]; exact h)
          clear hrl hrk
          generalize rs[k] = x at *
          obtain ⟨xk, xs, xd⟩ := x
          dsimp only at q0 hk1 hk5
          have c0 := (World.cell?_of_block (w := w) (a := ⟨b, o + k * 3, none⟩) (HBr.out.block b hlb)).trans q0
          clear hat q0
          by_cases h4 : 4 ≤ xk
          · have hb := Hye.out (by show decide (xk = 4 ∨ xk = 5) = true; simp; omega)
            have hR := HR.out
            rw [bytesP_bare H1.out H2.out HE0.out hb] at hR
            simp only [Prod.mk.injEq] at hR
            obtain ⟨rfl, rfl, rfl⟩ := hR
            have hl0 : Ll = 0 := HLl.out.symm
            subst hl0
            clear hb Hye Hnx HR
            go_wp2
            go_ret3
            exact ⟨none, 0, none, 0, 0, rfl, Own.nil _ _ _ _ _, Own.nil _ _ _ _ _, HBr.out⟩
          · have hb0 : bareK xk = false := by show decide (xk = 4 ∨ xk = 5) = false; simp; omega
            have HB0 := Lib.hid hb0
            clear hb0 Hye
            go_wp2_with fail
            go_round
            case rel => exact ⟨k + 1, by omega, by go_num, by rw [Hnx.out, Hbk.out, HB0.out]; rfl⟩
            case measure => simp [intOf]; omega
        · obtain rfl : n = k := by omega
          have hbk := Hbk.out
          rw [List.take_of_length_le (by rw [recs_length, ← HN.out]; omega)] at hbk
          have hR := HR.out
          rw [bytesP_yes H1.out H2.out HE0.out hbk] at hR
          simp only [Prod.mk.injEq] at hR
          obtain ⟨rfl, rfl, rfl⟩ := hR
          have he4 : (⟨4, (n : Int), []⟩ : Rec).e = 0 := endE (by simp) hn64
          have he5 : (⟨5, (n : Int), []⟩ : Rec).e = 0 := endE (by simp) hn64
          have He5 := Lib.hid he5
          have HH := Lib.hid (refframe_no 4 (n : Int) wr he4)
          clear hbk Hbk HR he4 he5
          go_wp2_with fail
          refine HH.out.mono ?_
          rintro e w2 ⟨a2, c2, rfl, ho2, hb2⟩
          have HB2 := Lib.hid (bthen HBr.out hb2 (Nat.le_refl _))
          have HO2 := Lib.hid (ho2.mono HBr.out.size)
          clear ho2 hb2 HBr HH
          obtain ⟨Hd, hHd⟩ : ∃ x, x = frameOf ⟨4, (n : Int), []⟩ := ⟨_, rfl⟩
          rw [← hHd] at HO2
          have HHd := Lib.hid hHd
          clear hHd
          go_wp2_with fail
          go_loopw [10, 11, 12] (fun bv ov i wx => ∃ (k : Nat) (aB : Option Addr) (cB : Nat) (aO : Option Addr) (cO : Nat) (wr : World), wr = wx ∧ k ≤ n ∧ bv = .slice aB (offP (recs rs) k) cB ∧ ov = .slice aO k cO ∧ i = .int .i64 (k : Int) ∧ Own wr w.heap.size 5 1 aB (offP (recs rs) k) cB (bvs (Hd ++ joinB ((recs rs).take k))) ∧ Own wr w.heap.size 3 1 aO k cO (ivs ((List.range k).map fun j => ((offP (recs rs) j : Nat) : Int))) ∧ Below w.heap.size w wr) (fun _ _ i _ => n - (intOf i).toNat)
          case atStart => exact ⟨0, _, _, none, 0, _, rfl, by omega, rfl, rfl, rfl, by simpa [joinB, offP] using HO2.out, Own.nil _ _ _ _ _, HB2.out⟩
          case round =>
            obtain ⟨k, aB, cB, aO, cO, wr, hwr, hk, rfl, rfl, rfl, hB, hO, hbr⟩ := hrel
            subst hwr
            have HB := Lib.hid hB
            have HO := Lib.hid hO
            have HBr := Lib.hid hbr
            have hofk : offP (recs rs) k ≤ 1000000 := by
              have := offP_le (recs rs) Hok.out k
              rw [recs_length, ← HN.out] at this
              omega
            obtain ⟨q, hq⟩ : ∃ q, q = offP (recs rs) k := ⟨_, rfl⟩
            rw [← hq] at hofk HB ⊢
            have Hq := Lib.hid hq
            clear hB hO hbr hq
            by_cases hkn : k < n
            · have hkr : k < rs.length := by rw [← HN.out]; exact hkn
              obtain ⟨b, o, rfl, hlb, hat⟩ := HA.out.at hkr
              obtain ⟨q0, q1, q2⟩ := hat k hkr
              have hoS := offP_succ (l := recs rs) (k := k) (by rw [recs_length]; exact hkr)
              have hrl : (recs rs)[k]'(by rw [recs_length]; exact hkr) = rs[k].pl := by simp [recs]
              rw [hrl, ← Hq.out] at hoS
              have hr0 := HA.out.row rs[k] (List.getElem_mem hkr)
              have Hek := Lib.hid (Hd8.out _ (List.getElem_mem hkr))
              have HXs := Lib.hid (show joinB ((recs rs).take (k + 1)) = joinB ((recs rs).take k) ++ frameOf rs[k].pl by rw [recs_take_succ rs k hkr, joinB_snoc])
              generalize rs[k] = x at *
              have hFl := frameOf_length x.pl
              rw [show x.pl.d.length = x.d.l.length from rfl] at hFl hoS
              have q5 : x.d.l.length ≤ 8000 := (recE_ok.1 Hek.out).2.2.2.2
              have HFl := Lib.hid hFl
              have HoS := Lib.hid hoS
              have hba := ext_alloc wr (.cells #[.int .i64 (q : Int)] 3)
              have HO1 := Lib.hid (HO.out.ext hba)
              have HB1 := Lib.hid (HB.out.ext hba)
              have HS := Lib.hid (src_new wr [.int .i64 (q : Int)] 3)
              have hsz2 : w.heap.size ≤ (wr.alloc (.cells #[.int .i64 (q : Int)] 3)).heap.size := Nat.le_trans HBr.out.size hba.size
              have HBa := Lib.hid (bthen HBr.out hba (Nat.le_refl _))
              have HQ0 := Lib.hid q0
              have HQ1 := Lib.hid q1
              have HQ2 := Lib.hid q2
              have Hr0 := Lib.hid hr0
              clear hat q0 q1 q2 hrl hoS hFl hba hr0 HO HB
              go_wp2_with (refine wpList_appm rfl (.tmp 63) (.tmp 66) 26 rfl w.heap.size 3 i0 (.int .i64 0) 1 8 Try.underlying26 hi hz0 hz1 hz2 rfl (by decide) aO k cO (ivs ((List.range k).map fun j => ((offP (recs rs) j : Nat) : Int))) rfl HO1.out (some ⟨wr.heap.size, 0, none⟩) 1 1 [.int .i64 (q : Int)] rfl rfl HS.out (by simp [Value.oneCell']) (by unfold maxLen; omega) (by omega) hsz2 ?_; intro a4 c4 w4 hA4; have hB4 := HBa.out.trans hA4.below; have c0 := (World.cell?_of_block (w := w) (a := ⟨b, o + k * 3, none⟩) (hB4.block b hlb)).trans HQ0.out; have c1 := (World.cell?_of_block (w := w) (a := ⟨b, o + k * 3 + 1, none⟩) (hB4.block b hlb)).trans HQ1.out; have c2' := (World.cell?_of_block (w := w) (a := ⟨b, o + k * 3 + 2, none⟩) (hB4.block b hlb)).trans HQ2.out; clear hB4)
              have HB4 := Lib.hid (HBa.out.trans hA4.below)
              have HBo4 := Lib.hid (HB1.out.mod (hA4.mod (fun _ T => T = 3) fun _ _ _ _ => rfl) fun _ _ _ hf => absurd (show 5 = 3 from hf) (by decide))
              have HO4 : Hid (Own w4 w.heap.size 3 1 a4 (k + 1) c4 (ivs ((List.range (k + 1)).map fun j => ((offP (recs rs) j : Nat) : Int)))) := Lib.hid (by
                have := hA4.own
                rw [List.range_succ, List.map_append]
                unfold ivs at this ⊢
                rw [List.map_append]
                have hq := Hq.out
                subst hq
                exact this)
              have HF := Lib.hid (refframe_ok x w4 ⟨Hr0.out.1.ext HB4.out, Hr0.out.2⟩ Hek.out)
              unfold RecV.val at HF
              clear hA4 HO1 HB1 HS hsz2 HBa HBr HQ0 HQ1 HQ2
              try go_wp2_with fail
              refine HF.out.mono ?_
              rintro e w5 ⟨a5, c5, rfl, ho5, hb5⟩
              have HO5 := Lib.hid (HO4.out.ext hb5)
              have HB5 := Lib.hid (HBo4.out.ext hb5)
              have HS5 := Lib.hid ho5.src
              have HBb := Lib.hid (bthen HB4.out hb5 (Nat.le_refl _))
              have hsz5 := HBb.out.size
              clear ho5 hb5 HF HO4 HB4 HBo4 c0 c1 c2'
              go_wp2_with (refine wpList_appm rfl (.tmp 68) (.tmp 73) 34 rfl w.heap.size 5 i8 (.int .u8 0) 1 1 Try.underlying34 hi8 hy0 hy1 hy2 rfl (by decide) aB q cB (bvs (Hd ++ joinB ((recs rs).take k))) rfl HB5.out a5 (13 + x.d.l.length) c5 (bvs (frameOf x.pl)) rfl (by rw [bvs_length, HFl.out, Nat.mul_one]) HS5.out (bvs_one _) (by unfold maxLen; omega) (by omega) hsz5 ?_; intro a6 c6 w6 hA6)
              have HO6 := Lib.hid (HO5.out.mod (hA6.mod (fun _ T => T = 5) fun _ _ _ _ => rfl) fun _ _ _ hf => absurd (show 3 = 5 from hf) (by decide))
              have HB6 := Lib.hid (HBb.out.trans hA6.below)
              have HB7 : Hid (Own w6 w.heap.size 5 1 a6 (q + (13 + x.d.l.length)) c6 (bvs (Hd ++ joinB ((recs rs).take (k + 1))))) := Lib.hid (by
                rw [HXs.out, ← List.append_assoc, bvs_append _ (frameOf x.pl)]
                exact hA6.own)
              clear hA6 HO5 HB5 HS5 HBb hsz5
              go_roundw
              case rel => exact ⟨k + 1, a6, c6, a4, c4, _, rfl, by omega, by rw [HoS.out], rfl, by go_num, by rw [HoS.out]; exact HB7.out, HO6.out, HB6.out⟩
              case measure => simp [intOf]; omega
            · obtain rfl : n = k := by omega
              have HT := Lib.hid (refframe_no 5 (n : Int) wr He5.out)
              go_wp2_with fail
              refine HT.out.mono ?_
              rintro e w5 ⟨a5, c5, rfl, ho5, hb5⟩
              have HO5 := Lib.hid (HO.out.ext hb5)
              have HB5 := Lib.hid (HB.out.ext hb5)
              have HS5 := Lib.hid ho5.src
              have HBb := Lib.hid (bthen HBr.out hb5 (Nat.le_refl _))
              have hsz5 := HBb.out.size
              have HFl : Hid ((frameOf ⟨5, (n : Int), []⟩).length = 13) := Lib.hid (frameOf_length _)
              clear ho5 hb5 HT
              go_wp2_with (refine wpList_appm rfl (.tmp 75) (.tmp 79) 34 rfl w.heap.size 5 i8 (.int .u8 0) 1 1 Try.underlying34 hi8 hy0 hy1 hy2 rfl (by decide) aB q cB (bvs (Hd ++ joinB ((recs rs).take n))) rfl HB5.out a5 13 c5 (bvs (frameOf ⟨5, (n : Int), []⟩)) rfl (by rw [bvs_length, HFl.out]) HS5.out (bvs_one _) (by unfold maxLen; omega) (by omega) hsz5 ?_; intro a6 c6 w6 hA6)
              have HO6 := Lib.hid (HO5.out.mod (hA6.mod (fun _ T => T = 5) fun _ _ _ _ => rfl) fun _ _ _ hf => absurd (show 3 = 5 from hf) (by decide))
              have HB6 := Lib.hid (HBb.out.trans hA6.below)
              have hJ : joinB (aggrL (recs rs)) = Hd ++ joinB ((recs rs).take n) ++ frameOf ⟨5, (n : Int), []⟩ := by
                rw [List.take_of_length_le (by rw [recs_length, ← HN.out]; omega), HHd.out]
                unfold aggrL
                rw [joinB_cons, joinB_snoc, recs_length, ← HN.out, List.append_assoc]
              have hLq : Ll = q + 13 := by
                rw [← HLl.out, hJ, List.length_append, List.length_append, HFl.out, Hq.out, HHd.out, frameOf_length]
                rfl
              have HB7 : Hid (Own w6 w.heap.size 5 1 a6 Ll c6 (bvs (joinB (aggrL (recs rs))))) := Lib.hid (by
                rw [hJ, bvs_append, hLq]
                exact hA6.own)
              have HO7 : Hid (Own w6 w.heap.size 3 1 aO n cO (ivs (offsP (recs rs)))) := Lib.hid (by
                have := HO6.out
                unfold offsP
                rw [recs_length, ← HN.out]
                exact this)
              have HLq := Lib.hid hLq
              clear hA6 HO5 HB5 HS5 HBb hsz5 hJ hLq HO6 HO HB
              go_wp2
              go_ret3
              exact ⟨a6, c6, aO, n, cO, by rw [HLq.out]; rfl, HB7.out, HO7.out, HB6.out⟩
end Go.Proofs.Ytogcejmnhiphgaa
