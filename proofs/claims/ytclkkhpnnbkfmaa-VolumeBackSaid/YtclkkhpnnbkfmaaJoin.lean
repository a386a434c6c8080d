/- frame.Join, frame.Bytes. -/
import Derived.Test.YtclkkhpnnbkfmaaRecK
import Derived.Test.YtclkkhpnnbkfmaaVolumeBackPartQ
import Derived.Test.YtclkkhpnnbkfmaaRegionChain
namespace Go.Proofs.Ytclkkhpnnbkfmaa
open Go.RowKit

set_option maxRecDepth 100000

theorem own_ne_type {w : World} {B : Nat} {e : TypeId} {k : Nat} {a : Option Addr} {n c : Nat} {xs : List Value} (h : Own w B e k a n c xs) {g : Nat} {cs : Array Value} {T : TypeId} {m : Nat × Nat} (hg : w.heap[g]? = some (.cells cs T m)) (hT : T ≠ e) :
    (n = 0 ∧ c = 0) ∨ ∀ o, a ≠ some ⟨g, o, none⟩ := by
  obtain ⟨_, h0 | ⟨g', cur, ha, hb', hh, _⟩⟩ := h
  · exact .inl h0
  · refine .inr fun o he => ?_
    rw [ha] at he
    simp only [Option.some.injEq, Addr.mk.injEq] at he
    rw [he.1, hg] at hh
    simp only [Option.some.injEq, Obj.cells.injEq] at hh
    exact hT hh.2.1

theorem joinB_le : ∀ (l : List Rec), (∀ r ∈ l, r.e = 0) → (joinB l).length ≤ 8013 * l.length
  | [], _ => by simp [joinB]
  | r :: l, h => by
    have h1 := joinB_le l fun r hr => h r (by simp [hr])
    have h2 := (recE_ok.1 (h r (by simp))).2.2.2.2
    rw [joinB_cons, List.length_append, frameOf_length, List.length_cons]
    omega

theorem fhead_be (r : Rec) : be r.kind.toNat 1 ++ be r.seq.toNat 4 ++ be r.d.length 4 = fhead r := by simp [fhead]

set_option maxHeartbeats 4000000 in
theorem join_at (a : Option Addr) (c n : Nat) (rs : List RecV) (E : Int) (l : List Byte) (Ll : Nat) (w : World) (ha : RMat w a rs) (hn : n = rs.length) (hl : n ≤ 100000) (hE : joinE (recs rs) = E) (hB : joinR (recs rs) = l) (hLl : l.length = Ll) :
    Calls Try.prog 134 #[.slice a n c] w fun e w' => ∃ a' c', e = .returned (.tuple #[.slice a' Ll c', .int .i64 E]) ∧ Own w' w.heap.size 5 1 a' Ll c' (bvs l) ∧ Below w.heap.size w w' := by
  obtain ⟨i0, hi, hz0, hz1, hz2⟩ := info_parts info8
  have HN := Lib.hid hn
  have HE := Lib.hid hE
  have HB := Lib.hid hB
  have HLl := Lib.hid hLl
  clear hn hE hB hLl
  go_enter Try.func134, Try.ntmps134
  go_wp2_with fail
  go_loopw [4, 13] (fun v i wr => ∃ (k : Nat) (a' : Option Addr) (c' : Nat), k ≤ n ∧ i = .int .i64 k ∧ v = .slice a' (joinB ((recs rs).take k)).length c' ∧ Own wr w.heap.size 5 1 a' (joinB ((recs rs).take k)).length c' (bvs (joinB ((recs rs).take k))) ∧ Below w.heap.size w wr ∧ (∀ r ∈ (recs rs).take k, r.e = 0)) (fun _ i _ => n - (intOf i).toNat)
  case atStart => exact ⟨0, none, 0, by omega, rfl, rfl, Own.nil _ _ _ _ _, Below.refl _ _, by simp⟩
  case round =>
    rename_i wr
    obtain ⟨k, a', c', hk, rfl, rfl, hown, hbr, hall⟩ := hrel
    have hXl := joinB_le _ hall
    have hXl2 : ((recs rs).take k).length ≤ k := by simp; omega
    by_cases hlt : k < n
    · have har := ha.ext hbr
      have hkr : k < rs.length := by have := HN.out; omega
      obtain ⟨b1, o1, rfl, hltb1, hat1⟩ := har.at (i := k) hkr
      obtain ⟨c0, c1, c2⟩ := hat1 k hkr
      have hr0 := ha.row rs[k] (List.getElem_mem hkr)
      have Htk := Lib.hid (recs_take_succ rs k hkr)
      have HEk : Hid (rs[k].pl.e ≠ 0 → E = rs[k].pl.e ∧ l = []) := Lib.hid fun hne => by
        have h1 := joinE_at (l := recs rs) (k := k) (by simpa using hkr) hall (by simpa [recs] using hne)
        rw [HE.out] at h1
        have h2 : (recs rs)[k]'(by simpa using hkr) = rs[k].pl := by simp [recs]
        rw [h2] at h1
        refine ⟨h1, ?_⟩
        rw [← HB.out, joinR, if_neg (by rw [HE.out, h1]; exact hne)]
      have HXs := Lib.hid (show joinB ((recs rs).take (k + 1)) = joinB ((recs rs).take k) ++ frameOf rs[k].pl by rw [recs_take_succ rs k hkr, joinB_snoc])
      generalize rs[k] = r at *
      generalize joinB ((recs rs).take k) = X at *
      have Hall := Lib.hid hall
      have hXX : X.length ≤ 8013 * 100000 := by omega
      clear hat1 hall hXl hXl2
      have hput := RecAt.put wr #[.int .i64 0, .int .i64 0, .slice none 0 0] rfl r
      have hbp := below_putr wr #[.int .i64 0, .int .i64 0, .slice none 0 0] r
      obtain ⟨E1, hE1⟩ : ∃ E1, r.pl.e = E1 := ⟨_, rfl⟩
      have HC := Lib.hid fun w => check06_at r E1 w hE1
      unfold RecV.val at HC
      go_wp2_with (refine wpList_store_row rfl rfl 54 (.tmp 6) (.tmp 16) rfl wr.heap.size rfl 54 #[.int .i64 0, .int .i64 0, .slice none 0 0] #[.int .i64 r.kind, .int .i64 r.seq, .slice r.d.a r.d.l.length r.d.c] rfl (heap_alloc_new wr _) rfl (by kernel_rfl) (by simp [Value.oneCell']) ?_; obtain ⟨k0, k1, k2⟩ := hput.cells)
      clear c0 c1 c2
      generalize hws : World.setRow _ _ _ = ws at *
      clear hws
      have hrS : RecAt ws wr.heap.size r := hput
      have howS0 := hown.ext hbp
      have hbS := bthen hbr hbp (Nat.le_refl _)
      clear hput hbp hown
      refine (HC.out ws).mono ?_
      rintro e w1 ⟨rfl, hb1⟩
      have hr1 := hrS.ext hb1
      have how1 := howS0.ext hb1
      have hbw1 := bthen hbS hb1 (Nat.le_refl _)
      clear k0 k1 k2 hrS howS0 hbS hb1 HC
      by_cases hE0 : E1 = 0
      · subst hE0
        obtain ⟨q1, q2, q3, q4, q5⟩ := recE_ok.1 hE1
        have q1 : 1 ≤ r.kind := q1
        have q2 : r.kind ≤ 5 := q2
        have q3 : 0 ≤ r.seq := q3
        have q4 : r.seq < 1073741824 := q4
        have q5 : r.d.l.length ≤ 8000 := q5
        obtain ⟨kk, hkk⟩ := Int.eq_ofNat_of_zero_le (show 0 ≤ r.kind by omega)
        obtain ⟨sq, hsq⟩ := Int.eq_ofNat_of_zero_le q3
        have hfh := fhead_be r.pl
        rw [show r.pl.kind.toNat = kk from by show r.kind.toNat = kk; omega, show r.pl.seq.toNat = sq from by show r.seq.toNat = sq; omega, show r.pl.d.length = r.d.l.length from rfl] at hfh
        obtain ⟨k0, k1, k2⟩ := hr1.cells
        have p1 : (256 : Nat) ^ 1 = 256 := by decide
        have p4 : (256 : Nat) ^ 4 = 4294967296 := by decide
        have Hfh := Lib.hid hfh
        have He := Lib.hid hE1
        have Hkk := Lib.hid hkk
        have Hsq := Lib.hid hsq
        have P1 : Hid (kk < 256 ^ 1) := Lib.hid (by omega)
        have P4 : Hid (sq < 256 ^ 4) := Lib.hid (by omega)
        have P5 : Hid (r.d.l.length < 256 ^ 4) := Lib.hid (by omega)
        clear hfh hE1 hkk hsq p1 p4 HEk
        go_wp2_with fail
        refine (put_ok none 0 0 [] kk 1 _ _ w1 (Src.nil _ _) rfl Hkk.out rfl (by omega) (by omega) (by omega) P1.out).mono ?_
        rintro e w2 ⟨a1, c1, rfl, ho1, hb2⟩
        have hs1 := ho1.src
        have hr2 := hr1.ext hb2
        have how2 := how1.ext hb2
        have hbw2 := bthen hbw1 hb2 (Nat.le_refl _)
        clear k0 k1 k2 hr1 how1 hbw1 hb2 ho1 P1
        obtain ⟨k0, k1, k2⟩ := hr2.cells
        go_wp2_with fail
        refine (put_ok a1 c1 1 _ sq 4 _ _ w2 hs1 rfl Hsq.out rfl (by omega) (by omega) (by omega) P4.out).mono ?_
        rintro e w3 ⟨a2, c2, rfl, ho2, hb3⟩
        have hs2 := ho2.src
        have hr3 := hr2.ext hb3
        have how3 := how2.ext hb3
        have hbw3 := bthen hbw2 hb3 (Nat.le_refl _)
        clear k0 k1 k2 hr2 how2 hbw2 hb3 ho2 P4 hs1
        obtain ⟨k0, k1, k2⟩ := hr3.cells
        go_wp2_with fail
        refine (put_ok a2 c2 (1 + 4) _ r.d.l.length 4 _ _ w3 hs2 rfl rfl rfl (by omega) (by omega) (by omega) P5.out).mono ?_
        rintro e w4 ⟨a3, c3, rfl, ho3, hb4⟩
        rw [List.nil_append, Hfh.out] at ho3
        have hsH := ho3.src
        have hr4 := hr3.ext hb4
        have how4 := how3.ext hb4
        have hbw4 := bthen hbw3 hb4 (Nat.le_refl _)
        clear k0 k1 k2 hr3 how3 hbw3 hb4 ho3 P5 hs2
        obtain ⟨k0, k1, k2⟩ := hr4.cells
        have hHl := fhead_length r.pl
        have hfo : frameOf r.pl = fhead r.pl ++ (crcBytesOf (crc (fhead r.pl ++ r.d.l)) ++ r.d.l) := rfl
        generalize fhead r.pl = H at *
        generalize hz : crc (H ++ r.d.l) = z at *
        have HH := Lib.hid hHl
        have Hfo := Lib.hid hfo
        have Hz := Lib.hid hz
        clear hHl hfo hz Hfh
        go_wp2_with fail
        refine (crcbytes_at _ _ [⟨a3, c3, H⟩, r.d] _ 2 z (mat_new' (w := w4) rfl (by simp [Bsl.val, HH.out]) (fun p hp => ?_)) rfl (by omega) (by rw [← Hz.out]; simp [flat])).mono ?_
        · simp only [List.mem_cons, List.not_mem_nil, or_false] at hp
          rcases hp with rfl | rfl
          · exact ⟨hsH, by show H.length ≤ _; rw [HH.out]; omega⟩
          · exact ⟨hr0.1.ext hbw4, hr0.2⟩
        rintro e w5 ⟨rfl, hb5⟩
        have hb45 := bthen (ext_alloc w4 _) hb5 (by simp)
        have hr5 := hr4.ext hb45
        have how5 := how4.ext hb45
        have hbw5 := bthen hbw4 hb45 (Nat.le_refl _)
        have hsH5 := hsH.ext hb45
        clear k0 k1 k2 hr4 how4 hbw4 hb45 hb5 hsH
        have hb56 := bsetRow (ext_alloc w5 (.cells #[.int .u8 0, .int .u8 0, .int .u8 0, .int .u8 0] 177)) (Nat.le_refl _) (bvs (crcBytesOf z)).toArray
        have hr10 := setRow_heap (w5.alloc (.cells #[.int .u8 0, .int .u8 0, .int .u8 0, .int .u8 0] 177)) w5.heap.size _ (bvs (crcBytesOf z)).toArray _ _ (heap_alloc_new w5 _)
        have hr6 := hr5.ext hb56
        have howS := how5.ext hb56
        have hbW := bthen hbw5 hb56 (Nat.le_refl _)
        have hsH := hsH5.ext hb56
        clear hr5 how5 hbw5 hb56 hsH5
        go_wp2_with (refine wpList_store_row rfl rfl 177 (.tmp 10) (.tmp 47) rfl w5.heap.size rfl 177 #[.int .u8 0, .int .u8 0, .int .u8 0, .int .u8 0] (bvs (crcBytesOf z)).toArray rfl (heap_alloc_new w5 _) rfl (by kernel_rfl) (by simpa using bvs_one (crcBytesOf z)) ?_)
        generalize hws : World.setRow _ _ _ = wS at *
        clear hws
        generalize w5.heap.size = g10 at *
        have hl6 := heap_lt hr6
        have hl10 := heap_lt hr10
        have hdW : Src w r.d.a (bvs r.d.l) := hr0.1
        have hq5 := q5
        refine wp_region_chain (by kernel_rfl) [2, 4, 7, 8] (Keeps.rel (fun b => b = wr.heap.size ∨ b = g10)) [SpT.eq (.slice a' X.length c'), SpT.eq (.slice a3 9 c3), SpT.top, SpT.eq (.slice (some ⟨g10, 0, none⟩) 4 4), SpT.top, SpT.eq (.pointer (some ⟨wr.heap.size, 2, none⟩)), SpT.eq (.slice r.d.a r.d.l.length r.d.c), SpT.top, SpT.top] (by kernel_rfl) (by kernel_rfl) (by kernel_rfl) ?_ ?_
        · refine stepsF_free rfl ?_ (stepsF_free rfl ?_ (stepsF_chain rfl (stepsF_free rfl ?_ (stepsF_chain rfl (stepsF_free rfl ?_ (stepsF_free rfl ?_ (stepsF_chain rfl (stepsF_chain rfl (stepsF_nil)))))))))
          · intro ρ w' E
            have e4 : ρ (.tmp 4) = .slice a' X.length c' := E.old 8 4 rfl rfl
            refine step_plain rfl ?_
            exact op_move (.inl rfl) e4 ⟨Below.refl _ _, rfl⟩
          · intro ρ w' E
            have e8 : ρ (.tmp 8) = .slice a3 9 c3 := E.out 8 rfl
            refine step_plain rfl ?_
            exact op_move (.inl rfl) e8 ⟨Below.refl _ _, rfl⟩
          · intro ρ w' E
            have e10 : ρ (.tmp 10) = .pointer (some ⟨g10, 0, none⟩) := E.out 10 rfl
            refine step_plain rfl ?_
            refine op_val (v := .slice (some ⟨g10, 0, none⟩) 4 4) (w' := w') ?_ ⟨Below.refl _ _, rfl⟩
            have hcon := E.con
            clear E
            go_simp
          · intro ρ w' E
            have e6 : ρ (.tmp 6) = .pointer (some ⟨wr.heap.size, 0, none⟩) := E.out 6 rfl
            refine step_plain rfl ?_
            refine op_val (v := .pointer (some ⟨wr.heap.size, 2, none⟩)) (w' := w') ?_ ⟨Below.refl _ _, rfl⟩
            have hcon := E.con
            clear E
            go_simp
          · intro ρ w' E
            have e53 : ρ (.tmp 53) = .pointer (some ⟨wr.heap.size, 2, none⟩) := E.pre 5 rfl
            refine step_plain rfl ?_
            refine op_val (v := .slice r.d.a r.d.l.length r.d.c) (w' := w') ?_ ⟨Below.refl _ _, rfl⟩
            have hg6 : w'.heap[wr.heap.size]? = _ := (E.t.block wr.heap.size (.inl rfl) hl6).trans hr6
            have hk := cell_of_row w' wr.heap.size 2 _ _ _ hg6
            have hk2 : w'.cell? ⟨wr.heap.size, 2, none⟩ = some (.slice r.d.a r.d.l.length r.d.c) := hk
            have hcon := E.con
            clear E hk hg6
            go_simp
        · intro ρ1 w1c G1 E1
          have e48 : ρ1 (.tmp 48) = .slice a' X.length c' := E1.pre 0 rfl rfl
          have e49 : ρ1 (.tmp 49) = .slice a3 9 c3 := E1.pre 1 rfl rfl
          refine step_plain rfl ?_
          have hsz1 := Nat.le_trans hbW.size E1.t.size
          have hbw1 := hbW.trans (G1.mono hbW.size)
          have hg61 : w1c.heap[wr.heap.size]? = _ := (E1.t.block wr.heap.size (.inl rfl) hl6).trans hr6
          have hg101 : w1c.heap[g10]? = _ := (E1.t.block g10 (.inr rfl) hl10).trans hr10
          have ho1 := howS.ext G1
          refine op_app (s := .tmp 48) (x := .tmp 49) (t := 50) rfl w.heap.size 5 i0 (.int .u8 0) 1 1 Try.underlying50 hi hz0 hz1 hz2 rfl (by decide) a' X.length c' (bvs X) e48 ho1 a3 9 c3 (bvs H) e49 (by rw [bvs_length, HH.out]) (hsH.ext G1) (bvs_one _) (by unfold maxLen; omega) (by omega) (by omega) ?_
          intro a1x c1x w1x ho1x hb1x hf1x
          have hbx1 := hbw1.trans hb1x
          refine ⟨⟨hb1x.size, fun b hb hl => hf1x b hl ?_⟩, ?_⟩
          · rcases hb with rfl | rfl
            · exact own_ne_type ho1 hg61 (by decide)
            · exact own_ne_type ho1 hg101 (by decide)
          intro ρ2 w2c G2 E2
          have e50 : ρ2 (.tmp 50) = .slice a1x (X.length + 9) c1x := E2.chn 2 50 rfl rfl rfl
          have e51 : ρ2 (.tmp 51) = .slice (some ⟨g10, 0, none⟩) 4 4 := E2.pre 3 rfl rfl
          refine step_plain rfl ?_
          have hsz2 := Nat.le_trans hbW.size E2.t.size
          have hbw2 := hbx1.trans (G2.mono (by have := hbx1.size; omega))
          have hg62 : w2c.heap[wr.heap.size]? = _ := (E2.t.block wr.heap.size (.inl rfl) hl6).trans hr6
          have hg102 : w2c.heap[g10]? = _ := (E2.t.block g10 (.inr rfl) hl10).trans hr10
          have ho2 := ho1x.ext G2
          refine op_app (s := .tmp 50) (x := .tmp 51) (t := 50) rfl w.heap.size 5 i0 (.int .u8 0) 1 1 Try.underlying50 hi hz0 hz1 hz2 rfl (by decide) a1x (X.length + 9) c1x (bvs X ++ bvs H) e50 ho2 (some ⟨g10, 0, none⟩) 4 4 (bvs (crcBytesOf z)) e51 rfl (Or.inr ⟨_, 0, _, _, _, rfl, hg102, by simp [bvs, crcBytesOf]⟩) (bvs_one _) (by unfold maxLen; omega) (by omega) (by omega) ?_
          intro a2x c2x w2x ho2x hb2x hf2x
          have hbx2 := hbw2.trans hb2x
          refine ⟨⟨hb2x.size, fun b hb hl => hf2x b hl ?_⟩, ?_⟩
          · rcases hb with rfl | rfl
            · exact own_ne_type ho2 hg62 (by decide)
            · exact own_ne_type ho2 hg102 (by decide)
          intro ρ3 w3c G3 E3
          have e52 : ρ3 (.tmp 52) = .slice a2x (X.length + 9 + 4) c2x := E3.chn 4 52 rfl rfl rfl
          have e54 : ρ3 (.tmp 54) = .slice r.d.a r.d.l.length r.d.c := E3.pre 6 rfl rfl
          refine step_plain rfl ?_
          have hsz3 := Nat.le_trans hbW.size E3.t.size
          have hbw3 := hbx2.trans (G3.mono (by have := hbx2.size; omega))
          have hg63 : w3c.heap[wr.heap.size]? = _ := (E3.t.block wr.heap.size (.inl rfl) hl6).trans hr6
          have hg103 : w3c.heap[g10]? = _ := (E3.t.block g10 (.inr rfl) hl10).trans hr10
          have ho3 := ho2x.ext G3
          refine op_app (s := .tmp 52) (x := .tmp 54) (t := 50) rfl w.heap.size 5 i0 (.int .u8 0) 1 1 Try.underlying50 hi hz0 hz1 hz2 rfl (by decide) a2x (X.length + 9 + 4) c2x (bvs X ++ bvs H ++ bvs (crcBytesOf z)) e52 ho3 r.d.a r.d.l.length r.d.c (bvs r.d.l) e54 (by rw [bvs_length]; omega) (hdW.keep fun b o e hl => hbw3.block b hl) (bvs_one _) (by unfold maxLen; omega) (by omega) (by omega) ?_
          intro a3x c3x w3x ho3x hb3x hf3x
          have hbx3 := hbw3.trans hb3x
          refine ⟨⟨hb3x.size, fun b hb hl => hf3x b hl ?_⟩, ?_⟩
          · rcases hb with rfl | rfl
            · exact own_ne_type ho3 hg63 (by decide)
            · exact own_ne_type ho3 hg103 (by decide)
          intro ρ4 w4c G4 E4
          have e55 : ρ4 (.tmp 55) = .slice a3x (X.length + 9 + 4 + r.d.l.length) c3x := E4.chn 7 55 rfl rfl rfl
          refine step_plain rfl ?_
          refine op_move (.inr rfl) e55 ⟨(Keeps.rel (fun b => b = wr.heap.size ∨ b = g10)).of (Below.refl _ _), ?_⟩
          intro σ wF GF TF hκ
          have h4 : σ 4 = .slice a3x (X.length + 9 + 4 + r.d.l.length) c3x := hκ 8 4 rfl rfl
          clear hκ
          simp only [upd, updL, dstsOf', elemB, List.filterMap_cons, List.filterMap_nil, Nat.reduceAdd, Nat.reduceBEq, Bool.or_false, Bool.false_or, Bool.or_true, Bool.true_or, cond_true, cond_false, Nat.zero_add, h4]
          have hGG := bthen G4 GF (Nat.le_refl _)
          have hbF := hbx3.trans (hGG.mono hbx3.size)
          have hoF := ho3x.ext hGG
          clear ho1x ho2x ho3x ho1 ho2 ho3 hb1x hb2x hb3x hf1x hf2x hf3x hbx1 hbx2 hbx3 hbw1 hbw2 hbw3 E1 E2 E3 E4 G1 G2 G3 G4 GF TF hGG hg61 hg62 hg63 hg101 hg102 hg103
          go_wp2
          go_roundw
          case rel =>
            have hlen : (joinB ((recs rs).take (k + 1))).length = X.length + 9 + 4 + r.d.l.length := by
              rw [HXs.out, Hfo.out, List.length_append, List.length_append, List.length_append, HH.out, crcBytesOf_len]; omega
            refine ⟨k + 1, a3x, c3x, by omega, by go_num, by rw [hlen], ?_, hbF, ?_⟩
            · rw [hlen, HXs.out, Hfo.out, bvs_append, bvs_append, bvs_append, ← List.append_assoc, ← List.append_assoc]
              exact hoF
            · rw [Htk.out]
              intro x hx
              rcases List.mem_append.1 hx with h | h
              · exact Hall.out x h
              · simp only [List.mem_singleton] at h; subst h; exact He.out
          case measure => simp [intOf]; omega
      · obtain ⟨hEE, hll⟩ := HEk.out (by rw [hE1]; exact hE0)
        have hne : ((E1 : Int) != 0) = true := by simpa using hE0
        have hLl0 : Ll = 0 := by rw [← HLl.out, hll]; rfl
        have HEE := Lib.hid (hEE.trans hE1)
        have Hll := Lib.hid hll
        have HLl0 := Lib.hid hLl0
        clear hEE hll hLl0 HEk hE0 hE1
        go_wp2
        go_ret2
        exact ⟨none, 0, by rw [HEE.out, HLl0.out]; rfl, by rw [Hll.out, HLl0.out]; exact Own.nil _ _ _ _ _, hbw1⟩
    · have h1 := HN.out
      have htk : (recs rs).take k = recs rs := List.take_of_length_le (by simp; omega)
      rw [htk] at hall
      have hE0 := joinE_ok.2 hall
      rw [htk] at hown ⊢
      have hB0 := HB.out
      rw [joinR, if_pos hE0] at hB0
      rw [hB0] at hown ⊢
      have HL2 := HLl.out
      rw [HL2] at hown ⊢
      have HE0 := Lib.hid (HE.out.symm.trans hE0)
      clear hE0 hall hB0 HL2 hXl hXl2 htk h1
      go_wp2
      go_ret2
      exact ⟨a', c', by rw [HE0.out]; rfl, hown, hbr⟩
end Go.Proofs.Ytclkkhpnnbkfmaa
