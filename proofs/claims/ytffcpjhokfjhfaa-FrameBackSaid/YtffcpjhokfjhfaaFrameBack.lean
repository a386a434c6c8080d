/- The law FrameBack, walked. -/
import Derived.Test.YtffcpjhokfjhfaaFrameWakes
import Derived.Test.YtffcpjhokfjhfaaFramePlain2
namespace Go.Proofs.Ytffcpjhokfjhfaa
open Go.RowKit

theorem readF_cut0 (r : Rec) (j : Nat) (h : r.e = 0) (hj : j < 13 + r.d.length) : readF ((frameOf r).take j) 0 = (Rec.zero, 0, 3) := by
  have := readF_cut [] r j h hj
  simpa using this

theorem RMat.head {w : World} {b o : Nat} {rs : List RecV} (h : RMat w (some ⟨b, o, none⟩) rs) (hk : 0 < rs.length) {r : RecV} (hr : rs[0] = r) :
    w.cell? ⟨b, o, none⟩ = some (.int .i64 r.kind) ∧ w.cell? ⟨b, o + 1, none⟩ = some (.int .i64 r.seq) ∧ w.cell? ⟨b, o + 2, none⟩ = some (.slice r.d.a r.d.l.length r.d.c) := by
  subst hr
  obtain ⟨b', o', hbo, _, hat⟩ := h.at hk
  simp only [Option.some.injEq, Addr.mk.injEq, and_true] at hbo
  obtain ⟨rfl, rfl⟩ := hbo
  have := hat 0 hk
  simpa using this

set_option maxRecDepth 100000 in
set_option maxHeartbeats 2000000 in
theorem frameBack_walk (w : World) (a : Option Addr) (c : Nat) (rs : List RecV) (ha : RMat w a rs) (hl : rs.length ≤ 9223372036854775807) (hlc : rs.length ≤ c) (cut : Int) (hcut : (Lit.int .i64 cut).wf = true) (at_ : Int) (hat : (Lit.int .i64 at_).wf = true) (mm : Int) (hmm : (Lit.int .u32 mm).wf = true) :
    Calls Try.prog 8 #[.slice a rs.length c, .int .i64 cut, .int .i64 at_, .int .u32 mm] w fun e w' => e = .returned (.bool true) ∧ Below w.heap.size w w' := by
  obtain ⟨m, rfl⟩ : ∃ m : BitVec 32, mm = (m.toNat : Int) := by
    have hx : 0 ≤ mm ∧ mm ≤ 4294967295 := by simpa [Lit.wf, IntKind.min, IntKind.max, IntKind.signed, IntKind.bits] using hmm
    refine ⟨BitVec.ofInt 32 mm, ?_⟩
    rw [BitVec.toNat_ofInt]; omega
  clear hcut hlc hat hmm
  cases hh : heavy06 rs with
  | true =>
    have HH := Lib.hid (heavy06_at a c rs.length rs true w ha rfl hl hh)
    clear hh
    go_enter Try.func8, Try.ntmps8
    go_wp2_with fail
    refine HH.out.mono ?_
    rintro e w1 ⟨rfl, rfl⟩
    go_wp2
    go_ret
    exact ⟨rfl, Below.refl _ _⟩
  | false =>
    obtain ⟨h80, h400⟩ := heavy06_no hh
    have HH := Lib.hid (heavy06_at a c rs.length rs false w ha rfl hl hh)
    clear hh
    obtain ⟨E, hE⟩ : ∃ E, joinE (recs rs) = E := ⟨_, rfl⟩
    obtain ⟨l, hB⟩ : ∃ l, joinR (recs rs) = l := ⟨_, rfl⟩
    obtain ⟨BL, hBL⟩ : ∃ BL, l.length = BL := ⟨_, rfl⟩
    obtain ⟨RL, hRL⟩ : ∃ RL, rs.length = RL := ⟨_, rfl⟩
    have HJ := Lib.hid (join_at a c RL rs E l BL w ha hRL.symm (by omega) hE hB hBL)
    have hcase : (E = 0 ∧ l = joinB (recs rs) ∧ ∀ r ∈ recs rs, r.e = 0) ∨ (E ≠ 0 ∧ BL = 0) := by
      by_cases h0 : E = 0
      · left
        rw [joinR, if_pos (by rw [hE]; exact h0)] at hB
        exact ⟨h0, hB.symm, joinE_ok.1 (by rw [hE]; exact h0)⟩
      · right
        rw [joinR, if_neg (by rw [hE]; exact h0)] at hB
        exact ⟨h0, by rw [← hBL, ← hB]; rfl⟩
    rw [hRL] at HH hl h80 ⊢
    have HRL := Lib.hid hRL
    have HBL := Lib.hid hBL
    clear hE hB hRL hBL
    rcases hcase with ⟨rfl, hlB, hall⟩ | ⟨hE0, hl0⟩
    · have hll := joinB_le _ hall
      rw [← hlB, HBL.out] at hll
      have hll2 : BL ≤ 8013 * 80 := by have := HRL.out; simp at hll; omega
      have hsp : splitF l = (recs rs, 0) := by rw [hlB]; exact splitF_join hall
      have HlB := Lib.hid hlB
      have Hall := Lib.hid hall
      have Hsp := Lib.hid hsp
      have H400 := Lib.hid h400
      clear hlB hall hll hsp h400
      go_enter Try.func8, Try.ntmps8
      go_wp2_with fail
      refine HH.out.mono ?_
      rintro e w1 ⟨rfl, rfl⟩
      go_wp2_with fail
      refine HJ.out.mono ?_
      rintro e w1 ⟨a1, c1, rfl, ho1, hb1⟩
      have hs1 := ho1.src
      have hl1 := ho1.len.1
      have ha1 := ha.ext hb1
      clear ho1 HH HJ ha
      go_wp2_with fail
      refine (split_at a1 BL c1 l _ _ w1 hs1 HBL.out.symm hl1 (by omega) Hsp.out).mono ?_
      rintro e w2 ⟨a2, c2, vs, rfl, hvs, hrv, hb2⟩
      have hm2 := hvs.mat
      have ha2 := ha1.ext hb2
      have hb02 := bthen hb1 hb2 (Nat.le_refl _)
      have hvl : vs.length = RL := by have := congrArg List.length hrv; have h2 := HRL.out; simp at this; omega
      rw [hvl]
      have Hvl := Lib.hid hvl
      have Hrv := Lib.hid hrv
      clear hvs hrv hvl ha1
      go_wp2_with fail
      refine (records_at a2 c2 vs a c rs w2 RL RL true hm2 ha2 Hvl.out.symm HRL.out.symm (by omega) (by omega) (by rw [Hrv.out]; simp)).mono ?_
      rintro e w3 ⟨rfl, hb3⟩
      have ha3 := ha2.ext hb3
      have hb03 := bthen hb02 hb3 (Nat.le_refl _)
      clear hm2 ha2 hb3 hb2 hb02
      by_cases hR0 : RL = 0
      · have hB0 : BL = 0 := by
          have h1 := HlB.out
          have h2 : rs = [] := List.eq_nil_of_length_eq_zero (by rw [HRL.out]; exact hR0)
          rw [h2] at h1
          rw [← HBL.out, h1]; rfl
        have t1 : (((RL : Nat) : Int) == 0) = true := by rw [hR0]; rfl
        have t2 : (((BL : Nat) : Int) == 0) = true := by rw [hB0]; rfl
        clear hR0 hB0
        go_wp2_with fail
        refine (wakes06_any _).mono ?_
        rintro e w4 ⟨rfl, hb4⟩
        go_wp2
        go_ret
        exact ⟨rfl, bthen hb03 hb4 (Nat.le_refl _)⟩
      · have hpos : 0 < rs.length := by have := HRL.out; omega
        have t1 : (((RL : Nat) : Int) == 0) = false := by simp; omega
        have hRp : 0 < RL := by omega
        obtain ⟨b, o, rfl, hltb, hat0⟩ := ha3.at hpos
        clear hat0
        have hrok := ha3.row rs[0] (List.getElem_mem hpos)
        have he0 : rs[0].pl.e = 0 := by
          have := Hall.out _ (List.getElem_mem (l := recs rs) (n := 0) (by simpa using hpos))
          simpa [recs] using this
        have hn400 := H400.out rs[0] (List.getElem_mem hpos)
        obtain ⟨r, hr⟩ : ∃ r, rs[0] = r := ⟨_, rfl⟩
        rw [hr] at hrok he0 hn400
        have Hr := Lib.hid hr
        have He0 := Lib.hid he0
        clear hr he0
        obtain ⟨k0, k1, k2⟩ := ha3.head hpos Hr.out
        obtain ⟨XL, hXL⟩ : ∃ XL, (frameOf r.pl).length = XL := ⟨_, rfl⟩
        have hXn : XL = 13 + r.d.l.length := by rw [← hXL]; exact frameOf_length _
        have HB := Lib.hid (frbytes_at r 0 (frameOf r.pl) XL w3 hrok He0.out (if_pos He0.out) hXL)
        have HXL := Lib.hid hXL
        have HXn := Lib.hid hXn
        have hX1 : 13 ≤ XL := by omega
        have hX2 : XL ≤ 413 := by omega
        have t3 : (((XL : Nat) : Int) != 13 + ((r.d.l.length : Nat) : Int)) = false := by simp; omega
        obtain ⟨j, hj, ekc⟩ := umod cut (XL : Int) (by omega) (by omega)
        unfold RecV.val at HB
        clear hXL hXn hR0
        go_wp2_with fail
        refine HB.out.mono ?_
        rintro e w4 ⟨a4, c4, rfl, ho4, hb4⟩
        have hs4 := ho4.src
        have hlc4 := ho4.len.1
        have Ho4 := Lib.hid ho4
        have ha4 := ha3.ext hb4
        have hb04 := bthen hb03 hb4 (Nat.le_refl _)
        have hjc : (j : Int) ≤ (c4 : Int) := by omega
        have hz03 := hb03.size
        clear k0 k1 k2 HB hb03 ho4
        obtain ⟨k0, k1, k2⟩ := ha4.head hpos Hr.out
        go_wp2_with fail
        refine (frread_at a4 j c4 ((frameOf r.pl).take j) 0 _ _ _ w4 (by rw [bvs_take]; exact hs4.take j) (by have := HXL.out; simp; omega) (by omega) (by omega) (readF_cut0 r.pl j He0.out (by have := HXn.out; show j < 13 + r.d.l.length; omega))).mono ?_
        rintro e w5 ⟨ad, cd, rfl, _, hb5⟩
        have e0 : (Rec.zero).kind = 0 := rfl
        have e1 : (Rec.zero).seq = 0 := rfl
        have e2 : (Rec.zero).d.length = 0 := rfl
        rw [e0, e1, e2]
        have hbp := below_putr w5 #[.int .i64 0, .int .i64 0, .slice none 0 0] ⟨0, 0, ⟨ad, cd, []⟩⟩
        have hput := RecAt.put w5 #[.int .i64 0, .int .i64 0, .slice none 0 0] rfl ⟨0, 0, ⟨ad, cd, []⟩⟩
        simp only [List.length_nil] at hbp
        obtain ⟨m0, m1, m2⟩ := hput.cells
        simp only [List.length_nil] at m0 m1 m2
        have hb46 := bthen hb5 hbp (Nat.le_refl _)
        have hz34 := hb4.size
        have hz46 := hb46.size
        have ha6 := ha4.ext hb46
        have Ho6 := Lib.hid (Ho4.out.ext hb46)
        have hb06 := bthen hb04 hb46 (Nat.le_refl _)
        clear e0 e1 e2 hput hbp hb5 ekc hj Ho4 hs4 k0 k1 k2 ha4 hb46 hb04
        go_wp2_with (refine wpList_store_row rfl rfl 29 (.tmp 13) (.tmp 86) rfl w5.heap.size rfl 29 #[.int .i64 0, .int .i64 0, .slice none 0 0] #[.int .i64 0, .int .i64 0, .slice ad 0 cd] rfl (heap_alloc_new w5 _) rfl (by kernel_rfl) (by simp [Value.oneCell']) ?_)
        generalize hws : World.setRow _ _ _ = w6 at *
        clear hws
        have HZ := record_at ⟨0, 0, ⟨ad, cd, []⟩⟩ ⟨0, 0, ⟨none, 0, []⟩⟩ true w6 ⟨Src.nil _ _, by simp⟩ ⟨Src.nil _ _, by simp⟩ (by simp [RecV.pl])
        unfold RecV.val at HZ
        simp only [List.length_nil] at HZ
        refine HZ.mono ?_
        rintro e w7 ⟨rfl, hb7⟩
        have ha7 := ha6.ext hb7
        have hz67 := hb7.size
        have Ho7 := Lib.hid (Ho6.out.ext hb7)
        have hb07 := bthen hb06 hb7 (Nat.le_refl _)
        clear HZ m0 m1 m2 ha6 Ho6 hb06 hb7
        obtain ⟨k0, k1, k2⟩ := ha7.head hpos Hr.out
        obtain ⟨n, hn⟩ : ∃ n, r.d.l.length = n := ⟨_, rfl⟩
        rw [hn] at k2 hn400 t3
        have Hn := Lib.hid hn
        clear hn
        by_cases hn0 : n = 0
        · have t4 : (((n : Nat) : Int) == 0) = true := by rw [hn0]; rfl
          clear hn0
          go_wp2_with fail
          refine (wakes06_any _).mono ?_
          rintro e w8 ⟨rfl, hb8⟩
          go_wp2
          go_ret
          exact ⟨rfl, bthen hb07 hb8 (Nat.le_refl _)⟩
        · have t4 : (((n : Nat) : Int) == 0) = false := by simpa using hn0
          obtain ⟨q, hq, eq⟩ := umod at_ (8 * (n : Int)) (by omega) (by omega)
          have Eq := Lib.hid eq
          have hXn2 : XL = 13 + n := by have := HXn.out; have := Hn.out; omega
          have HXn2 := Lib.hid hXn2
          have hFl : (frameOf r.pl).length = 13 + n := by rw [HXL.out, hXn2]
          have HFl := Lib.hid hFl
          have hin0 : 0 < n := by omega
          clear eq hn0 hXn2 hFl
          have ho7 := Ho7.out
          clear Ho7
          have Ho8 := Lib.hid ho7
          clear ho7
          go_wp2_with fail
          rw [Eq.out]
          clear Eq
          have hb7w := hb07.size
          have hsz4 : w3.heap.size ≤ w7.heap.size := by omega
          go_loopw [16, 17] (fun t i wr => ∃ k, k ≤ 32 ∧ q + k ≤ 8 * n ∧ i = .int .i64 (k : Nat) ∧ t = .bool (decide (flipTo (frameOf r.pl) (104 + q) m k ≠ frameOf r.pl)) ∧ Own wr w3.heap.size 5 1 a4 XL c4 (bvs (flipTo (frameOf r.pl) (104 + q) m k)) ∧ Below w3.heap.size w7 wr) (fun _ i _ => 32 - (intOf i).toNat)
          case atStart => exact ⟨0, by omega, by omega, rfl, by simp [flipTo], Ho8.out, Below.refl _ _⟩
          case round =>
            rename_i wr
            obtain ⟨k, hk, hpk, rfl, rfl, hown, hbr⟩ := hrel
            have hcl := flipTo_length (frameOf r.pl) (104 + q) m k
            rw [HFl.out] at hcl
            by_cases hgo : k < 32 ∧ q + k < 8 * n
            · obtain ⟨hlt, hlt2⟩ := hgo
              have ht := test_bit m k
              cases hbit : m.getLsbD k with
              | true =>
                rw [hbit] at ht
                have Hf : Hid (flipTo (frameOf r.pl) (104 + q) m (k + 1) = flipBit (flipTo (frameOf r.pl) (104 + q) m k) (104 + q + k)) := Lib.hid (by rw [flipTo, if_pos hbit])
                have Hd : Hid (decide (flipTo (frameOf r.pl) (104 + q) m (k + 1) ≠ frameOf r.pl) = true) := Lib.hid (by
                  rw [decide_eq_true_iff]
                  intro h
                  have := (flip_same (frameOf r.pl) (104 + q) m (k + 1) (by rw [HFl.out]; omega)).1 h.symm k (by omega)
                  rw [hbit] at this; cases this)
                clear hbit
                have hi8 : 13 + (q + k) / 8 < XL := by have := HXn2.out; omega
                obtain ⟨g, rfl, hg1, hg2, hgc, hgf⟩ := hown.at hi8
                have hil : 13 + (q + k) / 8 < (flipTo (frameOf r.pl) (104 + q) m k).length := by rw [hcl]; omega
                have hcell := hgc (13 + (q + k) / 8) (by rw [bvs_length]; exact hil)
                have hfz := hgf (13 + (q + k) / 8)
                rw [bvs_get] at hcell
                clear hgc hgf
                have hset := hown.set (13 + (q + k) / 8) (.int .u8 (((flipTo (frameOf r.pl) (104 + q) m k)[13 + (q + k) / 8]'hil ^^^ (1#8 <<< ((q + k) % 8)) : Byte).toNat : Int)) hi8
                rw [bvs_set] at hset
                have e2 : (flipTo (frameOf r.pl) (104 + q) m k).set (13 + (q + k) / 8) ((flipTo (frameOf r.pl) (104 + q) m k)[13 + (q + k) / 8]'hil ^^^ (1#8 <<< ((q + k) % 8))) = flipTo (frameOf r.pl) (104 + q) m (k + 1) := by
                  rw [Hf.out, flipBit]
                  have e3 : (104 + q + k) / 8 = 13 + (q + k) / 8 := by omega
                  have e4 : (104 + q + k) % 8 = (q + k) % 8 := by omega
                  rw [e3, e4, List.getD_eq_getElem?_getD, List.getElem?_eq_getElem hil]
                  rfl
                rw [e2] at hset
                clear e2
                have Hset := Lib.hid hset
                have hv := flip_val' ((flipTo (frameOf r.pl) (104 + q) m k)[13 + (q + k) / 8]'hil) ((q + k) % 8) (Nat.mod_lt _ (by omega))
                generalize (flipTo (frameOf r.pl) (104 + q) m k)[13 + (q + k) / 8]'hil = x at hcell hv Hset
                generalize x ^^^ (1#8 <<< ((q + k) % 8)) = y at hv Hset
                clear hset hown hcl hil
                generalize decide (flipTo (frameOf r.pl) (104 + q) m k ≠ frameOf r.pl) = tb
                go_wp2_with fail
                go_roundw
                case rel => exact ⟨k + 1, by omega, by omega, by go_num, by rw [Hd.out], Hset.out, hbr.setCell hg1 _⟩
                case measure => simp [intOf]; omega
              | false =>
                rw [hbit] at ht
                have Hf : Hid (flipTo (frameOf r.pl) (104 + q) m (k + 1) = flipTo (frameOf r.pl) (104 + q) m k) := Lib.hid (by rw [flipTo, if_neg (by rw [hbit]; simp)])
                clear hbit hcl
                obtain ⟨tb, htb⟩ : ∃ tb, decide (flipTo (frameOf r.pl) (104 + q) m k ≠ frameOf r.pl) = tb := ⟨_, rfl⟩
                rw [htb]
                have Htb := Lib.hid htb
                clear htb
                go_wp2_with fail
                go_roundw
                case rel => exact ⟨k + 1, by omega, by omega, by go_num, by rw [Hf.out, Htb.out], by rw [Hf.out]; exact hown, hbr⟩
                case measure => simp [intOf]; omega
            · have hcase : ¬ k < 32 ∨ (k < 32 ∧ ¬ q + k < 8 * n) := by omega
              have hs9 := hown.src
              have hb09 := hb07.trans (hbr.mono (by omega))
              have hflip := fun hne => readF_flip r.pl q m k He0.out hk (by show q + k ≤ 8 * r.d.l.length; rw [Hn.out]; exact hpk) hne
              have hsame : flipTo (frameOf r.pl) (104 + q) m k = frameOf r.pl → readF (flipTo (frameOf r.pl) (104 + q) m k) 0 = (r.pl, ((XL : Nat) : Int), 0) := by
                intro h
                rw [h, readF_frame0 _ He0.out, ← HXL.out, frameOf_length]
              rw [← HXn2.out] at hcl
              clear hown hgo hbr
              by_cases hne : flipTo (frameOf r.pl) (104 + q) m k = frameOf r.pl
              · have hdec : decide (flipTo (frameOf r.pl) (104 + q) m k ≠ frameOf r.pl) = false := by simp [hne]
                rw [hdec]
                have hR' := hsame hne
                generalize flipTo (frameOf r.pl) (104 + q) m k = cc at *
                have HRc := Lib.hid hR'
                have Hcl := Lib.hid hcl
                clear hne hdec hR' hsame hflip hcl
                rcases hcase with hA | ⟨hA, hB⟩
                all_goals
                  go_wp2_with fail
                  refine (frread_at a4 XL c4 cc 0 _ _ _ wr hs9 Hcl.out.symm hlc4 (by omega) HRc.out).mono ?_
                  rintro e w10 ⟨a10, c10, rfl, _, hb10⟩
                  have hbA := bthen hb09 hb10 (Nat.le_refl _)
                  go_wp2_with fail
                  refine (wakes06_any _).mono ?_
                  rintro e w11 ⟨rfl, hb11⟩
                  go_wp2
                  go_ret
                  exact ⟨rfl, bthen hbA hb11 (Nat.le_refl _)⟩
              · have hdec : decide (flipTo (frameOf r.pl) (104 + q) m k ≠ frameOf r.pl) = true := by simp [hne]
                rw [hdec]
                have hR' := hflip hne
                generalize flipTo (frameOf r.pl) (104 + q) m k = cc at *
                have HRc := Lib.hid hR'
                have Hcl := Lib.hid hcl
                clear hne hdec hR' hsame hflip hcl
                rcases hcase with hA | ⟨hA, hB⟩
                all_goals
                  go_wp2_with fail
                  refine (frread_at a4 XL c4 cc 0 _ _ _ wr hs9 Hcl.out.symm hlc4 (by omega) HRc.out).mono ?_
                  rintro e w10 ⟨a10, c10, rfl, _, hb10⟩
                  have hbA := bthen hb09 hb10 (Nat.le_refl _)
                  go_wp2_with fail
                  refine (wakes06_any _).mono ?_
                  rintro e w11 ⟨rfl, hb11⟩
                  go_wp2
                  go_ret
                  exact ⟨rfl, bthen hbA hb11 (Nat.le_refl _)⟩
    · have hne : ((E : Int) != 0) = true := by simpa using hE0
      have ht2 : (((BL : Nat) : Int) == 0) = true := by rw [hl0]; rfl
      clear hE0 hl0
      go_enter Try.func8, Try.ntmps8
      go_wp2_with fail
      refine HH.out.mono ?_
      rintro e w1 ⟨rfl, rfl⟩
      go_wp2_with fail
      refine HJ.out.mono ?_
      rintro e w1 ⟨a1, c1, rfl, ho1, hb1⟩
      clear ho1 HH HJ
      go_wp2_with fail
      refine (wakes06_any _).mono ?_
      rintro e w4 ⟨rfl, hb4⟩
      go_wp2
      go_ret
      exact ⟨rfl, bthen hb1 hb4 (Nat.le_refl _)⟩
end Go.Proofs.Ytffcpjhokfjhfaa
