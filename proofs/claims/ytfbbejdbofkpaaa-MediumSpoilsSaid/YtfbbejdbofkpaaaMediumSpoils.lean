/- The walk of MediumSpoils. -/
import Derived.Test.YtfbbejdbofkpaaaSpoilsP
namespace Go.Proofs.Ytfbbejdbofkpaaa
open Go.RowKit

set_option maxRecDepth 100000 in
set_option maxHeartbeats 16000000 in
theorem mediumSpoils_walk (w : World) (cap : Int) (a : Option Addr) (c : Nat) (cs : List CellV) (hs : CMat w a cs) (hl : cs.length ≤ 9223372036854775807) (hlc : cs.length ≤ c) (pI : Int) (wp : (Lit.int .i64 pI).wf = true) (bI : Int) (wb : (Lit.int .i64 bI).wf = true) :
    Calls Try.prog 11 #[.agg #[.int .i64 cap, .slice a cs.length c], .int .i64 pI, .int .i64 bI] w fun e w' => e = .returned (.bool true) ∧ Below w.heap.size w w' := by
  have Hs := Lib.hid hs
  obtain ⟨n, hn⟩ : ∃ n, n = cs.length := ⟨_, rfl⟩
  rw [← hn]
  have Hn := Lib.hid hn
  have hn2 : n ≤ 9223372036854775807 := by omega
  have hb1 := ext_alloc w (.cells #[.int .i64 cap, .slice a n c] 60)
  have hT : TapeAt (w.alloc (.cells #[.int .i64 cap, .slice a n c] 60)) w.heap.size ⟨cap, pls cs⟩ a n c cs := ⟨heap_alloc_new w _, hs.ext hb1, hn, rfl, by omega⟩
  clear hs hl hn hlc wp wb
  go_enter Try.func11, Try.ntmps11
  go_wp2_with fail
  refine (heavy07 cap a c n cs _ hT.mat Hn.out hn2).mono ?_
  rintro e w2 (⟨rfl, hb2⟩ | ⟨rfl, hb2, hlight⟩)
  · go_wp2
    go_ret
    exact ⟨rfl, bthen hb1 hb2 (Nat.le_refl _)⟩
  have HB := Lib.hid (bthen hb1 hb2 (Nat.le_refl _))
  have T := Lib.hid (hT.ext hb2)
  have Hli := Lib.hid hlight
  clear hT hb1 hb2 hlight
  obtain ⟨d0, d1⟩ := T.out.box.cells
  dsimp only at d0 d1
  go_wp2_with fail
  clear d0 d1
  refine (refmed_any cap a c n cs (medOf cap cs).ok w2 T.out.mat Hn.out hn2 rfl).mono ?_
  rintro e w3 ⟨rfl, hb⟩
  have HB' := Lib.hid (bthen HB.out hb (Nat.le_refl _))
  have T' := Lib.hid (T.out.ext hb)
  clear hb HB T
  have HB := HB'
  have T := T'
  clear HB' T'
  cases hok : (medOf cap cs).ok with
  | false =>
    go_wp2
    go_ret
    exact ⟨rfl, HB.out⟩
  | true =>
    obtain ⟨d0, d1⟩ := T.out.box.cells
    dsimp only at d0 d1
    by_cases hn0 : n = 0
    · have hn0' : ((n : Int) == 0) = true := by simp; omega
      clear hn0
      go_wp2
      go_ret
      exact ⟨rfl, HB.out⟩
    have hn0' : ((n : Int) == 0) = false := by simp; omega
    have hnn : n ≤ 80 := by rw [Hn.out]; exact Hli.out.1
    have Hx : Hid (∀ x ∈ cs, x.d.l.length ≤ 140737488355328) := Lib.hid fun x hx => by have := Hli.out.2 x hx; omega
    have Hml : Hid ((medOf cap cs).cells.length = n) := Lib.hid (by rw [Hn.out]; exact pls_length cs)
    have Hok := Lib.hid hok
    obtain ⟨p, hp, ep⟩ := umod pI (n : Int) (by omega) (by omega)
    have hpn : p < n := by omega
    have hpc : p < cs.length := by rw [← Hn.out]; exact hpn
    have hnn0 : ¬ n = 0 := hn0
    clear hok hp hn0
    go_wp2_with fail
    rw [ep]
    clear ep d0 d1 hn0' hnn0
    obtain ⟨S, hP⟩ := spoilsP Hok.out (pls_get hpc)
    obtain ⟨z, hz⟩ : ∃ z, z = cs[p] := ⟨_, rfl⟩
    have HZ := Lib.hid hz
    rw [← hz] at hP
    have HP := Lib.hid hP
    have hScap : S.cap = cap := hP.cap
    clear hz hP
    refine (spoilm_any cap a c n cs (p : Int) S 0 w3 T.out.mat Hn.out (by omega) Hx.out HP.out.sp).mono ?_
    rintro e w4 ⟨aS, cS, kS, csS, rfl, hM, hc, hb⟩
    rw [hScap]
    obtain rfl : n = kS := by rw [← hM.size, HP.out.len, Hml.out]
    obtain ⟨hT, hS⟩ := TapeAt.new cap hScap hM hc
    have T' := Lib.hid ((T.out.ext hb).ext hS)
    have TS := Lib.hid hT
    have HB' := Lib.hid (bthen (bthen HB.out hb (Nat.le_refl _)) hS (Nat.le_refl _))
    obtain ⟨d0, d1⟩ := T'.out.box.cells
    obtain ⟨e0, e1⟩ := TS.out.box.cells
    dsimp only at d0 d1 e0 e1
    rw [hScap] at e0
    have HScap := Lib.hid hScap
    clear hb hM hc hT hS HB T hScap
    go_wp2_with (refine wpList_store_row rfl rfl 60 (.tmp 7) (.tmp 42) rfl w4.heap.size rfl 60 #[.int .i64 0, .slice none 0 0] #[.int .i64 cap, .slice aS n cS] rfl (heap_alloc_new w4 _) rfl (by kernel_rfl) (by simp [Value.oneCell']) ?_)
    clear d0 d1 e0 e1
    generalize hwx : World.setRow _ _ _ = w5 at *
    have TS : Hid (TapeAt w5 w4.heap.size S aS n cS csS) := TS
    generalize w4.heap.size = GS at *
    clear hwx
    have T := T'
    have HB := HB'
    clear T' HB'
    have HQ : Hid (∀ t : Int, ((medOf cap cs).read t).1.length ≤ 140737488355328) := Lib.hid fun t => Med.read_short (fun c hc => by
      obtain ⟨y, hy, rfl⟩ := List.mem_map.1 hc
      exact Hx.out y hy) t
    have HshS : Hid (∀ x ∈ csS, x.d.l.length ≤ 140737488355328) := Lib.hid (TS.out.short (K := 140737488355328) (HP.out.sh _ (fun c hc => by
      obtain ⟨y, hy, rfl⟩ := List.mem_map.1 hc
      exact Hx.out y hy)))
    have HmS : Hid (medOf cap csS = S) := Lib.hid (by rw [← HScap.out]; exact TS.out.of)
    go_loopw [9] (fun i wx => ∃ (t : Nat) (wr : World), wr = wx ∧ t ≤ n ∧ i = .int .i64 (t : Int) ∧ TapeAt wr w.heap.size ⟨cap, pls cs⟩ a n c cs ∧ TapeAt wr GS S aS n cS csS ∧ Below w.heap.size w wr) (fun i _ => n - (intOf i).toNat)
    case atStart => exact ⟨0, _, rfl, by omega, rfl, T.out, TS.out, HB.out⟩
    case round =>
      obtain ⟨t, wr, hwr, ht, rfl, hA, hB, hbr⟩ := hrel
      subst hwr
      clear T TS HB
      have T := Lib.hid hA
      have TS := Lib.hid hB
      have HB := Lib.hid hbr
      clear hA hB hbr
      obtain ⟨d0, d1⟩ := T.out.box.cells
      dsimp only at d0 d1
      by_cases htp : t < n
      · have hql := HQ.out (t : Int)
        obtain ⟨⟨R1, E1⟩, hRR⟩ : ∃ x, x = (medOf cap cs).read (t : Int) := ⟨_, rfl⟩
        rw [← hRR] at hql
        have Hql := Lib.hid (show R1.length ≤ 140737488355328 from hql)
        have HRR := Lib.hid hRR.symm
        clear hql hRR
        go_wp2_with fail
        clear d0 d1
        refine (read_any cap a c n cs (t : Int) R1 E1 wr T.out.mat Hn.out (by omega) Hx.out HRR.out).mono ?_
        rintro e w6 ⟨a5, c5, k5, rfl, hk5, ho5, hb⟩
        have HS5 := Lib.hid ho5.src
        have Hk5 := Lib.hid hk5
        clear ho5 hk5
        have HB' := Lib.hid (bthen HB.out hb (Nat.le_refl _))
        have T' := Lib.hid (T.out.ext hb)
        have TS' := Lib.hid (TS.out.ext hb)
        clear hb HB T TS
        have HB := HB'
        have T := T'
        have TS := TS'
        clear HB' T' TS'
        obtain ⟨e0, e1⟩ := TS.out.box.cells
        rw [HScap.out] at e0
        by_cases htt : t = p
        · subst htt
          obtain ⟨E2, hE2⟩ : ∃ E : Int, E = if z.pl.kind = 2 then 15 else 6 := ⟨_, rfl⟩
          have HE2 := Lib.hid hE2
          clear hE2
          go_wp2_with fail
          clear e0 e1
          refine (read_any cap aS cS n csS (t : Int) [] E2 w6 TS.out.mat TS.out.len (by omega) HshS.out (by rw [HmS.out, HE2.out]; exact HP.out.at_)).mono ?_
          rintro e w7 ⟨a6, c6, k6, rfl, hk6, ho6, hb⟩
          have hk60 : k6 = 0 := hk6
          subst hk60
          have hE : E2 = 15 ∨ E2 = 6 := by rw [HE2.out]; split <;> simp
          clear ho6 hk6 HS5 Hk5 HE2
          have HB' := Lib.hid (bthen HB.out hb (Nat.le_refl _))
          have T' := Lib.hid (T.out.ext hb)
          have TS' := Lib.hid (TS.out.ext hb)
          clear hb HB T TS
          have HB := HB'
          have T := T'
          have TS := TS'
          clear HB' T' TS'
          rcases hE with rfl | rfl
          · go_wp2_with fail
            go_roundw
            case rel => exact ⟨t + 1, _, rfl, by omega, by go_num, T.out, TS.out, HB.out⟩
            case measure => simp [intOf]; omega
          · go_wp2_with fail
            go_roundw
            case rel => exact ⟨t + 1, _, rfl, by omega, by go_num, T.out, TS.out, HB.out⟩
            case measure => simp [intOf]; omega
        · have htt' : ((t : Int) == (p : Int)) = false := by simp; omega
          have HRS := Lib.hid ((HP.out.low t (by rw [Hml.out]; exact htp) htt).trans HRR.out)
          clear htt
          go_wp2_with fail
          clear e0 e1
          refine (read_any cap aS cS n csS (t : Int) R1 E1 w6 TS.out.mat TS.out.len (by omega) HshS.out (by rw [HmS.out]; exact HRS.out)).mono ?_
          rintro e w7 ⟨a6, c6, k6, rfl, hk6, ho6, hb⟩
          have HS6 := Lib.hid ho6.src
          have Hk6 := Lib.hid hk6
          clear ho6 hk6
          have HS5' := Lib.hid (HS5.out.ext hb)
          have HB' := Lib.hid (bthen HB.out hb (Nat.le_refl _))
          have T' := Lib.hid (T.out.ext hb)
          have TS' := Lib.hid (TS.out.ext hb)
          clear hb HS5 HB T TS
          have HS5 := HS5'
          have HB := HB'
          have T := T'
          have TS := TS'
          clear HS5' HB' T' TS'
          go_wp2_with fail
          refine (bytes_at a5 c5 R1 a6 c6 R1 w7 k5 k6 true HS5.out HS6.out Hk5.out Hk6.out (by rw [Hk5.out]; have := Hql.out; omega) (by rw [Hk6.out]; have := Hql.out; omega) (by simp)).mono ?_
          rintro e w8 ⟨rfl, n9, rfl⟩
          have hb := ext_drewN w7 n9 w7.heap.size
          clear HS5 HS6 Hk5 Hk6
          have HB' := Lib.hid (bthen HB.out hb (Nat.le_refl _))
          have T' := Lib.hid (T.out.ext hb)
          have TS' := Lib.hid (TS.out.ext hb)
          clear hb HB T TS
          have HB := HB'
          have T := T'
          have TS := TS'
          clear HB' T' TS'
          go_wp2_with fail
          go_roundw
          case rel => exact ⟨t + 1, _, rfl, by omega, by go_num, T.out, TS.out, HB.out⟩
          case measure => simp [intOf]; omega
      · have htn : ¬ (t : Int) < (n : Int) := by omega
        obtain ⟨b, o, rfl, hlb, hat⟩ := T.out.mat.src.elem CellV.len (by decide) hpc
        have q0 := hat p hpc 0 _ rfl
        have q1 := hat p hpc 1 _ rfl
        rw [← HZ.out] at q0 q1
        obtain ⟨kd, ⟨xa, xc, xl⟩, bd⟩ := z
        have q0 : wr.cell? ⟨b, o + p * 3, none⟩ = some (.int .i64 kd) := q0
        have q1 : wr.cell? ⟨b, o + p * 3 + 1, none⟩ = some (.slice xa xl.length xc) := q1
        obtain ⟨L, hL⟩ : ∃ L, L = xl.length := ⟨_, rfl⟩
        rw [← hL] at q1
        have HLx := Lib.hid hL
        clear hat hL htp
        by_cases hk : kd = 1
        · subst hk
          have hpl := pls_get hpc
          rw [← HZ.out] at hpl
          have hrt := (Med.ok_iff.1 Hok.out).2 _ (List.mem_of_getElem? (show (medOf cap cs).cells[p]? = _ from hpl))
          have hL2 : 1 ≤ L ∧ L ≤ 256 := by
            have h : rightC 1 xl.length = true := hrt
            rw [← HLx.out] at h
            unfold rightC at h
            simpa using h
          obtain ⟨bt, hbt, eb⟩ := umod bI (8 * (L : Int)) (by omega) (by omega)
          have hF := flipsP Hok.out (show (medOf cap cs).cells[p]? = _ from hpl) rfl (t := bt) (by show bt < 8 * xl.length; rw [← HLx.out]; omega)
          generalize (medOf cap cs).put p _ = X at hF
          have HF := Lib.hid hF
          have hXcap : X.cap = cap := hF.cap
          have hLa : ¬ L = 0 := by omega
          clear hpl hrt hF hbt
          go_wp2_with fail
          clear eb q0 q1 d0 d1 hLa
          refine (flipm_any cap (some ⟨b, o, none⟩) c n cs (p : Int) (bt : Int) X 0 wr T.out.mat Hn.out (by omega) Hx.out HF.out.f1).mono ?_
          rintro e w6 ⟨aX, cX, kX, csX, rfl, hM, hc, hb⟩
          rw [hXcap]
          obtain rfl : n = kX := by rw [← hM.size, HF.out.len, Hml.out]
          obtain ⟨hT, hS⟩ := TapeAt.new cap hXcap hM hc
          have T' := Lib.hid ((T.out.ext hb).ext hS)
          have TX := Lib.hid hT
          have HB' := Lib.hid (bthen (bthen HB.out hb (Nat.le_refl _)) hS (Nat.le_refl _))
          obtain ⟨e0, e1⟩ := TX.out.box.cells
          rw [hXcap] at e0
          have HXcap := Lib.hid hXcap
          clear hb hM hc hT hS HB T hXcap TS
          go_wp2_with (refine wpList_store_row rfl rfl 60 (.tmp 14) (.tmp 134) rfl w6.heap.size rfl 60 #[.int .i64 0, .slice none 0 0] #[.int .i64 cap, .slice aX n cX] rfl (heap_alloc_new w6 _) rfl (by kernel_rfl) (by simp [Value.oneCell']) ?_)
          clear e0 e1
          generalize hwx : World.setRow _ _ _ = w7 at *
          have TX : Hid (TapeAt w7 w6.heap.size X aX n cX csX) := TX
          generalize w6.heap.size = GX at *
          clear hwx
          have T := T'
          have HB := HB'
          clear T' HB'
          have HshX : Hid (∀ x ∈ csX, x.d.l.length ≤ 140737488355328) := Lib.hid (TX.out.short (K := 140737488355328) (HF.out.sh _ (fun c hc => by
            obtain ⟨y, hy, rfl⟩ := List.mem_map.1 hc
            exact Hx.out y hy)))
          have HmX : Hid (medOf cap csX = X) := Lib.hid (by rw [← HXcap.out]; exact TX.out.of)
          refine (flipm_any cap aX cX n csX (p : Int) (bt : Int) (medOf cap cs) 0 w7 TX.out.mat TX.out.len (by omega) HshX.out (by rw [HmX.out]; exact HF.out.f2)).mono ?_
          rintro e w8 ⟨aY, cY, kY, csY, rfl, hM, hc, hb⟩
          obtain rfl : n = kY := by rw [← hM.size, Hml.out]
          obtain ⟨hT, hS⟩ := TapeAt.new cap rfl hM hc
          have T' := Lib.hid ((T.out.ext hb).ext hS)
          have TX' := Lib.hid ((TX.out.ext hb).ext hS)
          have TY := Lib.hid hT
          have HB' := Lib.hid (bthen (bthen HB.out hb (Nat.le_refl _)) hS (Nat.le_refl _))
          obtain ⟨d0, d1⟩ := T'.out.box.cells
          obtain ⟨e0, e1⟩ := TX'.out.box.cells
          dsimp only at d0 d1
          rw [HXcap.out] at e0
          clear hb hM hc hT hS HB T TX
          go_wp2_with (refine wpList_store_row rfl rfl 60 (.tmp 15) (.tmp 141) rfl w8.heap.size rfl 60 #[.int .i64 0, .slice none 0 0] #[.int .i64 cap, .slice aY n cY] rfl (heap_alloc_new w8 _) rfl (by kernel_rfl) (by simp [Value.oneCell']) ?_)
          clear d0 d1 e0 e1
          generalize hwx : World.setRow _ _ _ = w9 at *
          have TY : Hid (TapeAt w9 w8.heap.size (medOf cap cs) aY n cY csY) := TY
          generalize w8.heap.size = GY at *
          clear hwx
          have T := T'
          have TX := TX'
          have HB := HB'
          clear T' TX' HB'
          refine (keepmed_any cap cap aX (some ⟨b, o, none⟩) cX n c n csX cs false w9 TX.out.mat T.out.mat TX.out.len Hn.out (by omega) (by omega) ⟨(fun h => Bool.noConfusion h), fun h => absurd (TX.out.pls.symm.trans h.2) HF.out.ne⟩).mono ?_
          rintro e w10 ⟨rfl, hb⟩
          have HB' := Lib.hid (bthen HB.out hb (Nat.le_refl _))
          have T' := Lib.hid (T.out.ext hb)
          have TX' := Lib.hid (TX.out.ext hb)
          have TY' := Lib.hid (TY.out.ext hb)
          clear hb HB T TX TY
          have HB := HB'
          have T := T'
          have TX := TX'
          have TY := TY'
          clear HB' T' TX' TY'
          obtain ⟨d0, d1⟩ := T.out.box.cells
          dsimp only at d0 d1
          obtain ⟨e0, e1⟩ := TY.out.box.cells
          dsimp only [medOf] at e0 e1
          go_wp2_with fail
          clear d0 d1 e0 e1
          refine (keepmed_any cap cap aY (some ⟨b, o, none⟩) cY n c n csY cs true w10 TY.out.mat T.out.mat TY.out.len Hn.out (by omega) (by omega) ⟨fun _ => ⟨rfl, TY.out.pls⟩, fun _ => rfl⟩).mono ?_
          rintro e w11 ⟨rfl, hb⟩
          have HB' := Lib.hid (bthen HB.out hb (Nat.le_refl _))
          have T' := Lib.hid (T.out.ext hb)
          clear hb HB T
          have HB := HB'
          have T := T'
          clear HB' T'
          go_wp2_with fail
          refine (wakes07_any w11).mono ?_
          rintro e w12 ⟨rfl, hb⟩
          go_wp2
          go_ret
          exact ⟨rfl, bthen HB.out hb (Nat.le_refl _)⟩
        · have ek : (kd == 1) = false := by simpa using hk
          have ek2 : (kd != 1) = true := by simpa using hk
          have HF := Lib.hid (HP.out.no hk bI)
          clear hk
          go_wp2_with fail
          clear q0 q1 d0 d1
          refine (flipm_any cap (some ⟨b, o, none⟩) c n cs (p : Int) bI Med.none 8 wr T.out.mat Hn.out (by omega) Hx.out HF.out).mono ?_
          rintro e w6 ⟨a6, c6, k6, cs6, rfl, _, _, hb⟩
          have HB' := Lib.hid (bthen HB.out hb (Nat.le_refl _))
          have T' := Lib.hid (T.out.ext hb)
          clear hb HB T
          have HB := HB'
          have T := T'
          clear HB' T'
          go_wp2_with fail
          refine (wakes07_any w6).mono ?_
          rintro e w7 ⟨rfl, hb⟩
          go_wp2
          go_ret
          exact ⟨rfl, bthen HB.out hb (Nat.le_refl _)⟩
end Go.Proofs.Ytfbbejdbofkpaaa
