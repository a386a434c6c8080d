/- The walk of DriveTorn. -/
import Derived.Test.YtilmldkaagbofaaDrvKeep
import Derived.Test.YtilmldkaagbofaaMedOps
import Derived.Test.YtilmldkaagbofaaMedLaw
namespace Go.Proofs.Ytilmldkaagbofaa
open Go.RowKit

theorem grown_blk {size : Int} {ps : List Bsl} (hs : ∀ p ∈ ps, 1 ≤ p.l.length ∧ p.l.length ≤ 256) : marks (grown size ps).cells = 0 := by
  unfold marks grown
  rw [List.countP_eq_zero]
  intro c hc
  obtain ⟨p, hp, rfl⟩ := List.mem_map.1 hc
  unfold cellOf
  rw [if_neg (by have := (hs p hp).1; omega)]
  simp
theorem grown_short {size : Int} {ps : List Bsl} (hs : ∀ p ∈ ps, 1 ≤ p.l.length ∧ p.l.length ≤ 256) : ∀ c ∈ (grown size ps).cells, c.data.length ≤ 140737488355328 := by
  intro c hc
  obtain ⟨p, hp, rfl⟩ := List.mem_map.1 hc
  unfold cellOf
  split
  · exact Nat.zero_le _
  · show p.l.length ≤ _
    have := (hs p hp).2
    omega

set_option maxRecDepth 100000 in
set_option maxHeartbeats 16000000 in
theorem driveTorn_walk (w : World) (la : Option Addr) (lc : Nat) (ps : List Bsl) (hm : Mat w la ps) (hl : ps.length ≤ 9223372036854775807) (hcap : ∀ p ∈ ps, p.l.length ≤ p.c) (aI : Int) (wa : (Lit.int .i64 aI).wf = true) (ab : Option Addr) (cb : Nat) (lb : List Byte) (hsb : Src w ab (bvs lb)) (hlb : lb.length ≤ 9223372036854775807) (klb : lb.length ≤ cb) (tI : Int) (wt : (Lit.int .i64 tI).wf = true) (qI : Int) (wq : (Lit.int .i64 qI).wf = true) :
    Calls Try.prog 3 #[.slice la ps.length lc, .int .i64 aI, .slice ab lb.length cb, .int .i64 tI, .int .i64 qI] w fun e w' => e = .returned (.bool true) ∧ Below w.heap.size w w' := by
  have Hm := Lib.hid hm
  have Hcap := Lib.hid hcap
  obtain ⟨L, hL⟩ : ∃ n, n = ps.length := ⟨_, rfl⟩
  obtain ⟨bn, hbn⟩ : ∃ n, n = lb.length := ⟨_, rfl⟩
  rw [← hL, ← hbn]
  have HL := Lib.hid hL
  have Hbn := Lib.hid hbn
  have Hcb : Hid (bn ≤ cb) := Lib.hid (by omega)
  have hL2 : L ≤ 9223372036854775807 := by omega
  have hbn2 : bn ≤ 9223372036854775807 := by omega
  have HS := Lib.hid hsb
  clear hm wa hl hL hcap hsb hlb klb hbn wt wq
  go_enter Try.func3, Try.ntmps3
  by_cases h20 : 20 < L
  · have h20' : (20 : Int) < (L : Int) := by omega
    go_wp2
    go_ret
    exact ⟨rfl, Below.refl _ _⟩
  have h20' : ¬ (20 : Int) < (L : Int) := by omega
  by_cases c1 : bn < 1
  · have c1' : (bn : Int) < 1 := by omega
    go_wp2
    go_ret
    exact ⟨rfl, Below.refl _ _⟩
  by_cases c2 : 256 < bn
  · have c1' : ¬ (bn : Int) < 1 := by omega
    have c2' : (256 : Int) < (bn : Int) := by omega
    go_wp2
    go_ret
    exact ⟨rfl, Below.refl _ _⟩
  have c1' : ¬ (bn : Int) < 1 := by omega
  have c2' : ¬ (256 : Int) < (bn : Int) := by omega
  go_wp2_with fail
  refine (power_new w).mono ?_
  rintro e w1 ⟨g, rfl, hp1, hb1⟩
  go_wp2_with fail
  refine (drv_new (g := g) 30 none 0 0 [] w1 (CMat.nil _ _) rfl (by decide) (by simp) (by rfl)).mono ?_
  rintro e w2 ⟨d, a2, c2, cs2, rfl, h2, hb2⟩
  have HD : Hid (DrvP w.heap.size AllK w2 d g (grown 30 (ps.take 0)) ((0 : Nat) : Int) PS.new) := Lib.hid ⟨⟨_, _, _, _, h2.mono hb1.size fun _ _ _ => trivial⟩, hp1.ext hb2⟩
  have HB := Lib.hid (bthen hb1 hb2 (Nat.le_refl _))
  clear h2 hp1 hb1 hb2
  go_wp2_with fail
  go_loopw [14] (fun i wx => ∃ (k : Nat) (wr : World), wr = wx ∧ k ≤ L ∧ i = .int .i64 (k : Int) ∧ DrvP w.heap.size AllK wr d g (grown 30 (ps.take k)) (k : Int) PS.new ∧ (∀ p ∈ ps.take k, 1 ≤ p.l.length ∧ p.l.length ≤ 256) ∧ Below w.heap.size w wr) (fun i _ => L - (intOf i).toNat)
  case atStart => exact ⟨0, _, rfl, by omega, rfl, HD.out, by simp, HB.out⟩
  case round =>
    obtain ⟨k, wr, hwr, hk, rfl, hA, hsh, hbr⟩ := hrel
    subst hwr
    clear HD HB
    have HD := Lib.hid hA
    have HB := Lib.hid hbr
    have Hsh := Lib.hid hsh
    clear hA hbr hsh
    by_cases hkL : k < L
    · have hkl : k < ps.length := by rw [← HL.out]; exact hkL
      obtain ⟨lbk, lo, hla, hlr0, hat⟩ := Hm.out.at hkl
      subst hla
      have r0' := hat k hkl
      have hrow := Hm.out.row _ (List.getElem_mem hkl)
      obtain ⟨q, hq⟩ : ∃ q, q = ps[k] := ⟨_, rfl⟩
      have Hq := Lib.hid hq
      rw [← hq] at r0' hrow
      obtain ⟨pa, pc, pl⟩ := q
      dsimp only at r0'
      have HSp := Lib.hid (show Src w pa (bvs pl) from hrow.1)
      obtain ⟨pn, hpn⟩ : ∃ n, n = pl.length := ⟨_, rfl⟩
      rw [← hpn] at r0'
      have HPn := Lib.hid hpn
      have Hr0 := Lib.hid r0'
      have r0 := (World.cell?_of_block (w := w) (a := ⟨lbk, lo + k, none⟩) (HB.out.block lbk hlr0)).trans r0'
      have hpn2 : pn ≤ 9223372036854775807 := by rw [hpn]; exact hrow.2
      clear hat hrow hq hpn r0'
      by_cases p1 : pn < 1
      · have p1' : (pn : Int) < 1 := by omega
        go_wp2
        go_ret
        exact ⟨rfl, HB.out⟩
      by_cases p2 : 256 < pn
      · have p1' : ¬ (pn : Int) < 1 := by omega
        have p2' : (256 : Int) < (pn : Int) := by omega
        go_wp2
        go_ret
        exact ⟨rfl, HB.out⟩
      have p1' : ¬ (pn : Int) < 1 := by omega
      have p2' : ¬ (256 : Int) < (pn : Int) := by omega
      have hpl : 1 ≤ pl.length ∧ pl.length ≤ 256 := by rw [← HPn.out]; omega
      have Hpl := Lib.hid hpl
      have hglen : (grown 30 (ps.take k)).cells.length = k := by rw [grown_len, List.length_take]; omega
      have hstep : (grown 30 (ps.take k)).lay k ⟨1, pl, false⟩ = grown 30 (ps.take (k + 1)) := by
        rw [grown_take (by omega), ← grown_step hkl, show cellOf ps[k].l = ⟨1, pl, false⟩ by rw [← Hq.out]; show cellOf pl = _; unfold cellOf; rw [if_neg (by omega)]]
      have Hgl := Lib.hid hglen
      have Hst := Lib.hid hstep
      have hsv : ∀ w', Mod (VF w.heap.size AllK) wr w' → Src w' pa (bvs pl) := fun w' hm => HSp.out.ext (HB.out.trans (hm.below (fun b T h => h.1) HB.out.size))
      have Hsv := Lib.hid hsv
      have HPc : Hid (pn ≤ pc) := Lib.hid (by
        have h := Hcap.out _ (List.getElem_mem hkl)
        rw [← Hq.out] at h
        rw [HPn.out]
        exact h)
      clear hpl hglen hstep hsv
      go_wp2_with fail
      clear r0
      refine (drv_write k pa pn pc pl PS.new PS.new 0 (grown 30 (ps.take (k + 1))) ((k : Int) + 1) wr HD.out (Up.all HB.out.size) (by rw [Hgl.out]; exact Nat.le_refl _) (by rw [Hgl.out]; omega) Hsv.out HPn.out (by omega) HPc.out (by rw [dvWrite_ok (by rw [Hgl.out]; exact Nat.le_refl _) (by show (k : Int) < 30; omega) Hpl.out, Hst.out])).mono ?_
      rintro e w3 ⟨rfl, hd3, hm3⟩
      have HD3 : Hid (DrvP w.heap.size AllK w3 d g (grown 30 (ps.take (k + 1))) ((k + 1 : Nat) : Int) PS.new) := Lib.hid hd3
      have HB3 := Lib.hid (HB.out.trans (hm3.below (fun b T h => h.1) HB.out.size))
      clear hd3 hm3 HD HB
      go_wp2_with fail
      go_roundw
      case rel =>
        refine ⟨k + 1, _, rfl, by omega, by go_num, HD3.out, fun p hp => ?_, HB3.out⟩
        rw [take_succ_list ps k hkl] at hp
        rcases List.mem_append.1 hp with h | h
        · exact Hsh.out p h
        · rw [List.mem_singleton.1 h, ← Hq.out]
          exact Hpl.out
      case measure => simp [intOf]; omega
    · obtain rfl : k = L := by omega
      have hpk : ps.take k = ps := by rw [HL.out, List.take_length]
      rw [hpk] at HD Hsh
      have Hmk := Lib.hid (grown_blk (size := 30) Hsh.out)
      have Hgs := Lib.hid (grown_short (size := 30) Hsh.out)
      have Hgl : Hid ((grown 30 ps).cells.length = k) := Lib.hid (by rw [grown_len, HL.out])
      clear hpk hkL hk
      obtain ⟨p, hp, ep⟩ := umod aI ((k : Int) + 1) (by omega) (by omega)
      have hpk : p ≤ k := by omega
      clear hp
      go_wp2_with fail
      try rw [ep]
      clear ep
      refine (drv_locate 0 (p : Int) 0 (p : Int) PS.new wr HD.out (by rw [Hgl.out]; omega) (by decide) (by omega) (by rw [if_neg (by decide)]; exact locate_zero Hmk.out (by rw [Hgl.out]; exact hpk) _)).mono ?_
      rintro e w3 ⟨rfl, hd3, hm3⟩
      have HD3 := Lib.hid hd3
      have HB3 := Lib.hid (HB.out.trans (hm3.below (fun b T h => h.1) HB.out.size))
      clear hd3 hm3 HD HB
      go_wp2_with fail
      refine (drv_mediumP w3 HD3.out (by rw [Hgl.out]; omega) Hgs.out).mono ?_
      rintro e w4 ⟨aX, cX, csX, kX, rfl, hM, hc, hb⟩
      obtain rfl : k = kX := by rw [← hM.size, Hgl.out]
      obtain ⟨hT, hS⟩ := TapeO.new 30 rfl hM hc
      have TX := Lib.hid hT
      have hs5 := bthen hb hS (Nat.le_refl _)
      have HB4 := Lib.hid (bthen HB3.out hs5 (Nat.le_refl _))
      have HD4 : Hid (DrvP w.heap.size (fun b => b < w3.heap.size) _ d g (grown 30 ps) (p : Int) PS.new) := Lib.hid ((HD3.out.rek fun b _ h _ => h).ext hs5)
      clear hb hM hc hT hS HD3 HB3 hs5
      go_wp2_with (refine wpList_store_row rfl rfl 32 (.tmp 15) (.tmp 91) rfl w4.heap.size rfl 32 #[.int .i64 0, .slice none 0 0] #[.int .i64 30, .slice aX k cX] rfl (heap_alloc_new w4 _) rfl (by kernel_rfl) (by simp [Value.oneCell']) ?_)
      generalize hwx : World.setRow _ _ _ = w5 at *
      have TX : Hid (TapeO w5 w3.heap.size w4.heap.size (grown 30 ps) aX k cX csX) := TX
      generalize w4.heap.size = GX at *
      generalize w3.heap.size = WX at *
      clear hwx
      refine (drv_trip 1 tI (PS.last tI) w5 HD4.out (by decide) rfl).mono ?_
      rintro e w6 ⟨rfl, hd6, hm6⟩
      have HD6 : Hid (DrvP w.heap.size (fun b => b < WX ∨ w6.heap.size ≤ b) w6 d g (grown 30 ps) (p : Int) (PS.last tI)) := Lib.hid (hd6.rek fun b _ _ h => .inl h)
      have HB6 := Lib.hid (HB4.out.trans (hm6.below (fun b T h => h.1) HB4.out.size))
      have TX6 := Lib.hid (TX.out.vf hm6 (fun b h1 h2 hk => by omega))
      have HU : Hid (Up w.heap.size (fun b => b < WX ∨ w6.heap.size ≤ b) w6) := Lib.hid ⟨HB6.out.size, fun b h => .inr h⟩
      clear hd6 hm6 HD4 HB4 TX
      obtain ⟨q, hq, eq⟩ : ∃ z : Nat, z < 3 ∧ (IntKind.u64.wrap qI).tmod 3 = (z : Int) := by
        have hx : 0 ≤ IntKind.u64.wrap qI := by rw [IntKind.wrap_u64]; omega
        rw [Int.tmod_eq_emod_of_nonneg hx]
        exact ⟨((IntKind.u64.wrap qI) % 3).toNat, by omega, by omega⟩
      rcases (show q = 0 ∨ q = 1 ∨ q = 2 by omega) with rfl | rfl | rfl
      · have eq : (IntKind.u64.wrap qI).tmod 3 = 0 := eq
        go_wp2_with fail
        refine (drv_write p ab bn cb lb (PS.last tI) (PS.gone tI) 5 (tornM (grown 30 ps) p [⟨3, lb.take tI.toNat, false⟩] tI) (p : Int) w6 HD6.out HU.out (by rw [Hgl.out]; exact hpk) (by rw [Hgl.out]; omega) (fun w' hm => HS.out.ext (HB6.out.trans (hm.below (fun b T h => h.1) HB6.out.size))) Hbn.out (by omega) Hcb.out (dvWrite_cut (by rw [Hgl.out]; exact hpk) (by show (p : Int) < 30; omega) (by rw [← Hbn.out]; omega) tI)).mono ?_
        rintro e w7 ⟨rfl, hd7, hm7⟩
        have HX : Hid (∀ y ∈ ([⟨3, lb.take tI.toNat, false⟩] : List CellP), y.data.length ≤ 256) := Lib.hid (by have := Hbn.out; simp; omega)
        have HXl : Hid (([⟨3, lb.take tI.toNat, false⟩] : List CellP).length ≤ 1) := Lib.hid (by simp)
        obtain ⟨X, hX⟩ : ∃ X : List CellP, X = [⟨3, lb.take tI.toNat, false⟩] := ⟨_, rfl⟩
        rw [← hX] at hd7 HX HXl
        have HXe := Lib.hid hX
        clear hX
        have HD7 := Lib.hid hd7
        have HB7 := Lib.hid (HB6.out.trans (hm7.below (fun b T h => h.1) HB6.out.size))
        have TX7 := Lib.hid (TX6.out.vf hm7 (fun b h1 h2 hk => by rcases hk with h | h <;> omega))
        clear hd7 hm7 HD6 HB6 TX6 HU
        obtain ⟨M7, hM7⟩ : ∃ M7, M7 = tornM (grown 30 ps) p X tI := ⟨_, rfl⟩
        rw [← hM7] at HD7
        have HM7 := Lib.hid hM7
        have hc7 : M7.cap = 30 := by rw [hM7, tornM_cap]; rfl
        have hl7 : M7.cells.length ≤ 40 := by
          rw [hM7]
          have := tornM_len (grown 30 ps) p X tI
          rw [Hgl.out] at this
          have := HXl.out
          omega
        have hx7 : ∀ y ∈ M7.cells, y.data.length ≤ 140737488355328 := by
          intro y hy
          rw [hM7] at hy
          rcases tornM_mem hy with h | h
          · exact Hgs.out y h
          · have := HX.out y h
            omega
        have Hc7 := Lib.hid hc7
        have Hl7 := Lib.hid hl7
        have Hx7 := Lib.hid hx7
        clear hM7 hc7 hl7 hx7 HX HXl
        go_wp2_with fail
        refine (drv_mediumP w7 HD7.out (by have := Hl7.out; omega) Hx7.out).mono ?_
        rintro e w8 ⟨aM, cM, csM, kM, rfl, hM, hc, hb⟩
        have hcx := Hc7.out
        rw [hcx]
        have hkM : M7.cells.length = kM := hM.size
        obtain ⟨hT, hS⟩ := TapeAt.new 30 hcx hM hc
        have TM := Lib.hid hT
        have HkM := Lib.hid hkM
        have hs9 := bthen hb hS (Nat.le_refl _)
        have HB9 := Lib.hid (bthen HB7.out hs9 (Nat.le_refl _))
        have HD9 := Lib.hid (HD7.out.ext hs9)
        have TX9 := Lib.hid (TX7.out.at.ext hs9)
        have hkM40 : kM ≤ 40 := by rw [← hkM]; exact Hl7.out
        clear hb hM hc hT hS hs9 HB7 HD7 TX7 hkM hcx Hl7 Hx7
        go_wp2_with (refine wpList_store_row rfl rfl 32 (.tmp 17) (.tmp 112) rfl w8.heap.size rfl 32 #[.int .i64 0, .slice none 0 0] #[.int .i64 30, .slice aM kM cM] rfl (heap_alloc_new w8 _) rfl (by kernel_rfl) (by simp [Value.oneCell']) ?_)
        generalize hwx : World.setRow _ _ _ = wA at *
        have TM : Hid (TapeAt wA w8.heap.size M7 aM kM cM csM) := TM
        generalize w8.heap.size = GM at *
        clear hwx
        refine (off_at HD9.out.2 (r := true) rfl).mono ?_
        rintro e w10 ⟨rfl, rfl⟩
        go_wp2_with fail
        refine (drv_placeP wA HD9.out).mono ?_
        rintro e w10 ⟨rfl, rfl⟩
        have hpkM : p ≤ kM := by
          rw [← HkM.out, HM7.out]
          have := tornM_ge (m := grown 30 ps) (p := p) X tI (by rw [Hgl.out]; exact hpk)
          exact this
        obtain ⟨d0, d1⟩ := TX9.out.box.cells
        obtain ⟨m0, m1⟩ := TM.out.box.cells
        have hc7 := Hc7.out
        rw [hc7] at m0
        try dsimp only at d0
        have hnl : decide ((kM : Int) < (p : Int)) = false := decide_eq_false (by omega)
        have hnl2 : decide (kM < p) = false := decide_eq_false (by omega)
        go_wp2_with fail
        clear d0 d1 m0 m1 hnl hnl2 hc7
        go_loopw [18] (fun i wx => ∃ (j : Nat) (wr : World), wr = wx ∧ j ≤ p ∧ i = .int .i64 (j : Int) ∧ Below wA.heap.size wA wr) (fun i _ => p - (intOf i).toNat)
        case atStart => exact ⟨0, _, rfl, by omega, rfl, Below.refl _ _⟩
        case round =>
          obtain ⟨j, wr, hwr, hj, rfl, hbr⟩ := hrel
          subst hwr
          have TMr := Lib.hid (TM.out.ext hbr)
          have TXr := Lib.hid (TX9.out.ext hbr)
          have HBr := Lib.hid (bthen HB9.out hbr (Nat.le_refl _))
          have Hbr := Lib.hid hbr
          clear hbr
          by_cases hjp : j < p
          · have hkl : j < ps.length := by rw [← HL.out]; omega
            have hjk2 : j < k := by omega
            have hcell : M7.cells[j]? = some ⟨1, ps[j].l, false⟩ := by
              rw [HM7.out, tornM_get X tI hjp (by rw [Hgl.out]; exact hpk)]
              show ((ps.map fun p => cellOf p.l))[j]? = _
              rw [List.getElem?_map, List.getElem?_eq_getElem hkl]
              show some (cellOf ps[j].l) = _
              unfold cellOf
              rw [if_neg (by have := (Hsh.out _ (List.getElem_mem hkl)).1; omega)]
            obtain ⟨x, o, dA, dC, rfl, hlx, c0', c1', _, hd, hjk⟩ := TMr.out.cell hcell
            obtain ⟨lbk, lo, hla, hlr0, hat⟩ := Hm.out.at hkl
            subst hla
            have r0'' := hat j hkl
            have hrow := Hm.out.row _ (List.getElem_mem hkl)
            obtain ⟨qq, hqq⟩ : ∃ qq, qq = ps[j] := ⟨_, rfl⟩
            rw [← hqq] at r0'' hrow hd c1'
            obtain ⟨pa, pc, dl⟩ := qq
            obtain ⟨dn, hdn⟩ : ∃ n, n = dl.length := ⟨_, rfl⟩
            dsimp only at r0'' hrow hd c0' c1'
            rw [← hdn] at r0'' c1'
            have hr1 := (World.cell?_of_block (w := w) (a := ⟨lbk, lo + j, none⟩) (HBr.out.block lbk hlr0)).trans r0''
            have Hdn := Lib.hid hdn
            have Hd := Lib.hid hd
            have Hp : Hid (Src wr pa (bvs dl)) := Lib.hid (hrow.1.ext HBr.out)
            have hdn63 : dn ≤ 9223372036854775807 := by rw [hdn]; exact hrow.2
            have hlr := Nat.lt_of_lt_of_le hlr0 HBr.out.size
            have c0 := c0'
            have c1 := c1'
            have r0 := hr1
            clear hat hrow hqq hdn hd hcell r0'' hr1 c0' c1'
            go_wp2_with fail
            refine wp_region_sp (by kernel_rfl) [Sp.eq (.pointer (some ⟨GM, 1, none⟩)), Sp.eq (.slice (some ⟨x, o, none⟩) kM cM), Sp.eq (.int .i64 (j : Int)), Sp.eq (.pointer (some ⟨x, o + j * 3, none⟩)), Sp.eq (.pointer (some ⟨x, o + j * 3, none⟩)), Sp.eq (.int .i64 1), Sp.eq (.bool false), Sp.eq (.bool false), Sp.eq (.pointer (some ⟨GM, 1, none⟩)), Sp.eq (.slice (some ⟨x, o, none⟩) kM cM), Sp.eq (.int .i64 (j : Int)), Sp.eq (.pointer (some ⟨x, o + j * 3, none⟩)), Sp.eq (.pointer (some ⟨x, o + j * 3 + 1, none⟩)), Sp.eq (.slice dA dn dC), Sp.eq (.slice (some ⟨lbk, lo, none⟩) k lc), Sp.eq (.int .i64 (j : Int)), Sp.eq (.pointer (some ⟨lbk, lo + j, none⟩)), Sp.eq (.slice pa dn pc), Sp.eq (.bool true), Sp.eq (.bool false), Sp.eq (.bool false)] (by kernel_rfl) ?_ ?_
            · refine stepsOk_cons ?_ (stepsOk_cons ?_ (stepsOk_cons ?_ (stepsOk_cons ?_ (stepsOk_cons ?_ (stepsOk_cons ?_ (stepsOk_cons ?_ (stepsOk_cons ?_ (stepsOk_cons ?_ (stepsOk_cons ?_ (stepsOk_cons ?_ (stepsOk_cons ?_ (stepsOk_cons ?_ (stepsOk_cons ?_ (stepsOk_cons ?_ (stepsOk_cons ?_ (stepsOk_cons ?_ (stepsOk_cons ?_ (stepsOk_cons ?_ (stepsOk_cons ?_ (stepsOk_cons ?_ (stepsOk_nil)))))))))))))))))))))
              · intro ρ w' E
                have e17 : ρ (.tmp 17) = .pointer (some ⟨GM, 0, none⟩) := E.out 17 rfl
                refine step_plain rfl ?_
                refine op_val (v := .pointer (some ⟨GM, 1, none⟩)) (w' := w') ?_ ⟨Below.refl _ _, rfl⟩
                have hcon := E.con
                clear E
                go_simp
              · intro ρ w' E
                have e148 : ρ (.tmp 148) = .pointer (some ⟨GM, 1, none⟩) := E.pre 0 rfl
                refine step_plain rfl ?_
                refine op_val (v := .slice (some ⟨x, o, none⟩) kM cM) (w' := w') ?_ ⟨Below.refl _ _, rfl⟩
                obtain ⟨k0, k1⟩ := (TMr.out.ext E.below).box.cells
                have hcon := E.con
                clear E
                go_simp
              · intro ρ w' E
                have e18 : ρ (.tmp 18) = .int .i64 (j : Int) := E.out 18 rfl
                refine step_plain rfl ?_
                exact op_move (.inl rfl) e18 ⟨Below.refl _ _, rfl⟩
              · intro ρ w' E
                have e149 : ρ (.tmp 149) = .slice (some ⟨x, o, none⟩) kM cM := E.pre 1 rfl
                have e150 : ρ (.tmp 150) = .int .i64 (j : Int) := E.pre 2 rfl
                refine step_plain rfl ?_
                refine op_val (v := .pointer (some ⟨x, o + j * 3, none⟩)) (w' := w') ?_ ⟨Below.refl _ _, rfl⟩
                have hcon := E.con
                clear E
                go_simp
              · intro ρ w' E
                have e151 : ρ (.tmp 151) = .pointer (some ⟨x, o + j * 3, none⟩) := E.pre 3 rfl
                refine step_plain rfl ?_
                refine op_val (v := .pointer (some ⟨x, o + j * 3, none⟩)) (w' := w') ?_ ⟨Below.refl _ _, rfl⟩
                have hcon := E.con
                clear E
                go_simp
              · intro ρ w' E
                have e152 : ρ (.tmp 152) = .pointer (some ⟨x, o + j * 3, none⟩) := E.pre 4 rfl
                refine step_plain rfl ?_
                refine op_val (v := .int .i64 1) (w' := w') ?_ ⟨Below.refl _ _, rfl⟩
                have hk := (World.cell?_of_block (w := wr) (E.below.block _ hlx)).trans c0
                have hcon := E.con
                clear E
                go_simp
              · intro ρ w' E
                have e153 : ρ (.tmp 153) = .int .i64 1 := E.pre 5 rfl
                refine step_plain rfl ?_
                refine op_val (v := .bool false) (w' := w') ?_ ⟨Below.refl _ _, rfl⟩
                have hcon := E.con
                clear E
                go_simp
              · intro ρ w' E
                have e154 : ρ (.tmp 154) = .bool false := E.pre 6 rfl
                refine step_plain rfl ?_
                exact op_move (.inl rfl) e154 ⟨Below.refl _ _, rfl⟩
              · intro ρ w' E
                have e17 : ρ (.tmp 17) = .pointer (some ⟨GM, 0, none⟩) := E.out 17 rfl
                refine step_yes rfl (E.pre 7 rfl) ?_
                refine op_val (v := .pointer (some ⟨GM, 1, none⟩)) (w' := w') ?_ ⟨Below.refl _ _, rfl⟩
                have hcon := E.con
                clear E
                go_simp
              · intro ρ w' E
                have e156 : ρ (.tmp 156) = .pointer (some ⟨GM, 1, none⟩) := E.pre 8 rfl
                refine step_yes rfl (E.pre 7 rfl) ?_
                refine op_val (v := .slice (some ⟨x, o, none⟩) kM cM) (w' := w') ?_ ⟨Below.refl _ _, rfl⟩
                obtain ⟨k0, k1⟩ := (TMr.out.ext E.below).box.cells
                have hcon := E.con
                clear E
                go_simp
              · intro ρ w' E
                have e18 : ρ (.tmp 18) = .int .i64 (j : Int) := E.out 18 rfl
                refine step_yes rfl (E.pre 7 rfl) ?_
                exact op_move (.inl rfl) e18 ⟨Below.refl _ _, rfl⟩
              · intro ρ w' E
                have e157 : ρ (.tmp 157) = .slice (some ⟨x, o, none⟩) kM cM := E.pre 9 rfl
                have e158 : ρ (.tmp 158) = .int .i64 (j : Int) := E.pre 10 rfl
                refine step_yes rfl (E.pre 7 rfl) ?_
                refine op_val (v := .pointer (some ⟨x, o + j * 3, none⟩)) (w' := w') ?_ ⟨Below.refl _ _, rfl⟩
                have hcon := E.con
                clear E
                go_simp
              · intro ρ w' E
                have e159 : ρ (.tmp 159) = .pointer (some ⟨x, o + j * 3, none⟩) := E.pre 11 rfl
                refine step_yes rfl (E.pre 7 rfl) ?_
                refine op_val (v := .pointer (some ⟨x, o + j * 3 + 1, none⟩)) (w' := w') ?_ ⟨Below.refl _ _, rfl⟩
                have hcon := E.con
                clear E
                go_simp
              · intro ρ w' E
                have e160 : ρ (.tmp 160) = .pointer (some ⟨x, o + j * 3 + 1, none⟩) := E.pre 12 rfl
                refine step_yes rfl (E.pre 7 rfl) ?_
                refine op_val (v := .slice dA dn dC) (w' := w') ?_ ⟨Below.refl _ _, rfl⟩
                have hk := (World.cell?_of_block (w := wr) (E.below.block _ hlx)).trans c1
                have hcon := E.con
                clear E
                go_simp
              · intro ρ w' E
                have e0 : ρ (.tmp 0) = .slice (some ⟨lbk, lo, none⟩) k lc := E.out 0 rfl
                refine step_yes rfl (E.pre 7 rfl) ?_
                exact op_move (.inl rfl) e0 ⟨Below.refl _ _, rfl⟩
              · intro ρ w' E
                have e18 : ρ (.tmp 18) = .int .i64 (j : Int) := E.out 18 rfl
                refine step_yes rfl (E.pre 7 rfl) ?_
                exact op_move (.inl rfl) e18 ⟨Below.refl _ _, rfl⟩
              · intro ρ w' E
                have e162 : ρ (.tmp 162) = .slice (some ⟨lbk, lo, none⟩) k lc := E.pre 14 rfl
                have e163 : ρ (.tmp 163) = .int .i64 (j : Int) := E.pre 15 rfl
                refine step_yes rfl (E.pre 7 rfl) ?_
                refine op_val (v := .pointer (some ⟨lbk, lo + j, none⟩)) (w' := w') ?_ ⟨Below.refl _ _, rfl⟩
                have hcon := E.con
                clear E
                go_simp
              · intro ρ w' E
                have e164 : ρ (.tmp 164) = .pointer (some ⟨lbk, lo + j, none⟩) := E.pre 16 rfl
                refine step_yes rfl (E.pre 7 rfl) ?_
                refine op_val (v := .slice pa dn pc) (w' := w') ?_ ⟨Below.refl _ _, rfl⟩
                have hk := (World.cell?_of_block (w := wr) (E.below.block _ hlr)).trans r0
                have hcon := E.con
                clear E
                go_simp
              · intro ρ w' E
                have e161 : ρ (.tmp 161) = .slice dA dn dC := E.pre 13 rfl
                have e165 : ρ (.tmp 165) = .slice pa dn pc := E.pre 17 rfl
                refine step_yes rfl (E.pre 7 rfl) ?_
                refine op_call (f := 24) (args := #[.slice dA dn dC, .slice pa dn pc]) (w' := w') (by have hcon := E.con; have hfn := E.fn; clear E; go_simp) ?_
                refine (bytes_at dA dC dl pa pc dl w' dn dn true (Hd.out.ext E.below) (Hp.out.ext E.below) Hdn.out Hdn.out (by omega) (by omega) (by simp)).mono ?_
                rintro e wz ⟨rfl, nz, rfl⟩
                exact ⟨_, rfl, ext_drewN w' nz w'.heap.size, rfl⟩
              · intro ρ w' E
                have e166 : ρ (.tmp 166) = .bool true := E.pre 18 rfl
                refine step_yes rfl (E.pre 7 rfl) ?_
                refine op_val (v := .bool false) (w' := w') ?_ ⟨Below.refl _ _, rfl⟩
                have hcon := E.con
                clear E
                go_simp
              · intro ρ w' E
                have e155 : ρ (.tmp 155) = .bool false := E.pre 7 rfl
                have e167 : ρ (.tmp 167) = .bool false := E.pre 19 rfl
                refine step_plain rfl ?_
                exact op_pick (b := false) rfl e155 rfl ⟨Below.refl _ _, e167⟩
            · intro σ wF hb hall
              have h168 : σ 168 = .bool false := by obtain ⟨_, _, _, _, _, _, _, _, _, _, _, _, _, _, _, _, _, _, _, _, h, _⟩ := hall; exact h
              clear hall
              simp only [upd, updL, dstsOf', elemB, List.filterMap_cons, List.filterMap_nil, Nat.reduceAdd, Nat.reduceBEq, Bool.or_false, Bool.false_or, Bool.or_true, Bool.true_or, cond_true, cond_false, Nat.zero_add, h168]
              have HbF := Lib.hid (bthen Hbr.out hb (Nat.le_refl _))
              clear hb h168 c0 c1 r0
              go_wp2_with fail
              go_roundw
              case rel => exact ⟨j + 1, _, rfl, by omega, by go_num, HbF.out⟩
              case measure => simp [intOf]; omega
          · obtain rfl : p = j := by omega
            obtain ⟨d0, d1⟩ := TXr.out.box.cells
            obtain ⟨m0, m1⟩ := TMr.out.box.cells
            rw [Hc7.out] at m0
            have d0 : wr.cell? ⟨GX, 0, none⟩ = some (.int .i64 30) := d0
            clear hj
            by_cases ht : tI < 0
            · have hMe : M7 = grown 30 ps := by rw [HM7.out]; unfold tornM; rw [if_neg (by omega)]
              have HMe := Lib.hid hMe
              clear hMe
              go_wp2_with fail
              clear d0 d1 m0 m1
              refine (keepmed_any 30 30 aM aX cM kM cX k csM csX true wr TMr.out.mat TXr.out.mat TMr.out.len TXr.out.len (by omega) (by omega) ⟨fun _ => ⟨rfl, TMr.out.pls.trans ((congrArg Med.cells HMe.out).trans TXr.out.pls.symm)⟩, fun _ => rfl⟩).mono ?_
              rintro e wB ⟨rfl, hb⟩
              have HBB := Lib.hid (bthen HBr.out hb (Nat.le_refl _))
              clear hb
              go_wp2_with fail
              refine (wakes12_any wB).mono ?_
              rintro e wC ⟨rfl, hb⟩
              have HBC := Lib.hid (bthen HBB.out hb (Nat.le_refl _))
              clear hb
              go_wp2
              go_ret
              exact ⟨rfl, HBC.out⟩
            · have ht0 : 0 ≤ tI := by omega
              clear d0 d1
              obtain ⟨tn, rfl⟩ := Int.eq_ofNat_of_zero_le ht0
              have hkp : kM = p + 1 := by rw [← HkM.out, HM7.out, HXe.out, tornM_pos _ ht0 (by rw [Hgl.out]; exact hpk)]; rfl
              have hcell : M7.cells[p]? = some ⟨3, lb.take tn, false⟩ := by rw [HM7.out, HXe.out, Int.toNat_natCast]; exact tornM_end _ ht0 (by rw [Hgl.out]; exact hpk)
              obtain ⟨x, o, dA, dC, rfl, hlx, c0', c1', _, hd, hjk⟩ := TMr.out.cell hcell
              obtain ⟨dl, hdl⟩ : ∃ dl, dl = lb.take tn := ⟨_, rfl⟩
              dsimp only at c0' c1' hd
              rw [← hdl] at c1' hd
              obtain ⟨dn, hdn⟩ : ∃ n, n = dl.length := ⟨_, rfl⟩
              rw [← hdn] at c1'
              have hdm : dn = min tn bn := by rw [hdn, hdl, List.length_take, ← Hbn.out]
              have Hkk : Hid (min (tn : Int) (bn : Int) = (dn : Int)) := Lib.hid (by omega)
              have hdc : dn ≤ cb := by have := Hcb.out; omega
              have hdn63 : dn ≤ 9223372036854775807 := by omega
              have Hdn := Lib.hid hdn
              have Hd := Lib.hid hd
              have Hp : Hid (Src wr ab (bvs dl)) := Lib.hid (by rw [hdl, bvs_take]; exact (HS.out.ext HBr.out).take tn)
              have hkp2 : (kM : Int) = (p : Int) + 1 := by omega
              have c0 := c0'
              have c1 := c1'
              clear ht0 hcell hd hdl hdn hdm c0' c1' m0 m1 hkp
              go_wp2_with fail
              refine wp_region_sp (by kernel_rfl) [Sp.eq (.pointer (some ⟨GM, 1, none⟩)), Sp.eq (.slice (some ⟨x, o, none⟩) kM cM), Sp.eq (.int .i64 (kM : Int)), Sp.eq (.int .i64 (p : Int)), Sp.eq (.int .i64 ((p : Int) + 1)), Sp.eq (.bool true), Sp.eq (.bool true), Sp.eq (.pointer (some ⟨GM, 1, none⟩)), Sp.eq (.slice (some ⟨x, o, none⟩) kM cM), Sp.eq (.int .i64 (p : Int)), Sp.eq (.pointer (some ⟨x, o + p * 3, none⟩)), Sp.eq (.pointer (some ⟨x, o + p * 3, none⟩)), Sp.eq (.int .i64 3), Sp.eq (.bool true), Sp.eq (.bool true), Sp.eq (.bool true), Sp.eq (.pointer (some ⟨GM, 1, none⟩)), Sp.eq (.slice (some ⟨x, o, none⟩) kM cM), Sp.eq (.int .i64 (p : Int)), Sp.eq (.pointer (some ⟨x, o + p * 3, none⟩)), Sp.eq (.pointer (some ⟨x, o + p * 3 + 1, none⟩)), Sp.eq (.slice dA dn dC), Sp.eq (.slice ab bn cb), Sp.eq (.int .i64 (tn : Int)), Sp.eq (.slice ab bn cb), Sp.eq (.int .i64 (bn : Int)), Sp.eq (.int .i64 (dn : Int)), Sp.eq (.slice ab dn cb), Sp.eq (.bool true), Sp.eq (.bool true), Sp.eq (.bool true), Sp.eq (.bool true), Sp.eq (.bool true), Sp.eq (.bool true)] (by kernel_rfl) ?_ ?_
              · refine stepsOk_cons ?_ (stepsOk_cons ?_ (stepsOk_cons ?_ (stepsOk_cons ?_ (stepsOk_cons ?_ (stepsOk_cons ?_ (stepsOk_cons ?_ (stepsOk_cons ?_ (stepsOk_cons ?_ (stepsOk_cons ?_ (stepsOk_cons ?_ (stepsOk_cons ?_ (stepsOk_cons ?_ (stepsOk_cons ?_ (stepsOk_cons ?_ (stepsOk_cons ?_ (stepsOk_cons ?_ (stepsOk_cons ?_ (stepsOk_cons ?_ (stepsOk_cons ?_ (stepsOk_cons ?_ (stepsOk_cons ?_ (stepsOk_cons ?_ (stepsOk_cons ?_ (stepsOk_cons ?_ (stepsOk_cons ?_ (stepsOk_cons ?_ (stepsOk_cons ?_ (stepsOk_cons ?_ (stepsOk_cons ?_ (stepsOk_cons ?_ (stepsOk_cons ?_ (stepsOk_cons ?_ (stepsOk_cons ?_ (stepsOk_nil))))))))))))))))))))))))))))))))))
                · intro ρ w' E
                  have e17 : ρ (.tmp 17) = .pointer (some ⟨GM, 0, none⟩) := E.out 17 rfl
                  refine step_plain rfl ?_
                  refine op_val (v := .pointer (some ⟨GM, 1, none⟩)) (w' := w') ?_ ⟨Below.refl _ _, rfl⟩
                  have hcon := E.con
                  clear E
                  go_simp
                · intro ρ w' E
                  have e182 : ρ (.tmp 182) = .pointer (some ⟨GM, 1, none⟩) := E.pre 0 rfl
                  refine step_plain rfl ?_
                  refine op_val (v := .slice (some ⟨x, o, none⟩) kM cM) (w' := w') ?_ ⟨Below.refl _ _, rfl⟩
                  obtain ⟨k0, k1⟩ := (TMr.out.ext E.below).box.cells
                  have hcon := E.con
                  clear E
                  go_simp
                · intro ρ w' E
                  have e183 : ρ (.tmp 183) = .slice (some ⟨x, o, none⟩) kM cM := E.pre 1 rfl
                  refine step_plain rfl ?_
                  refine op_val (v := .int .i64 (kM : Int)) (w' := w') ?_ ⟨Below.refl _ _, rfl⟩
                  have hcon := E.con
                  clear E
                  go_simp
                · intro ρ w' E
                  have e1 : ρ (.tmp 1) = .int .i64 (p : Int) := E.out 1 rfl
                  refine step_plain rfl ?_
                  exact op_move (.inl rfl) e1 ⟨Below.refl _ _, rfl⟩
                · intro ρ w' E
                  have e185 : ρ (.tmp 185) = .int .i64 (p : Int) := E.pre 3 rfl
                  refine step_plain rfl ?_
                  refine op_val (v := .int .i64 ((p : Int) + 1)) (w' := w') ?_ ⟨Below.refl _ _, rfl⟩
                  have hcon := E.con
                  clear E
                  go_simp
                  rw [IntKind.wrap_i64]
                  omega
                · intro ρ w' E
                  have e184 : ρ (.tmp 184) = .int .i64 (kM : Int) := E.pre 2 rfl
                  have e186 : ρ (.tmp 186) = .int .i64 ((p : Int) + 1) := E.pre 4 rfl
                  refine step_plain rfl ?_
                  refine op_val (v := .bool true) (w' := w') ?_ ⟨Below.refl _ _, rfl⟩
                  have hcon := E.con
                  clear E
                  go_simp
                · intro ρ w' E
                  have e187 : ρ (.tmp 187) = .bool true := E.pre 5 rfl
                  refine step_plain rfl ?_
                  exact op_move (.inl rfl) e187 ⟨Below.refl _ _, rfl⟩
                · intro ρ w' E
                  have e17 : ρ (.tmp 17) = .pointer (some ⟨GM, 0, none⟩) := E.out 17 rfl
                  refine step_yes rfl (E.pre 6 rfl) ?_
                  refine op_val (v := .pointer (some ⟨GM, 1, none⟩)) (w' := w') ?_ ⟨Below.refl _ _, rfl⟩
                  have hcon := E.con
                  clear E
                  go_simp
                · intro ρ w' E
                  have e189 : ρ (.tmp 189) = .pointer (some ⟨GM, 1, none⟩) := E.pre 7 rfl
                  refine step_yes rfl (E.pre 6 rfl) ?_
                  refine op_val (v := .slice (some ⟨x, o, none⟩) kM cM) (w' := w') ?_ ⟨Below.refl _ _, rfl⟩
                  obtain ⟨k0, k1⟩ := (TMr.out.ext E.below).box.cells
                  have hcon := E.con
                  clear E
                  go_simp
                · intro ρ w' E
                  have e1 : ρ (.tmp 1) = .int .i64 (p : Int) := E.out 1 rfl
                  refine step_yes rfl (E.pre 6 rfl) ?_
                  exact op_move (.inl rfl) e1 ⟨Below.refl _ _, rfl⟩
                · intro ρ w' E
                  have e190 : ρ (.tmp 190) = .slice (some ⟨x, o, none⟩) kM cM := E.pre 8 rfl
                  have e191 : ρ (.tmp 191) = .int .i64 (p : Int) := E.pre 9 rfl
                  refine step_yes rfl (E.pre 6 rfl) ?_
                  refine op_val (v := .pointer (some ⟨x, o + p * 3, none⟩)) (w' := w') ?_ ⟨Below.refl _ _, rfl⟩
                  have hcon := E.con
                  clear E
                  go_simp
                  intro h
                  omega
                · intro ρ w' E
                  have e192 : ρ (.tmp 192) = .pointer (some ⟨x, o + p * 3, none⟩) := E.pre 10 rfl
                  refine step_yes rfl (E.pre 6 rfl) ?_
                  refine op_val (v := .pointer (some ⟨x, o + p * 3, none⟩)) (w' := w') ?_ ⟨Below.refl _ _, rfl⟩
                  have hcon := E.con
                  clear E
                  go_simp
                · intro ρ w' E
                  have e193 : ρ (.tmp 193) = .pointer (some ⟨x, o + p * 3, none⟩) := E.pre 11 rfl
                  refine step_yes rfl (E.pre 6 rfl) ?_
                  refine op_val (v := .int .i64 3) (w' := w') ?_ ⟨Below.refl _ _, rfl⟩
                  have hk := (World.cell?_of_block (w := wr) (E.below.block _ hlx)).trans c0
                  have hcon := E.con
                  clear E
                  go_simp
                · intro ρ w' E
                  have e194 : ρ (.tmp 194) = .int .i64 3 := E.pre 12 rfl
                  refine step_yes rfl (E.pre 6 rfl) ?_
                  refine op_val (v := .bool true) (w' := w') ?_ ⟨Below.refl _ _, rfl⟩
                  have hcon := E.con
                  clear E
                  go_simp
                · intro ρ w' E
                  have e188 : ρ (.tmp 188) = .bool true := E.pre 6 rfl
                  have e195 : ρ (.tmp 195) = .bool true := E.pre 13 rfl
                  refine step_plain rfl ?_
                  exact op_pick (b := true) rfl e188 rfl ⟨Below.refl _ _, e195⟩
                · intro ρ w' E
                  have e196 : ρ (.tmp 196) = .bool true := E.pre 14 rfl
                  refine step_plain rfl ?_
                  exact op_move (.inl rfl) e196 ⟨Below.refl _ _, rfl⟩
                · intro ρ w' E
                  have e17 : ρ (.tmp 17) = .pointer (some ⟨GM, 0, none⟩) := E.out 17 rfl
                  refine step_yes rfl (E.pre 15 rfl) ?_
                  refine op_val (v := .pointer (some ⟨GM, 1, none⟩)) (w' := w') ?_ ⟨Below.refl _ _, rfl⟩
                  have hcon := E.con
                  clear E
                  go_simp
                · intro ρ w' E
                  have e198 : ρ (.tmp 198) = .pointer (some ⟨GM, 1, none⟩) := E.pre 16 rfl
                  refine step_yes rfl (E.pre 15 rfl) ?_
                  refine op_val (v := .slice (some ⟨x, o, none⟩) kM cM) (w' := w') ?_ ⟨Below.refl _ _, rfl⟩
                  obtain ⟨k0, k1⟩ := (TMr.out.ext E.below).box.cells
                  have hcon := E.con
                  clear E
                  go_simp
                · intro ρ w' E
                  have e1 : ρ (.tmp 1) = .int .i64 (p : Int) := E.out 1 rfl
                  refine step_yes rfl (E.pre 15 rfl) ?_
                  exact op_move (.inl rfl) e1 ⟨Below.refl _ _, rfl⟩
                · intro ρ w' E
                  have e199 : ρ (.tmp 199) = .slice (some ⟨x, o, none⟩) kM cM := E.pre 17 rfl
                  have e200 : ρ (.tmp 200) = .int .i64 (p : Int) := E.pre 18 rfl
                  refine step_yes rfl (E.pre 15 rfl) ?_
                  refine op_val (v := .pointer (some ⟨x, o + p * 3, none⟩)) (w' := w') ?_ ⟨Below.refl _ _, rfl⟩
                  have hcon := E.con
                  clear E
                  go_simp
                  intro h
                  omega
                · intro ρ w' E
                  have e201 : ρ (.tmp 201) = .pointer (some ⟨x, o + p * 3, none⟩) := E.pre 19 rfl
                  refine step_yes rfl (E.pre 15 rfl) ?_
                  refine op_val (v := .pointer (some ⟨x, o + p * 3 + 1, none⟩)) (w' := w') ?_ ⟨Below.refl _ _, rfl⟩
                  have hcon := E.con
                  clear E
                  go_simp
                · intro ρ w' E
                  have e202 : ρ (.tmp 202) = .pointer (some ⟨x, o + p * 3 + 1, none⟩) := E.pre 20 rfl
                  refine step_yes rfl (E.pre 15 rfl) ?_
                  refine op_val (v := .slice dA dn dC) (w' := w') ?_ ⟨Below.refl _ _, rfl⟩
                  have hk := (World.cell?_of_block (w := wr) (E.below.block _ hlx)).trans c1
                  have hcon := E.con
                  clear E
                  go_simp
                · intro ρ w' E
                  have e2 : ρ (.tmp 2) = .slice ab bn cb := E.out 2 rfl
                  refine step_yes rfl (E.pre 15 rfl) ?_
                  exact op_move (.inl rfl) e2 ⟨Below.refl _ _, rfl⟩
                · intro ρ w' E
                  have e3 : ρ (.tmp 3) = .int .i64 (tn : Int) := E.out 3 rfl
                  refine step_yes rfl (E.pre 15 rfl) ?_
                  exact op_move (.inl rfl) e3 ⟨Below.refl _ _, rfl⟩
                · intro ρ w' E
                  have e2 : ρ (.tmp 2) = .slice ab bn cb := E.out 2 rfl
                  refine step_yes rfl (E.pre 15 rfl) ?_
                  exact op_move (.inl rfl) e2 ⟨Below.refl _ _, rfl⟩
                · intro ρ w' E
                  have e206 : ρ (.tmp 206) = .slice ab bn cb := E.pre 24 rfl
                  refine step_yes rfl (E.pre 15 rfl) ?_
                  refine op_val (v := .int .i64 (bn : Int)) (w' := w') ?_ ⟨Below.refl _ _, rfl⟩
                  have hcon := E.con
                  clear E
                  go_simp
                · intro ρ w' E
                  have e205 : ρ (.tmp 205) = .int .i64 (tn : Int) := E.pre 23 rfl
                  have e207 : ρ (.tmp 207) = .int .i64 (bn : Int) := E.pre 25 rfl
                  refine step_yes rfl (E.pre 15 rfl) ?_
                  refine op_val (v := .int .i64 (dn : Int)) (w' := w') ?_ ⟨Below.refl _ _, rfl⟩
                  have hkk := Hkk.out
                  have hcon := E.con
                  clear E
                  go_simp
                  split <;> omega
                · intro ρ w' E
                  have e204 : ρ (.tmp 204) = .slice ab bn cb := E.pre 22 rfl
                  have e208 : ρ (.tmp 208) = .int .i64 (dn : Int) := E.pre 26 rfl
                  refine step_yes rfl (E.pre 15 rfl) ?_
                  refine op_val (v := .slice ab dn cb) (w' := w') ?_ ⟨Below.refl _ _, rfl⟩
                  have hcon := E.con
                  clear E
                  go_simp
                · intro ρ w' E
                  have e203 : ρ (.tmp 203) = .slice dA dn dC := E.pre 21 rfl
                  have e209 : ρ (.tmp 209) = .slice ab dn cb := E.pre 27 rfl
                  refine step_yes rfl (E.pre 15 rfl) ?_
                  refine op_call (f := 24) (args := #[.slice dA dn dC, .slice ab dn cb]) (w' := w') (by have hcon := E.con; have hfn := E.fn; clear E; go_simp) ?_
                  refine (bytes_at dA dC dl ab cb dl w' dn dn true (Hd.out.ext E.below) (Hp.out.ext E.below) Hdn.out Hdn.out (by omega) (by omega) (by simp)).mono ?_
                  rintro e wz ⟨rfl, nz, rfl⟩
                  exact ⟨_, rfl, ext_drewN w' nz w'.heap.size, rfl⟩
                · intro ρ w' E
                  have e197 : ρ (.tmp 197) = .bool true := E.pre 15 rfl
                  have e210 : ρ (.tmp 210) = .bool true := E.pre 28 rfl
                  refine step_plain rfl ?_
                  exact op_pick (b := true) rfl e197 rfl ⟨Below.refl _ _, e210⟩
                · intro ρ w' E
                  have e211 : ρ (.tmp 211) = .bool true := E.pre 29 rfl
                  refine step_plain rfl ?_
                  exact op_move (.inl rfl) e211 ⟨Below.refl _ _, rfl⟩
                · intro ρ w' E
                  refine step_yes rfl (E.pre 30 rfl) ?_
                  refine op_call (f := 26) (args := #[]) (w' := w') (by have hcon := E.con; have hfn := E.fn; clear E; go_simp) ?_
                  refine (wakes12_any w').mono ?_
                  rintro e wz ⟨rfl, hbz⟩
                  exact ⟨_, rfl, hbz, rfl⟩
                · intro ρ w' E
                  have e212 : ρ (.tmp 212) = .bool true := E.pre 30 rfl
                  have e213 : ρ (.tmp 213) = .bool true := E.pre 31 rfl
                  refine step_plain rfl ?_
                  exact op_pick (b := true) rfl e212 rfl ⟨Below.refl _ _, e213⟩
                · intro ρ w' E
                  have e214 : ρ (.tmp 214) = .bool true := E.pre 32 rfl
                  refine step_plain rfl ?_
                  exact op_move (.inr rfl) e214 ⟨Below.refl _ _, rfl⟩
              · intro σ wF hb hall
                have h10 : σ 10 = .bool true := by obtain ⟨_, _, _, _, _, _, _, _, _, _, _, _, _, _, _, _, _, _, _, _, _, _, _, _, _, _, _, _, _, _, _, _, _, h, _⟩ := hall; exact h
                clear hall
                simp only [upd, updL, dstsOf', elemB, List.filterMap_cons, List.filterMap_nil, Nat.reduceAdd, Nat.reduceBEq, Bool.or_false, Bool.false_or, Bool.or_true, Bool.true_or, cond_true, cond_false, Nat.zero_add, h10]
                have HBC := Lib.hid (bthen HBr.out hb (Nat.le_refl _))
                clear hb h10 c0 c1
                go_wp2
                go_ret
                exact ⟨rfl, HBC.out⟩
      · have eq : (IntKind.u64.wrap qI).tmod 3 = 1 := eq
        go_wp2_with fail
        refine (drv_mark p (PS.last tI) (PS.gone tI) 5 (tornM (grown 30 ps) p [⟨2, [], false⟩] tI) (p : Int) w6 HD6.out HU.out (by rw [Hgl.out]; exact hpk) (by rw [Hgl.out]; omega) (dvMark_cut (by rw [Hgl.out]; exact hpk) (by show (p : Int) < 30; omega) tI)).mono ?_
        rintro e w7 ⟨rfl, hd7, hm7⟩
        have HX : Hid (∀ y ∈ ([⟨2, [], false⟩] : List CellP), y.data.length ≤ 256) := Lib.hid (by simp)
        have HXl : Hid (([⟨2, [], false⟩] : List CellP).length ≤ 1) := Lib.hid (by simp)
        obtain ⟨X, hX⟩ : ∃ X : List CellP, X = [⟨2, [], false⟩] := ⟨_, rfl⟩
        rw [← hX] at hd7 HX HXl
        have HXe := Lib.hid hX
        clear hX
        have HD7 := Lib.hid hd7
        have HB7 := Lib.hid (HB6.out.trans (hm7.below (fun b T h => h.1) HB6.out.size))
        have TX7 := Lib.hid (TX6.out.vf hm7 (fun b h1 h2 hk => by rcases hk with h | h <;> omega))
        clear hd7 hm7 HD6 HB6 TX6 HU
        obtain ⟨M7, hM7⟩ : ∃ M7, M7 = tornM (grown 30 ps) p X tI := ⟨_, rfl⟩
        rw [← hM7] at HD7
        have HM7 := Lib.hid hM7
        have hc7 : M7.cap = 30 := by rw [hM7, tornM_cap]; rfl
        have hl7 : M7.cells.length ≤ 40 := by
          rw [hM7]
          have := tornM_len (grown 30 ps) p X tI
          rw [Hgl.out] at this
          have := HXl.out
          omega
        have hx7 : ∀ y ∈ M7.cells, y.data.length ≤ 140737488355328 := by
          intro y hy
          rw [hM7] at hy
          rcases tornM_mem hy with h | h
          · exact Hgs.out y h
          · have := HX.out y h
            omega
        have Hc7 := Lib.hid hc7
        have Hl7 := Lib.hid hl7
        have Hx7 := Lib.hid hx7
        clear hM7 hc7 hl7 hx7 HX HXl
        go_wp2_with fail
        refine (drv_mediumP w7 HD7.out (by have := Hl7.out; omega) Hx7.out).mono ?_
        rintro e w8 ⟨aM, cM, csM, kM, rfl, hM, hc, hb⟩
        have hcx := Hc7.out
        rw [hcx]
        have hkM : M7.cells.length = kM := hM.size
        obtain ⟨hT, hS⟩ := TapeAt.new 30 hcx hM hc
        have TM := Lib.hid hT
        have HkM := Lib.hid hkM
        have hs9 := bthen hb hS (Nat.le_refl _)
        have HB9 := Lib.hid (bthen HB7.out hs9 (Nat.le_refl _))
        have HD9 := Lib.hid (HD7.out.ext hs9)
        have TX9 := Lib.hid (TX7.out.at.ext hs9)
        have hkM40 : kM ≤ 40 := by rw [← hkM]; exact Hl7.out
        clear hb hM hc hT hS hs9 HB7 HD7 TX7 hkM hcx Hl7 Hx7
        go_wp2_with (refine wpList_store_row rfl rfl 32 (.tmp 17) (.tmp 112) rfl w8.heap.size rfl 32 #[.int .i64 0, .slice none 0 0] #[.int .i64 30, .slice aM kM cM] rfl (heap_alloc_new w8 _) rfl (by kernel_rfl) (by simp [Value.oneCell']) ?_)
        generalize hwx : World.setRow _ _ _ = wA at *
        have TM : Hid (TapeAt wA w8.heap.size M7 aM kM cM csM) := TM
        generalize w8.heap.size = GM at *
        clear hwx
        refine (off_at HD9.out.2 (r := true) rfl).mono ?_
        rintro e w10 ⟨rfl, rfl⟩
        go_wp2_with fail
        refine (drv_placeP wA HD9.out).mono ?_
        rintro e w10 ⟨rfl, rfl⟩
        have hpkM : p ≤ kM := by
          rw [← HkM.out, HM7.out]
          have := tornM_ge (m := grown 30 ps) (p := p) X tI (by rw [Hgl.out]; exact hpk)
          exact this
        obtain ⟨d0, d1⟩ := TX9.out.box.cells
        obtain ⟨m0, m1⟩ := TM.out.box.cells
        have hc7 := Hc7.out
        rw [hc7] at m0
        try dsimp only at d0
        have hnl : decide ((kM : Int) < (p : Int)) = false := decide_eq_false (by omega)
        have hnl2 : decide (kM < p) = false := decide_eq_false (by omega)
        go_wp2_with fail
        clear d0 d1 m0 m1 hnl hnl2 hc7
        go_loopw [18] (fun i wx => ∃ (j : Nat) (wr : World), wr = wx ∧ j ≤ p ∧ i = .int .i64 (j : Int) ∧ Below wA.heap.size wA wr) (fun i _ => p - (intOf i).toNat)
        case atStart => exact ⟨0, _, rfl, by omega, rfl, Below.refl _ _⟩
        case round =>
          obtain ⟨j, wr, hwr, hj, rfl, hbr⟩ := hrel
          subst hwr
          have TMr := Lib.hid (TM.out.ext hbr)
          have TXr := Lib.hid (TX9.out.ext hbr)
          have HBr := Lib.hid (bthen HB9.out hbr (Nat.le_refl _))
          have Hbr := Lib.hid hbr
          clear hbr
          by_cases hjp : j < p
          · have hkl : j < ps.length := by rw [← HL.out]; omega
            have hjk2 : j < k := by omega
            have hcell : M7.cells[j]? = some ⟨1, ps[j].l, false⟩ := by
              rw [HM7.out, tornM_get X tI hjp (by rw [Hgl.out]; exact hpk)]
              show ((ps.map fun p => cellOf p.l))[j]? = _
              rw [List.getElem?_map, List.getElem?_eq_getElem hkl]
              show some (cellOf ps[j].l) = _
              unfold cellOf
              rw [if_neg (by have := (Hsh.out _ (List.getElem_mem hkl)).1; omega)]
            obtain ⟨x, o, dA, dC, rfl, hlx, c0', c1', _, hd, hjk⟩ := TMr.out.cell hcell
            obtain ⟨lbk, lo, hla, hlr0, hat⟩ := Hm.out.at hkl
            subst hla
            have r0'' := hat j hkl
            have hrow := Hm.out.row _ (List.getElem_mem hkl)
            obtain ⟨qq, hqq⟩ : ∃ qq, qq = ps[j] := ⟨_, rfl⟩
            rw [← hqq] at r0'' hrow hd c1'
            obtain ⟨pa, pc, dl⟩ := qq
            obtain ⟨dn, hdn⟩ : ∃ n, n = dl.length := ⟨_, rfl⟩
            dsimp only at r0'' hrow hd c0' c1'
            rw [← hdn] at r0'' c1'
            have hr1 := (World.cell?_of_block (w := w) (a := ⟨lbk, lo + j, none⟩) (HBr.out.block lbk hlr0)).trans r0''
            have Hdn := Lib.hid hdn
            have Hd := Lib.hid hd
            have Hp : Hid (Src wr pa (bvs dl)) := Lib.hid (hrow.1.ext HBr.out)
            have hdn63 : dn ≤ 9223372036854775807 := by rw [hdn]; exact hrow.2
            have hlr := Nat.lt_of_lt_of_le hlr0 HBr.out.size
            have c0 := c0'
            have c1 := c1'
            have r0 := hr1
            clear hat hrow hqq hdn hd hcell r0'' hr1 c0' c1'
            go_wp2_with fail
            refine wp_region_sp (by kernel_rfl) [Sp.eq (.pointer (some ⟨GM, 1, none⟩)), Sp.eq (.slice (some ⟨x, o, none⟩) kM cM), Sp.eq (.int .i64 (j : Int)), Sp.eq (.pointer (some ⟨x, o + j * 3, none⟩)), Sp.eq (.pointer (some ⟨x, o + j * 3, none⟩)), Sp.eq (.int .i64 1), Sp.eq (.bool false), Sp.eq (.bool false), Sp.eq (.pointer (some ⟨GM, 1, none⟩)), Sp.eq (.slice (some ⟨x, o, none⟩) kM cM), Sp.eq (.int .i64 (j : Int)), Sp.eq (.pointer (some ⟨x, o + j * 3, none⟩)), Sp.eq (.pointer (some ⟨x, o + j * 3 + 1, none⟩)), Sp.eq (.slice dA dn dC), Sp.eq (.slice (some ⟨lbk, lo, none⟩) k lc), Sp.eq (.int .i64 (j : Int)), Sp.eq (.pointer (some ⟨lbk, lo + j, none⟩)), Sp.eq (.slice pa dn pc), Sp.eq (.bool true), Sp.eq (.bool false), Sp.eq (.bool false)] (by kernel_rfl) ?_ ?_
            · refine stepsOk_cons ?_ (stepsOk_cons ?_ (stepsOk_cons ?_ (stepsOk_cons ?_ (stepsOk_cons ?_ (stepsOk_cons ?_ (stepsOk_cons ?_ (stepsOk_cons ?_ (stepsOk_cons ?_ (stepsOk_cons ?_ (stepsOk_cons ?_ (stepsOk_cons ?_ (stepsOk_cons ?_ (stepsOk_cons ?_ (stepsOk_cons ?_ (stepsOk_cons ?_ (stepsOk_cons ?_ (stepsOk_cons ?_ (stepsOk_cons ?_ (stepsOk_cons ?_ (stepsOk_cons ?_ (stepsOk_nil)))))))))))))))))))))
              · intro ρ w' E
                have e17 : ρ (.tmp 17) = .pointer (some ⟨GM, 0, none⟩) := E.out 17 rfl
                refine step_plain rfl ?_
                refine op_val (v := .pointer (some ⟨GM, 1, none⟩)) (w' := w') ?_ ⟨Below.refl _ _, rfl⟩
                have hcon := E.con
                clear E
                go_simp
              · intro ρ w' E
                have e148 : ρ (.tmp 148) = .pointer (some ⟨GM, 1, none⟩) := E.pre 0 rfl
                refine step_plain rfl ?_
                refine op_val (v := .slice (some ⟨x, o, none⟩) kM cM) (w' := w') ?_ ⟨Below.refl _ _, rfl⟩
                obtain ⟨k0, k1⟩ := (TMr.out.ext E.below).box.cells
                have hcon := E.con
                clear E
                go_simp
              · intro ρ w' E
                have e18 : ρ (.tmp 18) = .int .i64 (j : Int) := E.out 18 rfl
                refine step_plain rfl ?_
                exact op_move (.inl rfl) e18 ⟨Below.refl _ _, rfl⟩
              · intro ρ w' E
                have e149 : ρ (.tmp 149) = .slice (some ⟨x, o, none⟩) kM cM := E.pre 1 rfl
                have e150 : ρ (.tmp 150) = .int .i64 (j : Int) := E.pre 2 rfl
                refine step_plain rfl ?_
                refine op_val (v := .pointer (some ⟨x, o + j * 3, none⟩)) (w' := w') ?_ ⟨Below.refl _ _, rfl⟩
                have hcon := E.con
                clear E
                go_simp
              · intro ρ w' E
                have e151 : ρ (.tmp 151) = .pointer (some ⟨x, o + j * 3, none⟩) := E.pre 3 rfl
                refine step_plain rfl ?_
                refine op_val (v := .pointer (some ⟨x, o + j * 3, none⟩)) (w' := w') ?_ ⟨Below.refl _ _, rfl⟩
                have hcon := E.con
                clear E
                go_simp
              · intro ρ w' E
                have e152 : ρ (.tmp 152) = .pointer (some ⟨x, o + j * 3, none⟩) := E.pre 4 rfl
                refine step_plain rfl ?_
                refine op_val (v := .int .i64 1) (w' := w') ?_ ⟨Below.refl _ _, rfl⟩
                have hk := (World.cell?_of_block (w := wr) (E.below.block _ hlx)).trans c0
                have hcon := E.con
                clear E
                go_simp
              · intro ρ w' E
                have e153 : ρ (.tmp 153) = .int .i64 1 := E.pre 5 rfl
                refine step_plain rfl ?_
                refine op_val (v := .bool false) (w' := w') ?_ ⟨Below.refl _ _, rfl⟩
                have hcon := E.con
                clear E
                go_simp
              · intro ρ w' E
                have e154 : ρ (.tmp 154) = .bool false := E.pre 6 rfl
                refine step_plain rfl ?_
                exact op_move (.inl rfl) e154 ⟨Below.refl _ _, rfl⟩
              · intro ρ w' E
                have e17 : ρ (.tmp 17) = .pointer (some ⟨GM, 0, none⟩) := E.out 17 rfl
                refine step_yes rfl (E.pre 7 rfl) ?_
                refine op_val (v := .pointer (some ⟨GM, 1, none⟩)) (w' := w') ?_ ⟨Below.refl _ _, rfl⟩
                have hcon := E.con
                clear E
                go_simp
              · intro ρ w' E
                have e156 : ρ (.tmp 156) = .pointer (some ⟨GM, 1, none⟩) := E.pre 8 rfl
                refine step_yes rfl (E.pre 7 rfl) ?_
                refine op_val (v := .slice (some ⟨x, o, none⟩) kM cM) (w' := w') ?_ ⟨Below.refl _ _, rfl⟩
                obtain ⟨k0, k1⟩ := (TMr.out.ext E.below).box.cells
                have hcon := E.con
                clear E
                go_simp
              · intro ρ w' E
                have e18 : ρ (.tmp 18) = .int .i64 (j : Int) := E.out 18 rfl
                refine step_yes rfl (E.pre 7 rfl) ?_
                exact op_move (.inl rfl) e18 ⟨Below.refl _ _, rfl⟩
              · intro ρ w' E
                have e157 : ρ (.tmp 157) = .slice (some ⟨x, o, none⟩) kM cM := E.pre 9 rfl
                have e158 : ρ (.tmp 158) = .int .i64 (j : Int) := E.pre 10 rfl
                refine step_yes rfl (E.pre 7 rfl) ?_
                refine op_val (v := .pointer (some ⟨x, o + j * 3, none⟩)) (w' := w') ?_ ⟨Below.refl _ _, rfl⟩
                have hcon := E.con
                clear E
                go_simp
              · intro ρ w' E
                have e159 : ρ (.tmp 159) = .pointer (some ⟨x, o + j * 3, none⟩) := E.pre 11 rfl
                refine step_yes rfl (E.pre 7 rfl) ?_
                refine op_val (v := .pointer (some ⟨x, o + j * 3 + 1, none⟩)) (w' := w') ?_ ⟨Below.refl _ _, rfl⟩
                have hcon := E.con
                clear E
                go_simp
              · intro ρ w' E
                have e160 : ρ (.tmp 160) = .pointer (some ⟨x, o + j * 3 + 1, none⟩) := E.pre 12 rfl
                refine step_yes rfl (E.pre 7 rfl) ?_
                refine op_val (v := .slice dA dn dC) (w' := w') ?_ ⟨Below.refl _ _, rfl⟩
                have hk := (World.cell?_of_block (w := wr) (E.below.block _ hlx)).trans c1
                have hcon := E.con
                clear E
                go_simp
              · intro ρ w' E
                have e0 : ρ (.tmp 0) = .slice (some ⟨lbk, lo, none⟩) k lc := E.out 0 rfl
                refine step_yes rfl (E.pre 7 rfl) ?_
                exact op_move (.inl rfl) e0 ⟨Below.refl _ _, rfl⟩
              · intro ρ w' E
                have e18 : ρ (.tmp 18) = .int .i64 (j : Int) := E.out 18 rfl
                refine step_yes rfl (E.pre 7 rfl) ?_
                exact op_move (.inl rfl) e18 ⟨Below.refl _ _, rfl⟩
              · intro ρ w' E
                have e162 : ρ (.tmp 162) = .slice (some ⟨lbk, lo, none⟩) k lc := E.pre 14 rfl
                have e163 : ρ (.tmp 163) = .int .i64 (j : Int) := E.pre 15 rfl
                refine step_yes rfl (E.pre 7 rfl) ?_
                refine op_val (v := .pointer (some ⟨lbk, lo + j, none⟩)) (w' := w') ?_ ⟨Below.refl _ _, rfl⟩
                have hcon := E.con
                clear E
                go_simp
              · intro ρ w' E
                have e164 : ρ (.tmp 164) = .pointer (some ⟨lbk, lo + j, none⟩) := E.pre 16 rfl
                refine step_yes rfl (E.pre 7 rfl) ?_
                refine op_val (v := .slice pa dn pc) (w' := w') ?_ ⟨Below.refl _ _, rfl⟩
                have hk := (World.cell?_of_block (w := wr) (E.below.block _ hlr)).trans r0
                have hcon := E.con
                clear E
                go_simp
              · intro ρ w' E
                have e161 : ρ (.tmp 161) = .slice dA dn dC := E.pre 13 rfl
                have e165 : ρ (.tmp 165) = .slice pa dn pc := E.pre 17 rfl
                refine step_yes rfl (E.pre 7 rfl) ?_
                refine op_call (f := 24) (args := #[.slice dA dn dC, .slice pa dn pc]) (w' := w') (by have hcon := E.con; have hfn := E.fn; clear E; go_simp) ?_
                refine (bytes_at dA dC dl pa pc dl w' dn dn true (Hd.out.ext E.below) (Hp.out.ext E.below) Hdn.out Hdn.out (by omega) (by omega) (by simp)).mono ?_
                rintro e wz ⟨rfl, nz, rfl⟩
                exact ⟨_, rfl, ext_drewN w' nz w'.heap.size, rfl⟩
              · intro ρ w' E
                have e166 : ρ (.tmp 166) = .bool true := E.pre 18 rfl
                refine step_yes rfl (E.pre 7 rfl) ?_
                refine op_val (v := .bool false) (w' := w') ?_ ⟨Below.refl _ _, rfl⟩
                have hcon := E.con
                clear E
                go_simp
              · intro ρ w' E
                have e155 : ρ (.tmp 155) = .bool false := E.pre 7 rfl
                have e167 : ρ (.tmp 167) = .bool false := E.pre 19 rfl
                refine step_plain rfl ?_
                exact op_pick (b := false) rfl e155 rfl ⟨Below.refl _ _, e167⟩
            · intro σ wF hb hall
              have h168 : σ 168 = .bool false := by obtain ⟨_, _, _, _, _, _, _, _, _, _, _, _, _, _, _, _, _, _, _, _, h, _⟩ := hall; exact h
              clear hall
              simp only [upd, updL, dstsOf', elemB, List.filterMap_cons, List.filterMap_nil, Nat.reduceAdd, Nat.reduceBEq, Bool.or_false, Bool.false_or, Bool.or_true, Bool.true_or, cond_true, cond_false, Nat.zero_add, h168]
              have HbF := Lib.hid (bthen Hbr.out hb (Nat.le_refl _))
              clear hb h168 c0 c1 r0
              go_wp2_with fail
              go_roundw
              case rel => exact ⟨j + 1, _, rfl, by omega, by go_num, HbF.out⟩
              case measure => simp [intOf]; omega
          · obtain rfl : p = j := by omega
            obtain ⟨d0, d1⟩ := TXr.out.box.cells
            obtain ⟨m0, m1⟩ := TMr.out.box.cells
            rw [Hc7.out] at m0
            have d0 : wr.cell? ⟨GX, 0, none⟩ = some (.int .i64 30) := d0
            clear hj
            by_cases ht : tI < 0
            · have hMe : M7 = grown 30 ps := by rw [HM7.out]; unfold tornM; rw [if_neg (by omega)]
              have HMe := Lib.hid hMe
              clear hMe
              go_wp2_with fail
              clear d0 d1 m0 m1
              refine (keepmed_any 30 30 aM aX cM kM cX k csM csX true wr TMr.out.mat TXr.out.mat TMr.out.len TXr.out.len (by omega) (by omega) ⟨fun _ => ⟨rfl, TMr.out.pls.trans ((congrArg Med.cells HMe.out).trans TXr.out.pls.symm)⟩, fun _ => rfl⟩).mono ?_
              rintro e wB ⟨rfl, hb⟩
              have HBB := Lib.hid (bthen HBr.out hb (Nat.le_refl _))
              clear hb
              go_wp2_with fail
              refine (wakes12_any wB).mono ?_
              rintro e wC ⟨rfl, hb⟩
              have HBC := Lib.hid (bthen HBB.out hb (Nat.le_refl _))
              clear hb
              go_wp2
              go_ret
              exact ⟨rfl, HBC.out⟩
            · have ht0 : 0 ≤ tI := by omega
              clear d0 d1
              obtain rfl : kM = p + 1 := by rw [← HkM.out, HM7.out, HXe.out, tornM_pos _ ht0 (by rw [Hgl.out]; exact hpk)]; rfl
              have hcell : M7.cells[p]? = some ⟨2, [], false⟩ := by rw [HM7.out, HXe.out]; exact tornM_end _ ht0 (by rw [Hgl.out]; exact hpk)
              obtain ⟨x, o, dA, dC, rfl, hlx, c0, c1, _, hd, hjk⟩ := TMr.out.cell hcell
              dsimp only at c0
              clear ht0 hcell hd c1
              go_wp2_with fail
              clear m0 m1 c0
              refine (wakes12_any wr).mono ?_
              rintro e wC ⟨rfl, hb⟩
              have HBC := Lib.hid (bthen HBr.out hb (Nat.le_refl _))
              clear hb
              go_wp2
              go_ret
              exact ⟨rfl, HBC.out⟩
      · have eq : (IntKind.u64.wrap qI).tmod 3 = 2 := eq
        go_wp2_with fail
        refine (drv_eot p (PS.last tI) (PS.gone tI) 5 (tornM (grown 30 ps) p [] tI) w6 HD6.out HU.out (by rw [Hgl.out]; exact hpk) (dvEnd_cut tI)).mono ?_
        rintro e w7 ⟨rfl, hd7, hm7⟩
        have HX : Hid (∀ y ∈ ([] : List CellP), y.data.length ≤ 256) := Lib.hid (by simp)
        have HXl : Hid (([] : List CellP).length ≤ 1) := Lib.hid (by simp)
        obtain ⟨X, hX⟩ : ∃ X : List CellP, X = [] := ⟨_, rfl⟩
        rw [← hX] at hd7 HX HXl
        have HXe := Lib.hid hX
        clear hX
        have HD7 := Lib.hid hd7
        have HB7 := Lib.hid (HB6.out.trans (hm7.below (fun b T h => h.1) HB6.out.size))
        have TX7 := Lib.hid (TX6.out.vf hm7 (fun b h1 h2 hk => by rcases hk with h | h <;> omega))
        clear hd7 hm7 HD6 HB6 TX6 HU
        obtain ⟨M7, hM7⟩ : ∃ M7, M7 = tornM (grown 30 ps) p X tI := ⟨_, rfl⟩
        rw [← hM7] at HD7
        have HM7 := Lib.hid hM7
        have hc7 : M7.cap = 30 := by rw [hM7, tornM_cap]; rfl
        have hl7 : M7.cells.length ≤ 40 := by
          rw [hM7]
          have := tornM_len (grown 30 ps) p X tI
          rw [Hgl.out] at this
          have := HXl.out
          omega
        have hx7 : ∀ y ∈ M7.cells, y.data.length ≤ 140737488355328 := by
          intro y hy
          rw [hM7] at hy
          rcases tornM_mem hy with h | h
          · exact Hgs.out y h
          · have := HX.out y h
            omega
        have Hc7 := Lib.hid hc7
        have Hl7 := Lib.hid hl7
        have Hx7 := Lib.hid hx7
        clear hM7 hc7 hl7 hx7 HX HXl
        go_wp2_with fail
        refine (drv_mediumP w7 HD7.out (by have := Hl7.out; omega) Hx7.out).mono ?_
        rintro e w8 ⟨aM, cM, csM, kM, rfl, hM, hc, hb⟩
        have hcx := Hc7.out
        rw [hcx]
        have hkM : M7.cells.length = kM := hM.size
        obtain ⟨hT, hS⟩ := TapeAt.new 30 hcx hM hc
        have TM := Lib.hid hT
        have HkM := Lib.hid hkM
        have hs9 := bthen hb hS (Nat.le_refl _)
        have HB9 := Lib.hid (bthen HB7.out hs9 (Nat.le_refl _))
        have HD9 := Lib.hid (HD7.out.ext hs9)
        have TX9 := Lib.hid (TX7.out.at.ext hs9)
        have hkM40 : kM ≤ 40 := by rw [← hkM]; exact Hl7.out
        clear hb hM hc hT hS hs9 HB7 HD7 TX7 hkM hcx Hl7 Hx7
        go_wp2_with (refine wpList_store_row rfl rfl 32 (.tmp 17) (.tmp 112) rfl w8.heap.size rfl 32 #[.int .i64 0, .slice none 0 0] #[.int .i64 30, .slice aM kM cM] rfl (heap_alloc_new w8 _) rfl (by kernel_rfl) (by simp [Value.oneCell']) ?_)
        generalize hwx : World.setRow _ _ _ = wA at *
        have TM : Hid (TapeAt wA w8.heap.size M7 aM kM cM csM) := TM
        generalize w8.heap.size = GM at *
        clear hwx
        refine (off_at HD9.out.2 (r := true) rfl).mono ?_
        rintro e w10 ⟨rfl, rfl⟩
        go_wp2_with fail
        refine (drv_placeP wA HD9.out).mono ?_
        rintro e w10 ⟨rfl, rfl⟩
        have hpkM : p ≤ kM := by
          rw [← HkM.out, HM7.out]
          have := tornM_ge (m := grown 30 ps) (p := p) X tI (by rw [Hgl.out]; exact hpk)
          exact this
        obtain ⟨d0, d1⟩ := TX9.out.box.cells
        obtain ⟨m0, m1⟩ := TM.out.box.cells
        have hc7 := Hc7.out
        rw [hc7] at m0
        try dsimp only at d0
        have hnl : decide ((kM : Int) < (p : Int)) = false := decide_eq_false (by omega)
        have hnl2 : decide (kM < p) = false := decide_eq_false (by omega)
        go_wp2_with fail
        clear d0 d1 m0 m1 hnl hnl2 hc7
        go_loopw [18] (fun i wx => ∃ (j : Nat) (wr : World), wr = wx ∧ j ≤ p ∧ i = .int .i64 (j : Int) ∧ Below wA.heap.size wA wr) (fun i _ => p - (intOf i).toNat)
        case atStart => exact ⟨0, _, rfl, by omega, rfl, Below.refl _ _⟩
        case round =>
          obtain ⟨j, wr, hwr, hj, rfl, hbr⟩ := hrel
          subst hwr
          have TMr := Lib.hid (TM.out.ext hbr)
          have TXr := Lib.hid (TX9.out.ext hbr)
          have HBr := Lib.hid (bthen HB9.out hbr (Nat.le_refl _))
          have Hbr := Lib.hid hbr
          clear hbr
          by_cases hjp : j < p
          · have hkl : j < ps.length := by rw [← HL.out]; omega
            have hjk2 : j < k := by omega
            have hcell : M7.cells[j]? = some ⟨1, ps[j].l, false⟩ := by
              rw [HM7.out, tornM_get X tI hjp (by rw [Hgl.out]; exact hpk)]
              show ((ps.map fun p => cellOf p.l))[j]? = _
              rw [List.getElem?_map, List.getElem?_eq_getElem hkl]
              show some (cellOf ps[j].l) = _
              unfold cellOf
              rw [if_neg (by have := (Hsh.out _ (List.getElem_mem hkl)).1; omega)]
            obtain ⟨x, o, dA, dC, rfl, hlx, c0', c1', _, hd, hjk⟩ := TMr.out.cell hcell
            obtain ⟨lbk, lo, hla, hlr0, hat⟩ := Hm.out.at hkl
            subst hla
            have r0'' := hat j hkl
            have hrow := Hm.out.row _ (List.getElem_mem hkl)
            obtain ⟨qq, hqq⟩ : ∃ qq, qq = ps[j] := ⟨_, rfl⟩
            rw [← hqq] at r0'' hrow hd c1'
            obtain ⟨pa, pc, dl⟩ := qq
            obtain ⟨dn, hdn⟩ : ∃ n, n = dl.length := ⟨_, rfl⟩
            dsimp only at r0'' hrow hd c0' c1'
            rw [← hdn] at r0'' c1'
            have hr1 := (World.cell?_of_block (w := w) (a := ⟨lbk, lo + j, none⟩) (HBr.out.block lbk hlr0)).trans r0''
            have Hdn := Lib.hid hdn
            have Hd := Lib.hid hd
            have Hp : Hid (Src wr pa (bvs dl)) := Lib.hid (hrow.1.ext HBr.out)
            have hdn63 : dn ≤ 9223372036854775807 := by rw [hdn]; exact hrow.2
            have hlr := Nat.lt_of_lt_of_le hlr0 HBr.out.size
            have c0 := c0'
            have c1 := c1'
            have r0 := hr1
            clear hat hrow hqq hdn hd hcell r0'' hr1 c0' c1'
            go_wp2_with fail
            refine wp_region_sp (by kernel_rfl) [Sp.eq (.pointer (some ⟨GM, 1, none⟩)), Sp.eq (.slice (some ⟨x, o, none⟩) kM cM), Sp.eq (.int .i64 (j : Int)), Sp.eq (.pointer (some ⟨x, o + j * 3, none⟩)), Sp.eq (.pointer (some ⟨x, o + j * 3, none⟩)), Sp.eq (.int .i64 1), Sp.eq (.bool false), Sp.eq (.bool false), Sp.eq (.pointer (some ⟨GM, 1, none⟩)), Sp.eq (.slice (some ⟨x, o, none⟩) kM cM), Sp.eq (.int .i64 (j : Int)), Sp.eq (.pointer (some ⟨x, o + j * 3, none⟩)), Sp.eq (.pointer (some ⟨x, o + j * 3 + 1, none⟩)), Sp.eq (.slice dA dn dC), Sp.eq (.slice (some ⟨lbk, lo, none⟩) k lc), Sp.eq (.int .i64 (j : Int)), Sp.eq (.pointer (some ⟨lbk, lo + j, none⟩)), Sp.eq (.slice pa dn pc), Sp.eq (.bool true), Sp.eq (.bool false), Sp.eq (.bool false)] (by kernel_rfl) ?_ ?_
            · refine stepsOk_cons ?_ (stepsOk_cons ?_ (stepsOk_cons ?_ (stepsOk_cons ?_ (stepsOk_cons ?_ (stepsOk_cons ?_ (stepsOk_cons ?_ (stepsOk_cons ?_ (stepsOk_cons ?_ (stepsOk_cons ?_ (stepsOk_cons ?_ (stepsOk_cons ?_ (stepsOk_cons ?_ (stepsOk_cons ?_ (stepsOk_cons ?_ (stepsOk_cons ?_ (stepsOk_cons ?_ (stepsOk_cons ?_ (stepsOk_cons ?_ (stepsOk_cons ?_ (stepsOk_cons ?_ (stepsOk_nil)))))))))))))))))))))
              · intro ρ w' E
                have e17 : ρ (.tmp 17) = .pointer (some ⟨GM, 0, none⟩) := E.out 17 rfl
                refine step_plain rfl ?_
                refine op_val (v := .pointer (some ⟨GM, 1, none⟩)) (w' := w') ?_ ⟨Below.refl _ _, rfl⟩
                have hcon := E.con
                clear E
                go_simp
              · intro ρ w' E
                have e148 : ρ (.tmp 148) = .pointer (some ⟨GM, 1, none⟩) := E.pre 0 rfl
                refine step_plain rfl ?_
                refine op_val (v := .slice (some ⟨x, o, none⟩) kM cM) (w' := w') ?_ ⟨Below.refl _ _, rfl⟩
                obtain ⟨k0, k1⟩ := (TMr.out.ext E.below).box.cells
                have hcon := E.con
                clear E
                go_simp
              · intro ρ w' E
                have e18 : ρ (.tmp 18) = .int .i64 (j : Int) := E.out 18 rfl
                refine step_plain rfl ?_
                exact op_move (.inl rfl) e18 ⟨Below.refl _ _, rfl⟩
              · intro ρ w' E
                have e149 : ρ (.tmp 149) = .slice (some ⟨x, o, none⟩) kM cM := E.pre 1 rfl
                have e150 : ρ (.tmp 150) = .int .i64 (j : Int) := E.pre 2 rfl
                refine step_plain rfl ?_
                refine op_val (v := .pointer (some ⟨x, o + j * 3, none⟩)) (w' := w') ?_ ⟨Below.refl _ _, rfl⟩
                have hcon := E.con
                clear E
                go_simp
              · intro ρ w' E
                have e151 : ρ (.tmp 151) = .pointer (some ⟨x, o + j * 3, none⟩) := E.pre 3 rfl
                refine step_plain rfl ?_
                refine op_val (v := .pointer (some ⟨x, o + j * 3, none⟩)) (w' := w') ?_ ⟨Below.refl _ _, rfl⟩
                have hcon := E.con
                clear E
                go_simp
              · intro ρ w' E
                have e152 : ρ (.tmp 152) = .pointer (some ⟨x, o + j * 3, none⟩) := E.pre 4 rfl
                refine step_plain rfl ?_
                refine op_val (v := .int .i64 1) (w' := w') ?_ ⟨Below.refl _ _, rfl⟩
                have hk := (World.cell?_of_block (w := wr) (E.below.block _ hlx)).trans c0
                have hcon := E.con
                clear E
                go_simp
              · intro ρ w' E
                have e153 : ρ (.tmp 153) = .int .i64 1 := E.pre 5 rfl
                refine step_plain rfl ?_
                refine op_val (v := .bool false) (w' := w') ?_ ⟨Below.refl _ _, rfl⟩
                have hcon := E.con
                clear E
                go_simp
              · intro ρ w' E
                have e154 : ρ (.tmp 154) = .bool false := E.pre 6 rfl
                refine step_plain rfl ?_
                exact op_move (.inl rfl) e154 ⟨Below.refl _ _, rfl⟩
              · intro ρ w' E
                have e17 : ρ (.tmp 17) = .pointer (some ⟨GM, 0, none⟩) := E.out 17 rfl
                refine step_yes rfl (E.pre 7 rfl) ?_
                refine op_val (v := .pointer (some ⟨GM, 1, none⟩)) (w' := w') ?_ ⟨Below.refl _ _, rfl⟩
                have hcon := E.con
                clear E
                go_simp
              · intro ρ w' E
                have e156 : ρ (.tmp 156) = .pointer (some ⟨GM, 1, none⟩) := E.pre 8 rfl
                refine step_yes rfl (E.pre 7 rfl) ?_
                refine op_val (v := .slice (some ⟨x, o, none⟩) kM cM) (w' := w') ?_ ⟨Below.refl _ _, rfl⟩
                obtain ⟨k0, k1⟩ := (TMr.out.ext E.below).box.cells
                have hcon := E.con
                clear E
                go_simp
              · intro ρ w' E
                have e18 : ρ (.tmp 18) = .int .i64 (j : Int) := E.out 18 rfl
                refine step_yes rfl (E.pre 7 rfl) ?_
                exact op_move (.inl rfl) e18 ⟨Below.refl _ _, rfl⟩
              · intro ρ w' E
                have e157 : ρ (.tmp 157) = .slice (some ⟨x, o, none⟩) kM cM := E.pre 9 rfl
                have e158 : ρ (.tmp 158) = .int .i64 (j : Int) := E.pre 10 rfl
                refine step_yes rfl (E.pre 7 rfl) ?_
                refine op_val (v := .pointer (some ⟨x, o + j * 3, none⟩)) (w' := w') ?_ ⟨Below.refl _ _, rfl⟩
                have hcon := E.con
                clear E
                go_simp
              · intro ρ w' E
                have e159 : ρ (.tmp 159) = .pointer (some ⟨x, o + j * 3, none⟩) := E.pre 11 rfl
                refine step_yes rfl (E.pre 7 rfl) ?_
                refine op_val (v := .pointer (some ⟨x, o + j * 3 + 1, none⟩)) (w' := w') ?_ ⟨Below.refl _ _, rfl⟩
                have hcon := E.con
                clear E
                go_simp
              · intro ρ w' E
                have e160 : ρ (.tmp 160) = .pointer (some ⟨x, o + j * 3 + 1, none⟩) := E.pre 12 rfl
                refine step_yes rfl (E.pre 7 rfl) ?_
                refine op_val (v := .slice dA dn dC) (w' := w') ?_ ⟨Below.refl _ _, rfl⟩
                have hk := (World.cell?_of_block (w := wr) (E.below.block _ hlx)).trans c1
                have hcon := E.con
                clear E
                go_simp
              · intro ρ w' E
                have e0 : ρ (.tmp 0) = .slice (some ⟨lbk, lo, none⟩) k lc := E.out 0 rfl
                refine step_yes rfl (E.pre 7 rfl) ?_
                exact op_move (.inl rfl) e0 ⟨Below.refl _ _, rfl⟩
              · intro ρ w' E
                have e18 : ρ (.tmp 18) = .int .i64 (j : Int) := E.out 18 rfl
                refine step_yes rfl (E.pre 7 rfl) ?_
                exact op_move (.inl rfl) e18 ⟨Below.refl _ _, rfl⟩
              · intro ρ w' E
                have e162 : ρ (.tmp 162) = .slice (some ⟨lbk, lo, none⟩) k lc := E.pre 14 rfl
                have e163 : ρ (.tmp 163) = .int .i64 (j : Int) := E.pre 15 rfl
                refine step_yes rfl (E.pre 7 rfl) ?_
                refine op_val (v := .pointer (some ⟨lbk, lo + j, none⟩)) (w' := w') ?_ ⟨Below.refl _ _, rfl⟩
                have hcon := E.con
                clear E
                go_simp
              · intro ρ w' E
                have e164 : ρ (.tmp 164) = .pointer (some ⟨lbk, lo + j, none⟩) := E.pre 16 rfl
                refine step_yes rfl (E.pre 7 rfl) ?_
                refine op_val (v := .slice pa dn pc) (w' := w') ?_ ⟨Below.refl _ _, rfl⟩
                have hk := (World.cell?_of_block (w := wr) (E.below.block _ hlr)).trans r0
                have hcon := E.con
                clear E
                go_simp
              · intro ρ w' E
                have e161 : ρ (.tmp 161) = .slice dA dn dC := E.pre 13 rfl
                have e165 : ρ (.tmp 165) = .slice pa dn pc := E.pre 17 rfl
                refine step_yes rfl (E.pre 7 rfl) ?_
                refine op_call (f := 24) (args := #[.slice dA dn dC, .slice pa dn pc]) (w' := w') (by have hcon := E.con; have hfn := E.fn; clear E; go_simp) ?_
                refine (bytes_at dA dC dl pa pc dl w' dn dn true (Hd.out.ext E.below) (Hp.out.ext E.below) Hdn.out Hdn.out (by omega) (by omega) (by simp)).mono ?_
                rintro e wz ⟨rfl, nz, rfl⟩
                exact ⟨_, rfl, ext_drewN w' nz w'.heap.size, rfl⟩
              · intro ρ w' E
                have e166 : ρ (.tmp 166) = .bool true := E.pre 18 rfl
                refine step_yes rfl (E.pre 7 rfl) ?_
                refine op_val (v := .bool false) (w' := w') ?_ ⟨Below.refl _ _, rfl⟩
                have hcon := E.con
                clear E
                go_simp
              · intro ρ w' E
                have e155 : ρ (.tmp 155) = .bool false := E.pre 7 rfl
                have e167 : ρ (.tmp 167) = .bool false := E.pre 19 rfl
                refine step_plain rfl ?_
                exact op_pick (b := false) rfl e155 rfl ⟨Below.refl _ _, e167⟩
            · intro σ wF hb hall
              have h168 : σ 168 = .bool false := by obtain ⟨_, _, _, _, _, _, _, _, _, _, _, _, _, _, _, _, _, _, _, _, h, _⟩ := hall; exact h
              clear hall
              simp only [upd, updL, dstsOf', elemB, List.filterMap_cons, List.filterMap_nil, Nat.reduceAdd, Nat.reduceBEq, Bool.or_false, Bool.false_or, Bool.or_true, Bool.true_or, cond_true, cond_false, Nat.zero_add, h168]
              have HbF := Lib.hid (bthen Hbr.out hb (Nat.le_refl _))
              clear hb h168 c0 c1 r0
              go_wp2_with fail
              go_roundw
              case rel => exact ⟨j + 1, _, rfl, by omega, by go_num, HbF.out⟩
              case measure => simp [intOf]; omega
          · obtain rfl : p = j := by omega
            obtain ⟨d0, d1⟩ := TXr.out.box.cells
            obtain ⟨m0, m1⟩ := TMr.out.box.cells
            rw [Hc7.out] at m0
            have d0 : wr.cell? ⟨GX, 0, none⟩ = some (.int .i64 30) := d0
            clear hj
            by_cases ht : tI < 0
            · have hMe : M7 = grown 30 ps := by rw [HM7.out]; unfold tornM; rw [if_neg (by omega)]
              have HMe := Lib.hid hMe
              clear hMe
              go_wp2_with fail
              clear d0 d1 m0 m1
              refine (keepmed_any 30 30 aM aX cM kM cX k csM csX true wr TMr.out.mat TXr.out.mat TMr.out.len TXr.out.len (by omega) (by omega) ⟨fun _ => ⟨rfl, TMr.out.pls.trans ((congrArg Med.cells HMe.out).trans TXr.out.pls.symm)⟩, fun _ => rfl⟩).mono ?_
              rintro e wB ⟨rfl, hb⟩
              have HBB := Lib.hid (bthen HBr.out hb (Nat.le_refl _))
              clear hb
              go_wp2_with fail
              refine (wakes12_any wB).mono ?_
              rintro e wC ⟨rfl, hb⟩
              have HBC := Lib.hid (bthen HBB.out hb (Nat.le_refl _))
              clear hb
              go_wp2
              go_ret
              exact ⟨rfl, HBC.out⟩
            · have ht0 : 0 ≤ tI := by omega
              clear d0 d1
              obtain rfl : kM = p := by rw [← HkM.out, HM7.out, HXe.out, tornM_pos _ ht0 (by rw [Hgl.out]; exact hpk)]; rfl
              clear ht0
              go_wp2_with fail
              clear m0 m1
              refine (wakes12_any wr).mono ?_
              rintro e wC ⟨rfl, hb⟩
              have HBC := Lib.hid (bthen HBr.out hb (Nat.le_refl _))
              clear hb
              go_wp2
              go_ret
              exact ⟨rfl, HBC.out⟩
end Go.Proofs.Ytilmldkaagbofaa
