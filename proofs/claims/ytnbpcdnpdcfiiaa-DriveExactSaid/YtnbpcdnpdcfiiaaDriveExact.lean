/- The walk of DriveExact. -/
import Derived.Test.YtnbpcdnpdcfiiaaTwoDrv
import Derived.Test.YtnbpcdnpdcfiiaaDriveExactPartK
import Derived.Test.YtnbpcdnpdcfiiaaMedLaw
import Derived.Test.YtnbpcdnpdcfiiaaKeepMed
import Derived.Test.YtnbpcdnpdcfiiaaDriveExactPartC
import Derived.Test.YtnbpcdnpdcfiiaaDriveExactPartJ
import Derived.Test.YtnbpcdnpdcfiiaaRegionFree
import Derived.Test.YtnbpcdnpdcfiiaaDriveExactPartI
namespace Go.Proofs.Ytnbpcdnpdcfiiaa
open Go.RowKit

def A5ok (w : World) (x : Act5) : Prop := x.ok w
theorem TDF_no8 {B : Nat} (b : Nat) : ¬ TDF B b 5 := fun h => by have := h.2; revert this; decide
theorem TDF_noA {B : Nat} (b : Nat) : ¬ TDF B b 44 := fun h => by have := h.2; revert this; decide
theorem A5Mat.ext {w w' : World} {a : Option Addr} {l : List Act5} (h : A5Mat w a l) (hb : Below w.heap.size w w') : A5Mat w' a l := ⟨h.src.ext hb, fun x hx => ⟨(h.ok x hx).1.ext hb, (h.ok x hx).2⟩⟩

set_option maxRecDepth 100000 in
set_option maxHeartbeats 4000000 in
theorem drv_new_bad {g : Nat} (cap : Int) (aM : Option Addr) (cM n : Nat) (us : List CellV) (w : World) (hs : CMat w aM us) (hn : n = us.length) (hn2 : n ≤ 100000) (hok : (medOf cap us).ok = false) :
    Calls Try.prog 14 #[.pointer (some ⟨g, 0, none⟩), .agg #[.int .i64 cap, .slice aM n cM]] w fun e w' => e = .returned (.tuple #[.pointer none, .int .i64 1]) ∧ Below w.heap.size w w' := by
  have Hs := Lib.hid hs
  have Hn := Lib.hid hn
  have hz := heap_alloc_new w (.cells #[.int .i64 cap, .slice aM n cM] 24)
  have hb := ext_alloc w (.cells #[.int .i64 cap, .slice aM n cM] 24)
  clear hs hn
  go_enter Try.func14, Try.ntmps14
  go_wp2_with fail
  refine (check_any cap aM cM n us false _ (Hs.out.ext hb) Hn.out (by omega) hok).mono ?_
  rintro e w2 ⟨rfl, hb2⟩
  have hb02 := bthen hb hb2 (Nat.le_refl _)
  clear hb2 hz hok hb
  go_wp2
  go_ret2
  exact ⟨rfl, hb02⟩

set_option maxRecDepth 100000 in
set_option maxHeartbeats 16000000 in
theorem driveExact_walk (w : World) (cap : Int) (a : Option Addr) (c : Nat) (cs : List CellV) (hs : CMat w a cs) (hl : cs.length ≤ 9223372036854775807) (hlc : cs.length ≤ c) (aL : Option Addr) (cL : Nat) (l : List Act5) (hL : A5Mat w aL l) (hlL : l.length ≤ 9223372036854775807) :
    Calls Try.prog 3 #[.agg #[.int .i64 cap, .slice a cs.length c], .slice aL l.length cL] w fun e w' => e = .returned (.bool true) ∧ Below w.heap.size w w' := by
  have Hs := Lib.hid hs
  obtain ⟨n, hn⟩ : ∃ n, n = cs.length := ⟨_, rfl⟩
  obtain ⟨N, hN⟩ : ∃ N, N = l.length := ⟨_, rfl⟩
  rw [← hn, ← hN]
  have Hn := Lib.hid hn
  have HN := Lib.hid hN
  have hn2 : n ≤ 9223372036854775807 := by omega
  have hN2 : N ≤ 9223372036854775807 := by omega
  have hb1 := ext_alloc w (.cells #[.int .i64 cap, .slice a n c] 24)
  have hT : TapeAt (w.alloc (.cells #[.int .i64 cap, .slice a n c] 24)) w.heap.size ⟨cap, pls cs⟩ a n c cs := ⟨heap_alloc_new w _, hs.ext hb1, hn, rfl, by omega⟩
  have HL1 := Lib.hid (hL.ext hb1)
  clear hs hl hn hlc hN hL hlL
  go_enter Try.func3, Try.ntmps3
  go_wp2_with fail
  refine (heavy07 cap a c n cs _ hT.mat Hn.out hn2).mono ?_
  rintro e w2 (⟨rfl, hb2⟩ | ⟨rfl, hb2, hlight⟩)
  · go_wp2
    go_ret
    exact ⟨rfl, bthen hb1 hb2 (Nat.le_refl _)⟩
  have HB := Lib.hid (bthen hb1 hb2 (Nat.le_refl _))
  have T := Lib.hid (hT.ext hb2)
  have HL := Lib.hid (HL1.out.ext hb2)
  have Hli := Lib.hid hlight
  clear hT hb1 hb2 hlight HL1
  go_wp2_with fail
  refine (heavy12 aL cL N l w2 HL.out.src HN.out hN2).mono ?_
  rintro e w3 (⟨rfl, hb3⟩ | ⟨rfl, hb3, hlight⟩)
  · go_wp2
    go_ret
    exact ⟨rfl, bthen HB.out hb3 (Nat.le_refl _)⟩
  have HB := Lib.hid (bthen HB.out hb3 (Nat.le_refl _))
  have T := Lib.hid (T.out.ext hb3)
  have HL := Lib.hid (HL.out.ext hb3)
  have Hli12 := Lib.hid hlight
  clear hb3 hlight
  have hnn : n ≤ 80 := by rw [Hn.out]; exact Hli.out.1
  have Hx : Hid (∀ x ∈ cs, x.d.l.length ≤ 140737488355328) := Lib.hid fun x hx => by have := Hli.out.2 x hx; omega
  go_wp2_with fail
  refine (power_new w3).mono ?_
  rintro e w4 ⟨g, rfl, hp4, hb4⟩
  go_wp2_with fail
  refine (rpow_new w4).mono ?_
  rintro e w5 ⟨q, rfl, hq5, hb5⟩
  have HP := Lib.hid (hp4.ext hb5)
  have HQ := Lib.hid (hq5.mono hb4.size)
  have HBv := Lib.hid (bthen hb4 hb5 (Nat.le_refl _))
  have T5 := Lib.hid (T.out.ext HBv.out)
  clear hp4 hq5 hb4 hb5
  obtain ⟨d0, d1⟩ := T5.out.box.cells
  dsimp only at d0 d1
  go_wp2_with fail
  clear d0 d1
  refine (twinmed_any cap a c n cs w5 T5.out.mat Hn.out (by omega) Hx.out).mono ?_
  rintro e w6 ⟨a6, c6, cs6, rfl, hl6, ho6, hp6, hb6⟩
  have hM6 : MedR w6 w5.heap.size ⟨cap, pls cs⟩ a6 n c6 cs6 := ⟨ho6, hl6, hp6⟩
  have hc6 : n ≤ c6 := by have := ho6.row.len.1; rw [hl6] at this; exact this
  obtain ⟨hT6, hS6⟩ := TapeO.new cap rfl hM6 hc6
  have hz6 := heap_alloc_new w6 (.cells #[.int .i64 0, .slice none 0 0] 24)
  obtain ⟨d0, d1⟩ := hT6.box.cells
  dsimp only at d0 d1
  go_wp2_with (refine wpList_store_row rfl rfl 24 (.tmp 7) (.tmp 28) rfl w6.heap.size rfl 24 #[.int .i64 0, .slice none 0 0] #[.int .i64 cap, .slice a6 n c6] rfl hz6 rfl (by kernel_rfl) (by simp [Value.oneCell']) ?_)
  generalize hW7 : (w6.alloc (.cells #[.int .i64 0, .slice none 0 0] 24)).setRow w6.heap.size #[.int .i64 cap, .slice a6 n c6] = w7 at *
  have hb57 := bthen hb6 hS6 (Nat.le_refl _)
  have HI := Lib.hid hT6
  have H57 := Lib.hid hb57
  have HW5 := Lib.hid HBv.out.size
  have HBv := Lib.hid (bthen HBv.out hb57 (Nat.le_refl _))
  clear hW7 hz6 hT6 hS6 hM6 ho6 hp6 hb6 hb57 T5
  clear d0 d1
  have T7 := Lib.hid (T.out.ext HBv.out)
  have Hx6 : Hid (∀ x ∈ cs6, x.d.l.length ≤ 140737488355328) := Lib.hid (HI.out.r.short fun x hx => by obtain ⟨y, hy, rfl⟩ := List.mem_map.1 hx; exact Hx.out y hy)
  cases hok : (medOf cap cs).ok with
  | false =>
    refine (drv_new_bad (g := g) cap a6 c6 n cs6 w7 HI.out.r.mat HI.out.r.len.symm (by omega) (by rw [HI.out.r.of]; exact hok)).mono ?_
    rintro e w8 ⟨rfl, hb8⟩
    have T8 := Lib.hid (T7.out.ext hb8)
    have HB8 := Lib.hid (bthen (bthen HB.out HBv.out (Nat.le_refl _)) hb8 (Nat.le_refl _))
    clear hb8
    obtain ⟨d0, d1⟩ := T8.out.box.cells
    dsimp only at d0 d1
    go_wp2_with fail
    clear d0 d1
    refine (refmed_any cap a c n cs false w8 T8.out.mat Hn.out hn2 hok).mono ?_
    rintro e w9 ⟨rfl, hb9⟩
    have HB9 := Lib.hid (bthen HB8.out hb9 (Nat.le_refl _))
    clear hb9
    go_wp2_with fail
    refine (wakes12_any w9).mono ?_
    rintro e wA ⟨rfl, hbA⟩
    have HBA := Lib.hid (bthen HB9.out hbA (Nat.le_refl _))
    clear hbA
    go_wp2
    go_ret
    exact ⟨rfl, HBA.out⟩
  | true =>
  have Hok := Lib.hid hok
  clear hok
  refine (drv_new (g := g) cap a6 c6 n cs6 w7 HI.out.r.mat HI.out.r.len.symm (by omega) Hx6.out (by rw [HI.out.r.of]; exact Hok.out)).mono ?_
  rintro e w8 ⟨d, a8, c8, cs8, rfl, h8, hb8⟩
  have HD8 := Lib.hid h8
  have HB8 := Lib.hid hb8
  have T8 := Lib.hid (T7.out.ext hb8)
  clear h8 hb8 T7
  obtain ⟨d0, d1⟩ := T8.out.box.cells
  dsimp only at d0 d1
  go_wp2_with fail
  clear d0 d1
  refine (refmed_any cap a c n cs true w8 T8.out.mat Hn.out hn2 Hok.out).mono ?_
  rintro e w9 ⟨rfl, hb9⟩
  have HD9 := Lib.hid (HD8.out.ext hb9)
  have HB9 := Lib.hid (bthen HB8.out hb9 (Nat.le_refl _))
  have HI9 := Lib.hid (HI.out.ext HB9.out)
  clear hb9 HD8 HB8 T8
  obtain ⟨d0, d1⟩ := HI9.out.box.cells
  dsimp only at d0 d1
  go_wp2_with fail
  clear d0 d1
  refine (spoilmed_any w5.heap.size w7.heap.size cap a6 c6 n cs6 w9 HI9.out.r.own HI9.out.r.len.symm (by omega) Hx6.out (Nat.le_trans H57.out.size HB9.out.size) (fun x hx hn0 => HI.out.r.own.row.bnd x hx (.inl (by rw [HI.out.r.len]; exact hn0))) (fun y hy hy0 x hx => (HI.out.r.own.dat y hy).bnd x hx (.inl (by rw [Ne, List.length_eq_zero_iff]; exact hy0)))).mono ?_
  rintro e wA ⟨rfl, hbA, hmA⟩
  have HDA : Hid (DrvAt w7.heap.size (fun b => w7.heap.size ≤ b) wA d g ⟨cap, pls cs6⟩ 0 a8 n c8 cs8) := Lib.hid ⟨HD9.out.low, HD9.out.kd, hmA.keep HD9.out.obj (fun hf => by have := HD9.out.low; omega), HD9.out.r.rowsIn HD9.out.kr HD9.out.du hmA (fun b T hf hk => by omega), HD9.out.cap, HD9.out.kr, HD9.out.du⟩
  have H5A := Lib.hid ((bthen H57.out HB9.out (Nat.le_refl _)).trans hbA)
  have HPA := Lib.hid (HP.out.ext H5A.out)
  have HQA := Lib.hid (HQ.out.ext H5A.out)
  have HBA := Lib.hid ((bthen HBv.out HB9.out (Nat.le_refl _)).trans (hbA.mono HW5.out))
  have T9 := Lib.hid (T.out.ext HBA.out)
  clear hbA hmA HD9 HI9 HB9
  obtain ⟨d0, d1⟩ := T9.out.box.cells
  dsimp only at d0 d1
  go_wp2_with fail
  clear d0 d1
  refine (twinmed_any cap a c n cs wA T9.out.mat Hn.out (by omega) Hx.out).mono ?_
  rintro e wB ⟨a9, c9, cs9, rfl, hl9, ho9, hp9, hb9⟩
  have hMB : MedR wB wA.heap.size ⟨cap, pls cs⟩ a9 n c9 cs9 := ⟨ho9, hl9, hp9⟩
  have hcB : n ≤ c9 := by have := ho9.row.len.1; rw [hl9] at this; exact this
  have hzB := heap_alloc_new wB (.cells #[.pointer (some ⟨q, 0, none⟩), .int .i64 cap, .slice a9 n c9, .int .i64 0] 41)
  have hbB := ext_alloc wB (.cells #[.pointer (some ⟨q, 0, none⟩), .int .i64 cap, .slice a9 n c9, .int .i64 0] 41)
  have hps : pls cs6 = pls cs := HI.out.r.pls
  have hBA : w3.heap.size ≤ wA.heap.size := HBA.out.size
  have hB7 : w3.heap.size ≤ w7.heap.size := HBv.out.size
  have hAB := hb9.size
  have hdw := heap_lt HDA.out.obj
  have HTD : Hid (TwoD w3.heap.size 0 0 (wB.alloc (.cells #[.pointer (some ⟨q, 0, none⟩), .int .i64 cap, .slice a9 n c9, .int .i64 0] 41)) d g wB.heap.size q ⟨cap, pls cs⟩ 0 PS.new ⟨cap, pls cs⟩ 0 PS.new) := Lib.hid (by
    have hD1 : DrvP w3.heap.size (fun b => w7.heap.size ≤ b) wA d g ⟨cap, pls cs⟩ 0 PS.new := ⟨⟨a8, n, c8, cs8, by have := HDA.out.mono (B' := w3.heap.size) (K' := fun b => w7.heap.size ≤ b) hB7 (fun _ _ h => h); rw [hps] at this; exact this⟩, HPA.out⟩
    have hD2 : DrvP w3.heap.size (fun b => w7.heap.size ≤ b ∧ b < wA.heap.size) wA d g ⟨cap, pls cs⟩ 0 PS.new := hD1.rek fun b _ hb hk => ⟨hk, hb⟩
    have hbAB := bthen hb9 hbB (Nat.le_refl _)
    have hR : RDrvP w3.heap.size (fun b => wA.heap.size ≤ b ∧ b < wB.heap.size) (wB.alloc (.cells #[.pointer (some ⟨q, 0, none⟩), .int .i64 cap, .slice a9 n c9, .int .i64 0] 41)) wB.heap.size q ⟨cap, pls cs⟩ 0 PS.new :=
      ⟨⟨a9, n, c9, cs9, ⟨by omega, hzB, (hMB.mono hBA).ext hbB, hcB⟩, hMB.newRow⟩, HQA.out.ext hbAB⟩
    refine ⟨_, _, fun b hb => ⟨?_, fun h => by omega⟩, fun b hb => ⟨?_, fun h => by omega⟩, fun b hz hk => ?_, hD2.ext hbAB, hR⟩
    · have := hbAB.size; have := hb.2; omega
    · have := hbB.size; have := hb.2; omega
    · have := hz.1; have := hk.2; omega)
  have HBv := Lib.hid (bthen (bthen HBA.out hb9 (Nat.le_refl _)) hbB (Nat.le_refl _))
  clear hMB hzB hbB hps hdw ho9 hp9 hb9 HDA HPA HQA T9 HBA H5A HP HQ HI HW5 H57 Hx6 hB7 hBA hAB
  go_wp2_with fail
  generalize wB.alloc (.cells #[.pointer (some ⟨q, 0, none⟩), .int .i64 cap, .slice a9 n c9, .int .i64 0] 41) = wC at *
  generalize wB.heap.size = rd at *
  have HG0 : Hid (DGood ⟨cap, pls cs⟩ 0) := Lib.hid ⟨Hok.out, 0, rfl, Nat.zero_le _⟩
  go_loopw [11] (fun i wx => ∃ (t : Nat) (M : Med) (p : Int) (s : PS) (wr : World), wr = wx ∧ t ≤ N ∧ t ≤ 50 ∧ i = .int .i64 (t : Int) ∧ TwoD w3.heap.size 0 0 wr d g rd q M p s M p s ∧ DGood M p ∧ M.cap = cap ∧ 0 ≤ s.life ∧ s.life ≤ (t : Int) ∧ Below w3.heap.size w3 wr) (fun i _ => 51 - (intOf i).toNat)
  case atStart => exact ⟨0, _, _, _, _, rfl, by omega, by omega, rfl, HTD.out, HG0.out, rfl, by decide, by decide, HBv.out⟩
  case round =>
    obtain ⟨t, M, p, s, wr, hwr, htN, ht50, rfl, hD, hG, hcap, hs0, hs1, hbr⟩ := hrel
    subst hwr
    clear HTD HG0 HBv
    have HD := Lib.hid hD
    have HG := Lib.hid hG
    have HC := Lib.hid hcap
    have HS0 := Lib.hid hs0
    have HS1 := Lib.hid hs1
    have HBv := Lib.hid hbr
    have HLr := Lib.hid (HL.out.ext hbr)
    have Tr := Lib.hid (T.out.ext hbr)
    clear hD hG hcap hs0 hs1 hbr
    by_cases htl : t < N
    · by_cases ht5 : t < 50
      case neg =>
        obtain ⟨Z, ⟨aR, kR, cR, csR, hR, _⟩, _⟩ := HD.out.refP
        obtain ⟨r0, r1, r2, r3⟩ := hR.cells
        have hlR := heap_lt hR.obj
        have HR := Lib.hid hR
        clear hR r0
        go_wp2_with fail
        refine wp_region_phase (by kernel_rfl) [] (by kernel_rfl) (by kernel_rfl) ?_
        refine stage_last [Sp.eq (.pointer (some ⟨d, 0, none⟩)), Sp.eq (.pointer (some ⟨d, 0, none⟩)), Sp.eq (.pointer (some ⟨d, 0, none⟩)), ⟨AnsM wr.heap.size M, fun _ _ _ ⟨a, k, c, cs, e, h, hk⟩ hb => ⟨a, k, c, cs, e, h.ext hb, hk⟩⟩, Sp.eq (.pointer (some ⟨rd, 0, none⟩)), Sp.eq (.pointer (some ⟨rd, 0, none⟩)), Sp.eq (.pointer (some ⟨rd, 1, none⟩)), Sp.eq (.agg #[.int .i64 M.cap, .slice aR kR cR]), Sp.eq (.bool true), Sp.eq (.bool true), Sp.eq (.bool true), Sp.eq (.bool true), Sp.eq (.bool true)] ?_ ?_
        · refine stepsG_cons ?_ (stepsG_cons ?_ (stepsG_cons ?_ (stepsG_cons ?_ (stepsG_cons ?_ (stepsG_cons ?_ (stepsG_cons ?_ (stepsG_cons ?_ (stepsG_cons ?_ (stepsG_cons ?_ (stepsG_cons ?_ (stepsG_cons ?_ (stepsG_cons ?_ (stepsG_nil)))))))))))))
          · intro ρ w' E
            have e8 : ρ (.tmp 8) = .pointer (some ⟨d, 0, none⟩) := E.out 8 rfl
            refine step_plain rfl ?_
            exact op_move (.inl rfl) e8 ⟨Below.refl _ _, rfl⟩
          · intro ρ w' E
            have e224 : ρ (.tmp 224) = .pointer (some ⟨d, 0, none⟩) := E.pre 0 rfl rfl
            refine step_plain rfl ?_
            refine op_val (v := .pointer (some ⟨d, 0, none⟩)) (w' := w') ?_ ⟨Below.refl _ _, rfl⟩
            have hcon := E.con
            clear E
            go_simp
          · intro ρ w' E
            have e225 : ρ (.tmp 225) = .pointer (some ⟨d, 0, none⟩) := E.pre 1 rfl rfl
            refine step_plain rfl ?_
            refine op_val (v := .pointer (some ⟨d, 0, none⟩)) (w' := w') ?_ ⟨Below.refl _ _, rfl⟩
            have hcon := E.con
            clear E
            go_simp
          · intro ρ w' E
            have e226 : ρ (.tmp 226) = .pointer (some ⟨d, 0, none⟩) := E.pre 2 rfl rfl
            refine step_plain rfl ?_
            refine op_call (f := 37) (args := #[.pointer (some ⟨d, 0, none⟩)]) (w' := w') (by have hcon := E.con; have hfn := E.fn; clear E; go_simp) ?_
            obtain ⟨KD, hKD⟩ := (HD.out.ext E.below).realP
            refine (drv_mediumP w' hKD (Nat.le_trans HG.out.len (by decide)) HG.out.short).mono ?_
            rintro e w2 ⟨aX, cX, csX, kX, rfl, hMX, hcX, hb⟩
            exact ⟨_, rfl, hb, aX, kX, cX, csX, rfl, hMX.mono E.below.size, hcX⟩
          · intro ρ w' E
            have e10 : ρ (.tmp 10) = .pointer (some ⟨rd, 0, none⟩) := E.out 10 rfl
            refine step_plain rfl ?_
            exact op_move (.inl rfl) e10 ⟨Below.refl _ _, rfl⟩
          · intro ρ w' E
            have e228 : ρ (.tmp 228) = .pointer (some ⟨rd, 0, none⟩) := E.pre 4 rfl rfl
            refine step_plain rfl ?_
            refine op_val (v := .pointer (some ⟨rd, 0, none⟩)) (w' := w') ?_ ⟨Below.refl _ _, rfl⟩
            have hcon := E.con
            clear E
            go_simp
          · intro ρ w' E
            have e229 : ρ (.tmp 229) = .pointer (some ⟨rd, 0, none⟩) := E.pre 5 rfl rfl
            refine step_plain rfl ?_
            refine op_val (v := .pointer (some ⟨rd, 1, none⟩)) (w' := w') ?_ ⟨Below.refl _ _, rfl⟩
            have hcon := E.con
            clear E
            go_simp
          · intro ρ w' E
            have e230 : ρ (.tmp 230) = .pointer (some ⟨rd, 1, none⟩) := E.pre 6 rfl rfl
            refine step_plain rfl ?_
            refine op_val (v := .agg #[.int .i64 M.cap, .slice aR kR cR]) (w' := w') ?_ ⟨Below.refl _ _, rfl⟩
            have k1 := (World.cell?_of_block (w := wr) (E.below.block _ hlR)).trans r1
            have k2 := (World.cell?_of_block (w := wr) (E.below.block _ hlR)).trans r2
            have hcon := E.con
            clear E r1 r2 r3
            go_simp
          · intro ρ w' E
            have p227 : (AnsM wr.heap.size M) w' (ρ (.tmp 227)) := E.pre 3 rfl rfl
            have e231 : ρ (.tmp 231) = .agg #[.int .i64 M.cap, .slice aR kR cR] := E.pre 7 rfl rfl
            refine step_plain rfl ?_
            obtain ⟨aX, kX, cX, csX, e5, hMX, hcX⟩ := p227
            refine op_call (f := 40) (args := #[.agg #[.int .i64 M.cap, .slice aX kX cX], .agg #[.int .i64 M.cap, .slice aR kR cR]]) (w' := w') (by have hcon := E.con; have hfn := E.fn; clear E r1 r2 r3; go_simp) ?_
            refine (keepmed_any M.cap M.cap aX aR cX kX cR kR csX csR true w' hMX.mat (HR.out.r.ext E.below).mat hMX.len.symm HR.out.r.len.symm hMX.len63 HR.out.r.len63 (by rw [hMX.pls, HR.out.r.pls]; simp)).mono ?_
            rintro e w2 ⟨rfl, hb⟩
            exact ⟨_, rfl, hb, rfl⟩
          · intro ρ w' E
            have e232 : ρ (.tmp 232) = .bool true := E.pre 8 rfl rfl
            refine step_plain rfl ?_
            exact op_move (.inl rfl) e232 ⟨Below.refl _ _, rfl⟩
          · intro ρ w' E
            refine step_yes rfl (E.pre 9 rfl rfl) ?_
            refine op_call (f := 16) (args := #[]) (w' := w') (by have hcon := E.con; have hfn := E.fn; clear E; go_simp) ?_
            refine (wakes12_any w').mono ?_
            rintro e w2 ⟨rfl, hb⟩
            exact ⟨_, rfl, hb, rfl⟩
          · intro ρ w' E
            have e233 : ρ (.tmp 233) = .bool true := E.pre 9 rfl rfl
            have e234 : ρ (.tmp 234) = .bool true := E.pre 10 rfl rfl
            refine step_plain rfl ?_
            exact op_pick (b := true) rfl e233 rfl ⟨Below.refl _ _, e234⟩
          · intro ρ w' E
            have e235 : ρ (.tmp 235) = .bool true := E.pre 11 rfl rfl
            refine step_plain rfl ?_
            exact op_move (.inr rfl) e235 ⟨Below.refl _ _, rfl⟩
        · intro σF wF GF OF HF
          have s4 : σF 4 = .bool true := HF 12 rfl rfl
          clear OF HF
          simp only [upd, updL, dstsOf', elemB, List.filterMap_cons, List.filterMap_nil, Nat.reduceAdd, Nat.reduceBEq, Bool.or_false, Bool.or_true, cond_true, cond_false, Nat.zero_add, s4]
          have HBF := Lib.hid (bthen (bthen HB.out HBv.out (Nat.le_refl _)) GF (Nat.le_refl _))
          clear GF r1 r2 r3 s4
          go_wp2
          go_ret
          exact ⟨rfl, HBF.out⟩
      have hjl : t < l.length := by have := HN.out; omega
      obtain ⟨b, o, rfl, hlb, hat⟩ := HLr.out.src.elem Act5.len (by decide) hjl
      have hok := HLr.out.ok _ (List.getElem_mem hjl)
      have h300 := Hli12.out.2 t hjl ht5
      obtain ⟨x, hx⟩ : ∃ x, x = l[t] := ⟨_, rfl⟩
      rw [← hx] at hok h300
      have c0 : wr.cell? ⟨b, o + t * 5, none⟩ = some (.int .i64 x.what) := hat t hjl 0 (.int .i64 x.what) (by rw [hx]; rfl)
      have c1 : wr.cell? ⟨b, o + t * 5 + 1, none⟩ = some (.int .i64 x.n) := hat t hjl 1 (.int .i64 x.n) (by rw [hx]; rfl)
      have c2 : wr.cell? ⟨b, o + t * 5 + 2, none⟩ = some (.int .i64 x.m) := hat t hjl 2 (.int .i64 x.m) (by rw [hx]; rfl)
      have c3 : wr.cell? ⟨b, o + t * 5 + 3, none⟩ = some (.slice x.b.a x.b.l.length x.b.c) := hat t hjl 3 (.slice x.b.a x.b.l.length x.b.c) (by rw [hx]; rfl)
      have c4 : wr.cell? ⟨b, o + t * 5 + 4, none⟩ = some (.int .i64 x.torn) := hat t hjl 4 (.int .i64 x.torn) (by rw [hx]; rfl)
      have Hok3 : Hid (x.ok w3) := Lib.hid (by rw [hx]; exact HL.out.ok _ (List.getElem_mem hjl))
      have Hok5 := Lib.hid hok
      have H300 := Lib.hid h300
      clear hat hx hok h300
      obtain ⟨z, hz, ez⟩ : ∃ z : Nat, z < 12 ∧ (IntKind.u64.wrap x.what).tmod 12 = (z : Int) := by
        have hx : 0 ≤ IntKind.u64.wrap x.what := by rw [IntKind.wrap_u64]; omega
        rw [Int.tmod_eq_emod_of_nonneg hx]
        exact ⟨((IntKind.u64.wrap x.what) % 12).toNat, by omega, by omega⟩
      by_cases hz4 : z = 4
      · have e3 : ((z : Int) == 3) = false := by simp; omega
        have e4 : ((z : Int) == 4) = true := by simp; omega
        have hput := setRow_heap (wr.alloc (.cells #[.int .i64 0, .int .i64 0, .int .i64 0, .slice none 0 0, .int .i64 0] 44)) wr.heap.size _ #[.int .i64 x.what, .int .i64 x.n, .int .i64 x.m, .slice x.b.a x.b.l.length x.b.c, .int .i64 x.torn] _ _ (heap_alloc_new wr _)
        have hbp : Below wr.heap.size wr ((wr.alloc (.cells #[.int .i64 0, .int .i64 0, .int .i64 0, .slice none 0 0, .int .i64 0] 44)).setRow wr.heap.size #[.int .i64 x.what, .int .i64 x.n, .int .i64 x.m, .slice x.b.a x.b.l.length x.b.c, .int .i64 x.torn]) := bsetRow (ext_alloc wr _) (Nat.le_refl _) _
        have m0 := cell_of_row _ _ 0 _ _ _ hput
        have m1 := cell_of_row _ _ 1 _ _ _ hput
        have m2 := cell_of_row _ _ 2 _ _ _ hput
        have m3 := cell_of_row _ _ 3 _ _ _ hput
        have m4 := cell_of_row _ _ 4 _ _ _ hput
        go_wp2_with (first
          | (refine wpList_store_row rfl rfl 44 (.tmp 12) (.tmp 77) rfl wr.heap.size rfl 44 #[.int .i64 0, .int .i64 0, .int .i64 0, .slice none 0 0, .int .i64 0] #[.int .i64 x.what, .int .i64 x.n, .int .i64 x.m, .slice x.b.a x.b.l.length x.b.c, .int .i64 x.torn] rfl (heap_alloc_new wr _) rfl (by kernel_rfl) (by intro v hv; simp at hv; rcases hv with rfl | rfl | rfl | rfl | rfl <;> rfl) ?_))
        generalize hws : World.setRow _ _ _ = w1 at *
        have HD1 := Lib.hid (HD.out.ext hbp)
        have HB1 := Lib.hid (bthen HBv.out hbp (Nat.le_refl _))
        have Hok1 := Lib.hid (show A5ok w1 x from ⟨Hok5.out.1.ext hbp, Hok5.out.2⟩)
        clear hws hbp c0 c1 c2 c3 c4 m0
        generalize wr.heap.size = GA at *
        obtain ⟨pn, rfl, hpl⟩ := HG.out.pos
        obtain ⟨⟨Em, s', M', p'⟩, hrr⟩ : ∃ y, y = dvMark s M pn := ⟨_, rfl⟩
        have hgd := dvMark_good HG.out.ok hpl hrr.symm
        have HRR := Lib.hid hrr.symm
        clear hrr
        refine (HD1.out.real (Nat.zero_le _) (fun K hd hu => drv_mark pn s s' Em M' p' w1 hd hu hpl HG.out.len HRR.out)).mono ?_
        rintro e w2x ⟨rfl, hd2, hm2⟩
        have HD2 := Lib.hid hd2
        have HB2 := Lib.hid (HB1.out.trans (hm2.below (fun b T h => h.1) HB1.out.size))
        clear hd2 hm2 m1 m2 m3 m4
        go_wp2_with fail
        refine (HD2.out.ref (Nat.zero_le _) (fun Z hd => rdrv_mark pn s s' Em M' p' w2x hd HG.out.ok hpl HRR.out)).mono ?_
        rintro e wy ⟨rfl, hd3, hm3⟩
        obtain ⟨mE, pE, sE, HDE, HGE, HCE, HLE, HBE⟩ : ∃ mE pE sE, Hid (TwoD w3.heap.size 0 0 wy d g rd q mE pE sE mE pE sE) ∧ Hid (DGood mE pE) ∧ Hid (mE.cap = cap) ∧ Hid (0 ≤ sE.life ∧ sE.life ≤ ((t + 1 : Nat) : Int)) ∧ Hid (Below w3.heap.size w3 wy) := ⟨_, _, _, Lib.hid hd3, Lib.hid hgd.1, Lib.hid (hgd.2.1.trans HC.out), Lib.hid (by have h0 := HS0.out; have h1 := HS1.out; have h2 := hgd.2.2; omega), Lib.hid (HB2.out.trans (hm3.below (fun b T h => h.1) HB2.out.size))⟩
        clear hd3 hm3 HD2 HB2 hgd HRR
        go_wp2_with fail
        clear HD1 HD HG HC HS0 HS1 HBv HLr Tr
        -- a round's end: world wy, HDE (TwoD with mE pE sE), HGE, HCE, HLE (life), HBE (Below)
        obtain ⟨KT, hKT⟩ := HDE.out.realP
        refine (drv_mediumP wy hKT (Nat.le_trans HGE.out.len (by decide)) HGE.out.short).mono ?_
        rintro e wz ⟨aX, cX, csX, kX, rfl, hMX, hcX, hbX⟩
        obtain ⟨hTX, hSX⟩ := TapeO.new mE.cap rfl hMX hcX
        have hzX := heap_alloc_new wz (.cells #[.int .i64 0, .slice none 0 0] 24)
        have hbyX := bthen hbX hSX (Nat.le_refl _)
        go_wp2_with (refine wpList_store_row rfl rfl 24 (.tmp 18) (.tmp 189) rfl wz.heap.size rfl 24 #[.int .i64 0, .slice none 0 0] #[.int .i64 mE.cap, .slice aX kX cX] rfl hzX rfl (by kernel_rfl) (by simp [Value.oneCell']) ?_)
        clear hzX hMX hbX hSX hKT
        generalize (wz.alloc (.cells #[.int .i64 0, .slice none 0 0] 24)).setRow wz.heap.size #[.int .i64 mE.cap, .slice aX kX cX] = wX at *
        generalize wz.heap.size = GX at *
        have HTX := Lib.hid hTX
        have HYX := Lib.hid hbyX
        have HDX := Lib.hid (HDE.out.ext hbyX)
        have HTm := Lib.hid (T.out.ext (bthen HBE.out hbyX (Nat.le_refl _)))
        clear hTX hbyX
        obtain ⟨x0, x1⟩ := HTX.out.box.cells
        have hlX := heap_lt HTX.out.box
        obtain ⟨t0, _⟩ := HTm.out.box.cells
        have hlT := heap_lt HTm.out.box
        dsimp only at t0
        obtain ⟨Z, ⟨aR, kR, cR, csR, hR, _⟩, _⟩ := HDX.out.refP
        obtain ⟨r0, r1, r2, r3⟩ := hR.cells
        have hlR := heap_lt hR.obj
        have HR := Lib.hid hR
        have hwl : IntKind.i64.wrap (cap - pE) = cap - pE := by
          have := HGE.out.at0
          rw [HCE.out] at this
          rw [IntKind.wrap_i64]; omega
        clear hR r0
        refine wp_region_phase (by kernel_rfl) [] (by kernel_rfl) (by kernel_rfl) ?_
        refine stage_last [Sp.eq (.pointer (some ⟨d, 0, none⟩)), Sp.eq (.pointer (some ⟨d, 0, none⟩)), Sp.eq (.pointer (some ⟨d, 0, none⟩)), Sp.eq (.int .i64 pE), Sp.eq (.pointer (some ⟨rd, 0, none⟩)), Sp.eq (.pointer (some ⟨rd, 0, none⟩)), Sp.eq (.pointer (some ⟨rd, 3, none⟩)), Sp.eq (.int .i64 pE), Sp.eq (.bool false), Sp.eq (.bool false), Sp.eq (.pointer (some ⟨d, 0, none⟩)), Sp.eq (.pointer (some ⟨d, 0, none⟩)), Sp.eq (.pointer (some ⟨d, 0, none⟩)), Sp.eq (.int .i64 (cap - pE)), Sp.eq (.pointer (some ⟨w.heap.size, 0, none⟩)), Sp.eq (.int .i64 cap), Sp.eq (.pointer (some ⟨rd, 0, none⟩)), Sp.eq (.pointer (some ⟨rd, 0, none⟩)), Sp.eq (.pointer (some ⟨rd, 3, none⟩)), Sp.eq (.int .i64 pE), Sp.eq (.int .i64 (cap - pE)), Sp.eq (.bool false), Sp.eq (.bool false), Sp.eq (.bool false), Sp.eq (.agg #[.int .i64 mE.cap, .slice aX kX cX]), Sp.eq (.pointer (some ⟨rd, 0, none⟩)), Sp.eq (.pointer (some ⟨rd, 0, none⟩)), Sp.eq (.pointer (some ⟨rd, 1, none⟩)), Sp.eq (.agg #[.int .i64 mE.cap, .slice aR kR cR]), Sp.eq (.bool true), Sp.eq (.bool false), Sp.eq (.bool false)] ?_ ?_
        · refine stepsG_cons ?_ (stepsG_cons ?_ (stepsG_cons ?_ (stepsG_cons ?_ (stepsG_cons ?_ (stepsG_cons ?_ (stepsG_cons ?_ (stepsG_cons ?_ (stepsG_cons ?_ (stepsG_cons ?_ (stepsG_cons ?_ (stepsG_cons ?_ (stepsG_cons ?_ (stepsG_cons ?_ (stepsG_cons ?_ (stepsG_cons ?_ (stepsG_cons ?_ (stepsG_cons ?_ (stepsG_cons ?_ (stepsG_cons ?_ (stepsG_cons ?_ (stepsG_cons ?_ (stepsG_cons ?_ (stepsG_cons ?_ (stepsG_cons ?_ (stepsG_cons ?_ (stepsG_cons ?_ (stepsG_cons ?_ (stepsG_cons ?_ (stepsG_cons ?_ (stepsG_cons ?_ (stepsG_cons ?_ (stepsG_nil))))))))))))))))))))))))))))))))
          · intro ρ w' E
            have e8 : ρ (.tmp 8) = .pointer (some ⟨d, 0, none⟩) := E.out 8 rfl
            refine step_plain rfl ?_
            exact op_move (.inl rfl) e8 ⟨Below.refl _ _, rfl⟩
          · intro ρ w' E
            have e190 : ρ (.tmp 190) = .pointer (some ⟨d, 0, none⟩) := E.pre 0 rfl rfl
            refine step_plain rfl ?_
            refine op_val (v := .pointer (some ⟨d, 0, none⟩)) (w' := w') ?_ ⟨Below.refl _ _, rfl⟩
            have hcon := E.con
            clear E
            go_simp
          · intro ρ w' E
            have e191 : ρ (.tmp 191) = .pointer (some ⟨d, 0, none⟩) := E.pre 1 rfl rfl
            refine step_plain rfl ?_
            refine op_val (v := .pointer (some ⟨d, 0, none⟩)) (w' := w') ?_ ⟨Below.refl _ _, rfl⟩
            have hcon := E.con
            clear E
            go_simp
          · intro ρ w' E
            have e192 : ρ (.tmp 192) = .pointer (some ⟨d, 0, none⟩) := E.pre 2 rfl rfl
            refine step_plain rfl ?_
            refine op_call (f := 38) (args := #[.pointer (some ⟨d, 0, none⟩)]) (w' := w') (by have hcon := E.con; have hfn := E.fn; clear E; go_simp) ?_
            obtain ⟨KD, hKD⟩ := (HDX.out.ext E.below).realP
            refine (drv_placeP w' hKD).mono ?_
            rintro e w2 ⟨rfl, rfl⟩
            exact ⟨_, rfl, Below.refl _ _, rfl⟩
          · intro ρ w' E
            have e10 : ρ (.tmp 10) = .pointer (some ⟨rd, 0, none⟩) := E.out 10 rfl
            refine step_plain rfl ?_
            exact op_move (.inl rfl) e10 ⟨Below.refl _ _, rfl⟩
          · intro ρ w' E
            have e194 : ρ (.tmp 194) = .pointer (some ⟨rd, 0, none⟩) := E.pre 4 rfl rfl
            refine step_plain rfl ?_
            refine op_val (v := .pointer (some ⟨rd, 0, none⟩)) (w' := w') ?_ ⟨Below.refl _ _, rfl⟩
            have hcon := E.con
            clear E
            go_simp
          · intro ρ w' E
            have e195 : ρ (.tmp 195) = .pointer (some ⟨rd, 0, none⟩) := E.pre 5 rfl rfl
            refine step_plain rfl ?_
            refine op_val (v := .pointer (some ⟨rd, 3, none⟩)) (w' := w') ?_ ⟨Below.refl _ _, rfl⟩
            have hcon := E.con
            clear E
            go_simp
          · intro ρ w' E
            have e196 : ρ (.tmp 196) = .pointer (some ⟨rd, 3, none⟩) := E.pre 6 rfl rfl
            refine step_plain rfl ?_
            refine op_val (v := .int .i64 pE) (w' := w') ?_ ⟨Below.refl _ _, rfl⟩
            have k3 := (World.cell?_of_block (w := wX) (E.below.block _ hlR)).trans r3
            have hcon := E.con
            clear E r1 r2 r3
            go_simp
          · intro ρ w' E
            have e193 : ρ (.tmp 193) = .int .i64 pE := E.pre 3 rfl rfl
            have e197 : ρ (.tmp 197) = .int .i64 pE := E.pre 7 rfl rfl
            refine step_plain rfl ?_
            refine op_val (v := .bool false) (w' := w') ?_ ⟨Below.refl _ _, rfl⟩
            have hcon := E.con
            clear E
            go_simp
          · intro ρ w' E
            have e198 : ρ (.tmp 198) = .bool false := E.pre 8 rfl rfl
            refine step_plain rfl ?_
            exact op_move (.inl rfl) e198 ⟨Below.refl _ _, rfl⟩
          · intro ρ w' E
            have e8 : ρ (.tmp 8) = .pointer (some ⟨d, 0, none⟩) := E.out 8 rfl
            refine step_yes rfl (E.pre 9 rfl rfl) ?_
            exact op_move (.inl rfl) e8 ⟨Below.refl _ _, rfl⟩
          · intro ρ w' E
            have e200 : ρ (.tmp 200) = .pointer (some ⟨d, 0, none⟩) := E.pre 10 rfl rfl
            refine step_yes rfl (E.pre 9 rfl rfl) ?_
            refine op_val (v := .pointer (some ⟨d, 0, none⟩)) (w' := w') ?_ ⟨Below.refl _ _, rfl⟩
            have hcon := E.con
            clear E
            go_simp
          · intro ρ w' E
            have e201 : ρ (.tmp 201) = .pointer (some ⟨d, 0, none⟩) := E.pre 11 rfl rfl
            refine step_yes rfl (E.pre 9 rfl rfl) ?_
            refine op_val (v := .pointer (some ⟨d, 0, none⟩)) (w' := w') ?_ ⟨Below.refl _ _, rfl⟩
            have hcon := E.con
            clear E
            go_simp
          · intro ρ w' E
            have e202 : ρ (.tmp 202) = .pointer (some ⟨d, 0, none⟩) := E.pre 12 rfl rfl
            refine step_yes rfl (E.pre 9 rfl rfl) ?_
            refine op_call (f := 39) (args := #[.pointer (some ⟨d, 0, none⟩)]) (w' := w') (by have hcon := E.con; have hfn := E.fn; clear E; go_simp) ?_
            obtain ⟨KD, hKD⟩ := (HDX.out.ext E.below).realP
            refine (drv_leftP (cap - pE) w' hKD (by rw [HCE.out]) (by have := HGE.out.at0; rw [HCE.out] at this; omega) (by have := HGE.out.at0; rw [HCE.out] at this; omega)).mono ?_
            rintro e w2 ⟨rfl, hb⟩
            exact ⟨_, rfl, hb, rfl⟩
          · intro ρ w' E
            have e2 : ρ (.tmp 2) = .pointer (some ⟨w.heap.size, 0, none⟩) := E.out 2 rfl
            refine step_yes rfl (E.pre 9 rfl rfl) ?_
            refine op_val (v := .pointer (some ⟨w.heap.size, 0, none⟩)) (w' := w') ?_ ⟨Below.refl _ _, rfl⟩
            have hcon := E.con
            clear E
            go_simp
          · intro ρ w' E
            have e204 : ρ (.tmp 204) = .pointer (some ⟨w.heap.size, 0, none⟩) := E.pre 14 rfl rfl
            refine step_yes rfl (E.pre 9 rfl rfl) ?_
            refine op_val (v := .int .i64 cap) (w' := w') ?_ ⟨Below.refl _ _, rfl⟩
            have k0 := (World.cell?_of_block (w := wX) (E.below.block _ hlT)).trans t0
            have hcon := E.con
            clear E r1 r2 r3
            go_simp
          · intro ρ w' E
            have e10 : ρ (.tmp 10) = .pointer (some ⟨rd, 0, none⟩) := E.out 10 rfl
            refine step_yes rfl (E.pre 9 rfl rfl) ?_
            exact op_move (.inl rfl) e10 ⟨Below.refl _ _, rfl⟩
          · intro ρ w' E
            have e206 : ρ (.tmp 206) = .pointer (some ⟨rd, 0, none⟩) := E.pre 16 rfl rfl
            refine step_yes rfl (E.pre 9 rfl rfl) ?_
            refine op_val (v := .pointer (some ⟨rd, 0, none⟩)) (w' := w') ?_ ⟨Below.refl _ _, rfl⟩
            have hcon := E.con
            clear E
            go_simp
          · intro ρ w' E
            have e207 : ρ (.tmp 207) = .pointer (some ⟨rd, 0, none⟩) := E.pre 17 rfl rfl
            refine step_yes rfl (E.pre 9 rfl rfl) ?_
            refine op_val (v := .pointer (some ⟨rd, 3, none⟩)) (w' := w') ?_ ⟨Below.refl _ _, rfl⟩
            have hcon := E.con
            clear E
            go_simp
          · intro ρ w' E
            have e208 : ρ (.tmp 208) = .pointer (some ⟨rd, 3, none⟩) := E.pre 18 rfl rfl
            refine step_yes rfl (E.pre 9 rfl rfl) ?_
            refine op_val (v := .int .i64 pE) (w' := w') ?_ ⟨Below.refl _ _, rfl⟩
            have k3 := (World.cell?_of_block (w := wX) (E.below.block _ hlR)).trans r3
            have hcon := E.con
            clear E r1 r2 r3
            go_simp
          · intro ρ w' E
            have e205 : ρ (.tmp 205) = .int .i64 cap := E.pre 15 rfl rfl
            have e209 : ρ (.tmp 209) = .int .i64 pE := E.pre 19 rfl rfl
            refine step_yes rfl (E.pre 9 rfl rfl) ?_
            refine op_val (v := .int .i64 (cap - pE)) (w' := w') ?_ ⟨Below.refl _ _, rfl⟩
            have hw := hwl
            have hcon := E.con
            clear E
            go_simp
          · intro ρ w' E
            have e203 : ρ (.tmp 203) = .int .i64 (cap - pE) := E.pre 13 rfl rfl
            have e210 : ρ (.tmp 210) = .int .i64 (cap - pE) := E.pre 20 rfl rfl
            refine step_yes rfl (E.pre 9 rfl rfl) ?_
            refine op_val (v := .bool false) (w' := w') ?_ ⟨Below.refl _ _, rfl⟩
            have hcon := E.con
            clear E
            go_simp
          · intro ρ w' E
            have e199 : ρ (.tmp 199) = .bool false := E.pre 9 rfl rfl
            have e211 : ρ (.tmp 211) = .bool false := E.pre 21 rfl rfl
            refine step_plain rfl ?_
            exact op_pick (b := false) rfl e199 rfl ⟨Below.refl _ _, e211⟩
          · intro ρ w' E
            have e212 : ρ (.tmp 212) = .bool false := E.pre 22 rfl rfl
            refine step_plain rfl ?_
            exact op_move (.inl rfl) e212 ⟨Below.refl _ _, rfl⟩
          · intro ρ w' E
            have e18 : ρ (.tmp 18) = .pointer (some ⟨GX, 0, none⟩) := E.out 18 rfl
            refine step_yes rfl (E.pre 23 rfl rfl) ?_
            refine op_val (v := .agg #[.int .i64 mE.cap, .slice aX kX cX]) (w' := w') ?_ ⟨Below.refl _ _, rfl⟩
            have k1 := (World.cell?_of_block (w := wX) (E.below.block _ hlX)).trans x0
            have k2 := (World.cell?_of_block (w := wX) (E.below.block _ hlX)).trans x1
            have hcon := E.con
            clear E x0 x1 r1 r2 r3
            go_simp
          · intro ρ w' E
            have e10 : ρ (.tmp 10) = .pointer (some ⟨rd, 0, none⟩) := E.out 10 rfl
            refine step_yes rfl (E.pre 23 rfl rfl) ?_
            exact op_move (.inl rfl) e10 ⟨Below.refl _ _, rfl⟩
          · intro ρ w' E
            have e215 : ρ (.tmp 215) = .pointer (some ⟨rd, 0, none⟩) := E.pre 25 rfl rfl
            refine step_yes rfl (E.pre 23 rfl rfl) ?_
            refine op_val (v := .pointer (some ⟨rd, 0, none⟩)) (w' := w') ?_ ⟨Below.refl _ _, rfl⟩
            have hcon := E.con
            clear E
            go_simp
          · intro ρ w' E
            have e216 : ρ (.tmp 216) = .pointer (some ⟨rd, 0, none⟩) := E.pre 26 rfl rfl
            refine step_yes rfl (E.pre 23 rfl rfl) ?_
            refine op_val (v := .pointer (some ⟨rd, 1, none⟩)) (w' := w') ?_ ⟨Below.refl _ _, rfl⟩
            have hcon := E.con
            clear E
            go_simp
          · intro ρ w' E
            have e217 : ρ (.tmp 217) = .pointer (some ⟨rd, 1, none⟩) := E.pre 27 rfl rfl
            refine step_yes rfl (E.pre 23 rfl rfl) ?_
            refine op_val (v := .agg #[.int .i64 mE.cap, .slice aR kR cR]) (w' := w') ?_ ⟨Below.refl _ _, rfl⟩
            have k1 := (World.cell?_of_block (w := wX) (E.below.block _ hlR)).trans r1
            have k2 := (World.cell?_of_block (w := wX) (E.below.block _ hlR)).trans r2
            have hcon := E.con
            clear E r1 r2 r3
            go_simp
          · intro ρ w' E
            have e214 : ρ (.tmp 214) = .agg #[.int .i64 mE.cap, .slice aX kX cX] := E.pre 24 rfl rfl
            have e218 : ρ (.tmp 218) = .agg #[.int .i64 mE.cap, .slice aR kR cR] := E.pre 28 rfl rfl
            refine step_yes rfl (E.pre 23 rfl rfl) ?_
            refine op_call (f := 40) (args := #[.agg #[.int .i64 mE.cap, .slice aX kX cX], .agg #[.int .i64 mE.cap, .slice aR kR cR]]) (w' := w') (by have hcon := E.con; have hfn := E.fn; clear E; go_simp) ?_
            refine (keepmed_any mE.cap mE.cap aX aR cX kX cR kR csX csR true w' (HTX.out.r.ext E.below).mat (HR.out.r.ext E.below).mat HTX.out.r.len.symm HR.out.r.len.symm HTX.out.r.len63 HR.out.r.len63 (by rw [HTX.out.r.pls, HR.out.r.pls]; simp)).mono ?_
            rintro e w2 ⟨rfl, hb⟩
            exact ⟨_, rfl, hb, rfl⟩
          · intro ρ w' E
            have e219 : ρ (.tmp 219) = .bool true := E.pre 29 rfl rfl
            refine step_yes rfl (E.pre 23 rfl rfl) ?_
            refine op_val (v := .bool false) (w' := w') ?_ ⟨Below.refl _ _, rfl⟩
            have hcon := E.con
            clear E
            go_simp
          · intro ρ w' E
            have e213 : ρ (.tmp 213) = .bool false := E.pre 23 rfl rfl
            have e220 : ρ (.tmp 220) = .bool false := E.pre 30 rfl rfl
            refine step_plain rfl ?_
            exact op_pick (b := false) rfl e213 rfl ⟨Below.refl _ _, e220⟩
        · intro σF wF GF OF HF
          have s221 : σF 221 = .bool false := HF 31 rfl rfl
          clear OF HF
          simp only [upd, updL, dstsOf', elemB, List.filterMap_cons, List.filterMap_nil, Nat.reduceAdd, Nat.reduceBEq, Bool.or_false, Bool.or_true, cond_true, cond_false, Nat.zero_add, s221]
          have HTF := Lib.hid (HTX.out.ext GF)
          have HYF := Lib.hid (bthen HYX.out GF (Nat.le_refl _))
          clear GF x0 x1 r1 r2 r3 t0 s221 HTX HYX HDX HTm HR
          obtain ⟨x0, x1⟩ := HTF.out.box.cells
          go_wp2_with fail
          refine (spoilmed_any wy.heap.size wF.heap.size mE.cap aX cX kX csX wF HTF.out.r.own HTF.out.r.len.symm (by have := HTF.out.r.size; have := HGE.out.len; omega) (HTF.out.r.short HGE.out.short) HYF.out.size (fun x hx hn0 => HTF.out.r.own.row.bnd x hx (.inl (by rw [HTF.out.r.len]; exact hn0))) (fun y hy hy0 x hx => (HTF.out.r.own.dat y hy).bnd x hx (.inl (by rw [Ne, List.length_eq_zero_iff]; exact hy0)))).mono ?_
          rintro e wG ⟨rfl, hbG, -⟩
          have HGF := Lib.hid (HYF.out.trans hbG)
          clear hbG x0 x1
          go_wp2_with fail
          go_roundw
          case rel => exact ⟨t + 1, mE, pE, sE, _, rfl, by omega, by omega, by go_num, HDE.out.ext HGF.out, HGE.out, HCE.out, HLE.out.1, HLE.out.2, bthen HBE.out HGF.out (Nat.le_refl _)⟩
          case measure => simp [intOf]; omega
      by_cases hz5 : z = 5
      · have e3 : ((z : Int) == 3) = false := by simp; omega
        have e4 : ((z : Int) == 4) = false := by simp; omega
        have e5 : ((z : Int) == 5) = true := by simp; omega
        have hput := setRow_heap (wr.alloc (.cells #[.int .i64 0, .int .i64 0, .int .i64 0, .slice none 0 0, .int .i64 0] 44)) wr.heap.size _ #[.int .i64 x.what, .int .i64 x.n, .int .i64 x.m, .slice x.b.a x.b.l.length x.b.c, .int .i64 x.torn] _ _ (heap_alloc_new wr _)
        have hbp : Below wr.heap.size wr ((wr.alloc (.cells #[.int .i64 0, .int .i64 0, .int .i64 0, .slice none 0 0, .int .i64 0] 44)).setRow wr.heap.size #[.int .i64 x.what, .int .i64 x.n, .int .i64 x.m, .slice x.b.a x.b.l.length x.b.c, .int .i64 x.torn]) := bsetRow (ext_alloc wr _) (Nat.le_refl _) _
        have m0 := cell_of_row _ _ 0 _ _ _ hput
        have m1 := cell_of_row _ _ 1 _ _ _ hput
        have m2 := cell_of_row _ _ 2 _ _ _ hput
        have m3 := cell_of_row _ _ 3 _ _ _ hput
        have m4 := cell_of_row _ _ 4 _ _ _ hput
        go_wp2_with (first
          | (refine wpList_store_row rfl rfl 44 (.tmp 12) (.tmp 77) rfl wr.heap.size rfl 44 #[.int .i64 0, .int .i64 0, .int .i64 0, .slice none 0 0, .int .i64 0] #[.int .i64 x.what, .int .i64 x.n, .int .i64 x.m, .slice x.b.a x.b.l.length x.b.c, .int .i64 x.torn] rfl (heap_alloc_new wr _) rfl (by kernel_rfl) (by intro v hv; simp at hv; rcases hv with rfl | rfl | rfl | rfl | rfl <;> rfl) ?_))
        generalize hws : World.setRow _ _ _ = w1 at *
        have HD1 := Lib.hid (HD.out.ext hbp)
        have HB1 := Lib.hid (bthen HBv.out hbp (Nat.le_refl _))
        have Hok1 := Lib.hid (show A5ok w1 x from ⟨Hok5.out.1.ext hbp, Hok5.out.2⟩)
        clear hws hbp c0 c1 c2 c3 c4 m0
        generalize wr.heap.size = GA at *
        obtain ⟨pn, rfl, hpl⟩ := HG.out.pos
        obtain ⟨⟨Em, s', M', p'⟩, hrr⟩ : ∃ y, y = dvMark s M pn := ⟨_, rfl⟩
        have hgd := dvMark_good HG.out.ok hpl hrr.symm
        have HRR := Lib.hid hrr.symm
        clear hrr
        refine (HD1.out.real (Nat.zero_le _) (fun K hd hu => drv_mark pn s s' Em M' p' w1 hd hu hpl HG.out.len HRR.out)).mono ?_
        rintro e w2x ⟨rfl, hd2, hm2⟩
        have HD2 := Lib.hid hd2
        have HB2 := Lib.hid (HB1.out.trans (hm2.below (fun b T h => h.1) HB1.out.size))
        clear hd2 hm2 m1 m2 m3 m4
        go_wp2_with fail
        refine (HD2.out.ref (Nat.zero_le _) (fun Z hd => rdrv_mark pn s s' Em M' p' w2x hd HG.out.ok hpl HRR.out)).mono ?_
        rintro e wy ⟨rfl, hd3, hm3⟩
        obtain ⟨mE, pE, sE, HDE, HGE, HCE, HLE, HBE⟩ : ∃ mE pE sE, Hid (TwoD w3.heap.size 0 0 wy d g rd q mE pE sE mE pE sE) ∧ Hid (DGood mE pE) ∧ Hid (mE.cap = cap) ∧ Hid (0 ≤ sE.life ∧ sE.life ≤ ((t + 1 : Nat) : Int)) ∧ Hid (Below w3.heap.size w3 wy) := ⟨_, _, _, Lib.hid hd3, Lib.hid hgd.1, Lib.hid (hgd.2.1.trans HC.out), Lib.hid (by have h0 := HS0.out; have h1 := HS1.out; have h2 := hgd.2.2; omega), Lib.hid (HB2.out.trans (hm3.below (fun b T h => h.1) HB2.out.size))⟩
        clear hd3 hm3 HD2 HB2 hgd HRR
        go_wp2_with fail
        clear HD1 HD HG HC HS0 HS1 HBv HLr Tr
        -- a round's end: world wy, HDE (TwoD with mE pE sE), HGE, HCE, HLE (life), HBE (Below)
        obtain ⟨KT, hKT⟩ := HDE.out.realP
        refine (drv_mediumP wy hKT (Nat.le_trans HGE.out.len (by decide)) HGE.out.short).mono ?_
        rintro e wz ⟨aX, cX, csX, kX, rfl, hMX, hcX, hbX⟩
        obtain ⟨hTX, hSX⟩ := TapeO.new mE.cap rfl hMX hcX
        have hzX := heap_alloc_new wz (.cells #[.int .i64 0, .slice none 0 0] 24)
        have hbyX := bthen hbX hSX (Nat.le_refl _)
        go_wp2_with (refine wpList_store_row rfl rfl 24 (.tmp 18) (.tmp 189) rfl wz.heap.size rfl 24 #[.int .i64 0, .slice none 0 0] #[.int .i64 mE.cap, .slice aX kX cX] rfl hzX rfl (by kernel_rfl) (by simp [Value.oneCell']) ?_)
        clear hzX hMX hbX hSX hKT
        generalize (wz.alloc (.cells #[.int .i64 0, .slice none 0 0] 24)).setRow wz.heap.size #[.int .i64 mE.cap, .slice aX kX cX] = wX at *
        generalize wz.heap.size = GX at *
        have HTX := Lib.hid hTX
        have HYX := Lib.hid hbyX
        have HDX := Lib.hid (HDE.out.ext hbyX)
        have HTm := Lib.hid (T.out.ext (bthen HBE.out hbyX (Nat.le_refl _)))
        clear hTX hbyX
        obtain ⟨x0, x1⟩ := HTX.out.box.cells
        have hlX := heap_lt HTX.out.box
        obtain ⟨t0, _⟩ := HTm.out.box.cells
        have hlT := heap_lt HTm.out.box
        dsimp only at t0
        obtain ⟨Z, ⟨aR, kR, cR, csR, hR, _⟩, _⟩ := HDX.out.refP
        obtain ⟨r0, r1, r2, r3⟩ := hR.cells
        have hlR := heap_lt hR.obj
        have HR := Lib.hid hR
        have hwl : IntKind.i64.wrap (cap - pE) = cap - pE := by
          have := HGE.out.at0
          rw [HCE.out] at this
          rw [IntKind.wrap_i64]; omega
        clear hR r0
        refine wp_region_phase (by kernel_rfl) [] (by kernel_rfl) (by kernel_rfl) ?_
        refine stage_last [Sp.eq (.pointer (some ⟨d, 0, none⟩)), Sp.eq (.pointer (some ⟨d, 0, none⟩)), Sp.eq (.pointer (some ⟨d, 0, none⟩)), Sp.eq (.int .i64 pE), Sp.eq (.pointer (some ⟨rd, 0, none⟩)), Sp.eq (.pointer (some ⟨rd, 0, none⟩)), Sp.eq (.pointer (some ⟨rd, 3, none⟩)), Sp.eq (.int .i64 pE), Sp.eq (.bool false), Sp.eq (.bool false), Sp.eq (.pointer (some ⟨d, 0, none⟩)), Sp.eq (.pointer (some ⟨d, 0, none⟩)), Sp.eq (.pointer (some ⟨d, 0, none⟩)), Sp.eq (.int .i64 (cap - pE)), Sp.eq (.pointer (some ⟨w.heap.size, 0, none⟩)), Sp.eq (.int .i64 cap), Sp.eq (.pointer (some ⟨rd, 0, none⟩)), Sp.eq (.pointer (some ⟨rd, 0, none⟩)), Sp.eq (.pointer (some ⟨rd, 3, none⟩)), Sp.eq (.int .i64 pE), Sp.eq (.int .i64 (cap - pE)), Sp.eq (.bool false), Sp.eq (.bool false), Sp.eq (.bool false), Sp.eq (.agg #[.int .i64 mE.cap, .slice aX kX cX]), Sp.eq (.pointer (some ⟨rd, 0, none⟩)), Sp.eq (.pointer (some ⟨rd, 0, none⟩)), Sp.eq (.pointer (some ⟨rd, 1, none⟩)), Sp.eq (.agg #[.int .i64 mE.cap, .slice aR kR cR]), Sp.eq (.bool true), Sp.eq (.bool false), Sp.eq (.bool false)] ?_ ?_
        · refine stepsG_cons ?_ (stepsG_cons ?_ (stepsG_cons ?_ (stepsG_cons ?_ (stepsG_cons ?_ (stepsG_cons ?_ (stepsG_cons ?_ (stepsG_cons ?_ (stepsG_cons ?_ (stepsG_cons ?_ (stepsG_cons ?_ (stepsG_cons ?_ (stepsG_cons ?_ (stepsG_cons ?_ (stepsG_cons ?_ (stepsG_cons ?_ (stepsG_cons ?_ (stepsG_cons ?_ (stepsG_cons ?_ (stepsG_cons ?_ (stepsG_cons ?_ (stepsG_cons ?_ (stepsG_cons ?_ (stepsG_cons ?_ (stepsG_cons ?_ (stepsG_cons ?_ (stepsG_cons ?_ (stepsG_cons ?_ (stepsG_cons ?_ (stepsG_cons ?_ (stepsG_cons ?_ (stepsG_cons ?_ (stepsG_nil))))))))))))))))))))))))))))))))
          · intro ρ w' E
            have e8 : ρ (.tmp 8) = .pointer (some ⟨d, 0, none⟩) := E.out 8 rfl
            refine step_plain rfl ?_
            exact op_move (.inl rfl) e8 ⟨Below.refl _ _, rfl⟩
          · intro ρ w' E
            have e190 : ρ (.tmp 190) = .pointer (some ⟨d, 0, none⟩) := E.pre 0 rfl rfl
            refine step_plain rfl ?_
            refine op_val (v := .pointer (some ⟨d, 0, none⟩)) (w' := w') ?_ ⟨Below.refl _ _, rfl⟩
            have hcon := E.con
            clear E
            go_simp
          · intro ρ w' E
            have e191 : ρ (.tmp 191) = .pointer (some ⟨d, 0, none⟩) := E.pre 1 rfl rfl
            refine step_plain rfl ?_
            refine op_val (v := .pointer (some ⟨d, 0, none⟩)) (w' := w') ?_ ⟨Below.refl _ _, rfl⟩
            have hcon := E.con
            clear E
            go_simp
          · intro ρ w' E
            have e192 : ρ (.tmp 192) = .pointer (some ⟨d, 0, none⟩) := E.pre 2 rfl rfl
            refine step_plain rfl ?_
            refine op_call (f := 38) (args := #[.pointer (some ⟨d, 0, none⟩)]) (w' := w') (by have hcon := E.con; have hfn := E.fn; clear E; go_simp) ?_
            obtain ⟨KD, hKD⟩ := (HDX.out.ext E.below).realP
            refine (drv_placeP w' hKD).mono ?_
            rintro e w2 ⟨rfl, rfl⟩
            exact ⟨_, rfl, Below.refl _ _, rfl⟩
          · intro ρ w' E
            have e10 : ρ (.tmp 10) = .pointer (some ⟨rd, 0, none⟩) := E.out 10 rfl
            refine step_plain rfl ?_
            exact op_move (.inl rfl) e10 ⟨Below.refl _ _, rfl⟩
          · intro ρ w' E
            have e194 : ρ (.tmp 194) = .pointer (some ⟨rd, 0, none⟩) := E.pre 4 rfl rfl
            refine step_plain rfl ?_
            refine op_val (v := .pointer (some ⟨rd, 0, none⟩)) (w' := w') ?_ ⟨Below.refl _ _, rfl⟩
            have hcon := E.con
            clear E
            go_simp
          · intro ρ w' E
            have e195 : ρ (.tmp 195) = .pointer (some ⟨rd, 0, none⟩) := E.pre 5 rfl rfl
            refine step_plain rfl ?_
            refine op_val (v := .pointer (some ⟨rd, 3, none⟩)) (w' := w') ?_ ⟨Below.refl _ _, rfl⟩
            have hcon := E.con
            clear E
            go_simp
          · intro ρ w' E
            have e196 : ρ (.tmp 196) = .pointer (some ⟨rd, 3, none⟩) := E.pre 6 rfl rfl
            refine step_plain rfl ?_
            refine op_val (v := .int .i64 pE) (w' := w') ?_ ⟨Below.refl _ _, rfl⟩
            have k3 := (World.cell?_of_block (w := wX) (E.below.block _ hlR)).trans r3
            have hcon := E.con
            clear E r1 r2 r3
            go_simp
          · intro ρ w' E
            have e193 : ρ (.tmp 193) = .int .i64 pE := E.pre 3 rfl rfl
            have e197 : ρ (.tmp 197) = .int .i64 pE := E.pre 7 rfl rfl
            refine step_plain rfl ?_
            refine op_val (v := .bool false) (w' := w') ?_ ⟨Below.refl _ _, rfl⟩
            have hcon := E.con
            clear E
            go_simp
          · intro ρ w' E
            have e198 : ρ (.tmp 198) = .bool false := E.pre 8 rfl rfl
            refine step_plain rfl ?_
            exact op_move (.inl rfl) e198 ⟨Below.refl _ _, rfl⟩
          · intro ρ w' E
            have e8 : ρ (.tmp 8) = .pointer (some ⟨d, 0, none⟩) := E.out 8 rfl
            refine step_yes rfl (E.pre 9 rfl rfl) ?_
            exact op_move (.inl rfl) e8 ⟨Below.refl _ _, rfl⟩
          · intro ρ w' E
            have e200 : ρ (.tmp 200) = .pointer (some ⟨d, 0, none⟩) := E.pre 10 rfl rfl
            refine step_yes rfl (E.pre 9 rfl rfl) ?_
            refine op_val (v := .pointer (some ⟨d, 0, none⟩)) (w' := w') ?_ ⟨Below.refl _ _, rfl⟩
            have hcon := E.con
            clear E
            go_simp
          · intro ρ w' E
            have e201 : ρ (.tmp 201) = .pointer (some ⟨d, 0, none⟩) := E.pre 11 rfl rfl
            refine step_yes rfl (E.pre 9 rfl rfl) ?_
            refine op_val (v := .pointer (some ⟨d, 0, none⟩)) (w' := w') ?_ ⟨Below.refl _ _, rfl⟩
            have hcon := E.con
            clear E
            go_simp
          · intro ρ w' E
            have e202 : ρ (.tmp 202) = .pointer (some ⟨d, 0, none⟩) := E.pre 12 rfl rfl
            refine step_yes rfl (E.pre 9 rfl rfl) ?_
            refine op_call (f := 39) (args := #[.pointer (some ⟨d, 0, none⟩)]) (w' := w') (by have hcon := E.con; have hfn := E.fn; clear E; go_simp) ?_
            obtain ⟨KD, hKD⟩ := (HDX.out.ext E.below).realP
            refine (drv_leftP (cap - pE) w' hKD (by rw [HCE.out]) (by have := HGE.out.at0; rw [HCE.out] at this; omega) (by have := HGE.out.at0; rw [HCE.out] at this; omega)).mono ?_
            rintro e w2 ⟨rfl, hb⟩
            exact ⟨_, rfl, hb, rfl⟩
          · intro ρ w' E
            have e2 : ρ (.tmp 2) = .pointer (some ⟨w.heap.size, 0, none⟩) := E.out 2 rfl
            refine step_yes rfl (E.pre 9 rfl rfl) ?_
            refine op_val (v := .pointer (some ⟨w.heap.size, 0, none⟩)) (w' := w') ?_ ⟨Below.refl _ _, rfl⟩
            have hcon := E.con
            clear E
            go_simp
          · intro ρ w' E
            have e204 : ρ (.tmp 204) = .pointer (some ⟨w.heap.size, 0, none⟩) := E.pre 14 rfl rfl
            refine step_yes rfl (E.pre 9 rfl rfl) ?_
            refine op_val (v := .int .i64 cap) (w' := w') ?_ ⟨Below.refl _ _, rfl⟩
            have k0 := (World.cell?_of_block (w := wX) (E.below.block _ hlT)).trans t0
            have hcon := E.con
            clear E r1 r2 r3
            go_simp
          · intro ρ w' E
            have e10 : ρ (.tmp 10) = .pointer (some ⟨rd, 0, none⟩) := E.out 10 rfl
            refine step_yes rfl (E.pre 9 rfl rfl) ?_
            exact op_move (.inl rfl) e10 ⟨Below.refl _ _, rfl⟩
          · intro ρ w' E
            have e206 : ρ (.tmp 206) = .pointer (some ⟨rd, 0, none⟩) := E.pre 16 rfl rfl
            refine step_yes rfl (E.pre 9 rfl rfl) ?_
            refine op_val (v := .pointer (some ⟨rd, 0, none⟩)) (w' := w') ?_ ⟨Below.refl _ _, rfl⟩
            have hcon := E.con
            clear E
            go_simp
          · intro ρ w' E
            have e207 : ρ (.tmp 207) = .pointer (some ⟨rd, 0, none⟩) := E.pre 17 rfl rfl
            refine step_yes rfl (E.pre 9 rfl rfl) ?_
            refine op_val (v := .pointer (some ⟨rd, 3, none⟩)) (w' := w') ?_ ⟨Below.refl _ _, rfl⟩
            have hcon := E.con
            clear E
            go_simp
          · intro ρ w' E
            have e208 : ρ (.tmp 208) = .pointer (some ⟨rd, 3, none⟩) := E.pre 18 rfl rfl
            refine step_yes rfl (E.pre 9 rfl rfl) ?_
            refine op_val (v := .int .i64 pE) (w' := w') ?_ ⟨Below.refl _ _, rfl⟩
            have k3 := (World.cell?_of_block (w := wX) (E.below.block _ hlR)).trans r3
            have hcon := E.con
            clear E r1 r2 r3
            go_simp
          · intro ρ w' E
            have e205 : ρ (.tmp 205) = .int .i64 cap := E.pre 15 rfl rfl
            have e209 : ρ (.tmp 209) = .int .i64 pE := E.pre 19 rfl rfl
            refine step_yes rfl (E.pre 9 rfl rfl) ?_
            refine op_val (v := .int .i64 (cap - pE)) (w' := w') ?_ ⟨Below.refl _ _, rfl⟩
            have hw := hwl
            have hcon := E.con
            clear E
            go_simp
          · intro ρ w' E
            have e203 : ρ (.tmp 203) = .int .i64 (cap - pE) := E.pre 13 rfl rfl
            have e210 : ρ (.tmp 210) = .int .i64 (cap - pE) := E.pre 20 rfl rfl
            refine step_yes rfl (E.pre 9 rfl rfl) ?_
            refine op_val (v := .bool false) (w' := w') ?_ ⟨Below.refl _ _, rfl⟩
            have hcon := E.con
            clear E
            go_simp
          · intro ρ w' E
            have e199 : ρ (.tmp 199) = .bool false := E.pre 9 rfl rfl
            have e211 : ρ (.tmp 211) = .bool false := E.pre 21 rfl rfl
            refine step_plain rfl ?_
            exact op_pick (b := false) rfl e199 rfl ⟨Below.refl _ _, e211⟩
          · intro ρ w' E
            have e212 : ρ (.tmp 212) = .bool false := E.pre 22 rfl rfl
            refine step_plain rfl ?_
            exact op_move (.inl rfl) e212 ⟨Below.refl _ _, rfl⟩
          · intro ρ w' E
            have e18 : ρ (.tmp 18) = .pointer (some ⟨GX, 0, none⟩) := E.out 18 rfl
            refine step_yes rfl (E.pre 23 rfl rfl) ?_
            refine op_val (v := .agg #[.int .i64 mE.cap, .slice aX kX cX]) (w' := w') ?_ ⟨Below.refl _ _, rfl⟩
            have k1 := (World.cell?_of_block (w := wX) (E.below.block _ hlX)).trans x0
            have k2 := (World.cell?_of_block (w := wX) (E.below.block _ hlX)).trans x1
            have hcon := E.con
            clear E x0 x1 r1 r2 r3
            go_simp
          · intro ρ w' E
            have e10 : ρ (.tmp 10) = .pointer (some ⟨rd, 0, none⟩) := E.out 10 rfl
            refine step_yes rfl (E.pre 23 rfl rfl) ?_
            exact op_move (.inl rfl) e10 ⟨Below.refl _ _, rfl⟩
          · intro ρ w' E
            have e215 : ρ (.tmp 215) = .pointer (some ⟨rd, 0, none⟩) := E.pre 25 rfl rfl
            refine step_yes rfl (E.pre 23 rfl rfl) ?_
            refine op_val (v := .pointer (some ⟨rd, 0, none⟩)) (w' := w') ?_ ⟨Below.refl _ _, rfl⟩
            have hcon := E.con
            clear E
            go_simp
          · intro ρ w' E
            have e216 : ρ (.tmp 216) = .pointer (some ⟨rd, 0, none⟩) := E.pre 26 rfl rfl
            refine step_yes rfl (E.pre 23 rfl rfl) ?_
            refine op_val (v := .pointer (some ⟨rd, 1, none⟩)) (w' := w') ?_ ⟨Below.refl _ _, rfl⟩
            have hcon := E.con
            clear E
            go_simp
          · intro ρ w' E
            have e217 : ρ (.tmp 217) = .pointer (some ⟨rd, 1, none⟩) := E.pre 27 rfl rfl
            refine step_yes rfl (E.pre 23 rfl rfl) ?_
            refine op_val (v := .agg #[.int .i64 mE.cap, .slice aR kR cR]) (w' := w') ?_ ⟨Below.refl _ _, rfl⟩
            have k1 := (World.cell?_of_block (w := wX) (E.below.block _ hlR)).trans r1
            have k2 := (World.cell?_of_block (w := wX) (E.below.block _ hlR)).trans r2
            have hcon := E.con
            clear E r1 r2 r3
            go_simp
          · intro ρ w' E
            have e214 : ρ (.tmp 214) = .agg #[.int .i64 mE.cap, .slice aX kX cX] := E.pre 24 rfl rfl
            have e218 : ρ (.tmp 218) = .agg #[.int .i64 mE.cap, .slice aR kR cR] := E.pre 28 rfl rfl
            refine step_yes rfl (E.pre 23 rfl rfl) ?_
            refine op_call (f := 40) (args := #[.agg #[.int .i64 mE.cap, .slice aX kX cX], .agg #[.int .i64 mE.cap, .slice aR kR cR]]) (w' := w') (by have hcon := E.con; have hfn := E.fn; clear E; go_simp) ?_
            refine (keepmed_any mE.cap mE.cap aX aR cX kX cR kR csX csR true w' (HTX.out.r.ext E.below).mat (HR.out.r.ext E.below).mat HTX.out.r.len.symm HR.out.r.len.symm HTX.out.r.len63 HR.out.r.len63 (by rw [HTX.out.r.pls, HR.out.r.pls]; simp)).mono ?_
            rintro e w2 ⟨rfl, hb⟩
            exact ⟨_, rfl, hb, rfl⟩
          · intro ρ w' E
            have e219 : ρ (.tmp 219) = .bool true := E.pre 29 rfl rfl
            refine step_yes rfl (E.pre 23 rfl rfl) ?_
            refine op_val (v := .bool false) (w' := w') ?_ ⟨Below.refl _ _, rfl⟩
            have hcon := E.con
            clear E
            go_simp
          · intro ρ w' E
            have e213 : ρ (.tmp 213) = .bool false := E.pre 23 rfl rfl
            have e220 : ρ (.tmp 220) = .bool false := E.pre 30 rfl rfl
            refine step_plain rfl ?_
            exact op_pick (b := false) rfl e213 rfl ⟨Below.refl _ _, e220⟩
        · intro σF wF GF OF HF
          have s221 : σF 221 = .bool false := HF 31 rfl rfl
          clear OF HF
          simp only [upd, updL, dstsOf', elemB, List.filterMap_cons, List.filterMap_nil, Nat.reduceAdd, Nat.reduceBEq, Bool.or_false, Bool.or_true, cond_true, cond_false, Nat.zero_add, s221]
          have HTF := Lib.hid (HTX.out.ext GF)
          have HYF := Lib.hid (bthen HYX.out GF (Nat.le_refl _))
          clear GF x0 x1 r1 r2 r3 t0 s221 HTX HYX HDX HTm HR
          obtain ⟨x0, x1⟩ := HTF.out.box.cells
          go_wp2_with fail
          refine (spoilmed_any wy.heap.size wF.heap.size mE.cap aX cX kX csX wF HTF.out.r.own HTF.out.r.len.symm (by have := HTF.out.r.size; have := HGE.out.len; omega) (HTF.out.r.short HGE.out.short) HYF.out.size (fun x hx hn0 => HTF.out.r.own.row.bnd x hx (.inl (by rw [HTF.out.r.len]; exact hn0))) (fun y hy hy0 x hx => (HTF.out.r.own.dat y hy).bnd x hx (.inl (by rw [Ne, List.length_eq_zero_iff]; exact hy0)))).mono ?_
          rintro e wG ⟨rfl, hbG, -⟩
          have HGF := Lib.hid (HYF.out.trans hbG)
          clear hbG x0 x1
          go_wp2_with fail
          go_roundw
          case rel => exact ⟨t + 1, mE, pE, sE, _, rfl, by omega, by omega, by go_num, HDE.out.ext HGF.out, HGE.out, HCE.out, HLE.out.1, HLE.out.2, bthen HBE.out HGF.out (Nat.le_refl _)⟩
          case measure => simp [intOf]; omega
      by_cases hz6 : z = 6
      · have e3 : ((z : Int) == 3) = false := by simp; omega
        have e4 : ((z : Int) == 4) = false := by simp; omega
        have e5 : ((z : Int) == 5) = false := by simp; omega
        have e6 : ((z : Int) == 6) = true := by simp; omega
        have hput := setRow_heap (wr.alloc (.cells #[.int .i64 0, .int .i64 0, .int .i64 0, .slice none 0 0, .int .i64 0] 44)) wr.heap.size _ #[.int .i64 x.what, .int .i64 x.n, .int .i64 x.m, .slice x.b.a x.b.l.length x.b.c, .int .i64 x.torn] _ _ (heap_alloc_new wr _)
        have hbp : Below wr.heap.size wr ((wr.alloc (.cells #[.int .i64 0, .int .i64 0, .int .i64 0, .slice none 0 0, .int .i64 0] 44)).setRow wr.heap.size #[.int .i64 x.what, .int .i64 x.n, .int .i64 x.m, .slice x.b.a x.b.l.length x.b.c, .int .i64 x.torn]) := bsetRow (ext_alloc wr _) (Nat.le_refl _) _
        have m0 := cell_of_row _ _ 0 _ _ _ hput
        have m1 := cell_of_row _ _ 1 _ _ _ hput
        have m2 := cell_of_row _ _ 2 _ _ _ hput
        have m3 := cell_of_row _ _ 3 _ _ _ hput
        have m4 := cell_of_row _ _ 4 _ _ _ hput
        go_wp2_with (first
          | (refine wpList_store_row rfl rfl 44 (.tmp 12) (.tmp 77) rfl wr.heap.size rfl 44 #[.int .i64 0, .int .i64 0, .int .i64 0, .slice none 0 0, .int .i64 0] #[.int .i64 x.what, .int .i64 x.n, .int .i64 x.m, .slice x.b.a x.b.l.length x.b.c, .int .i64 x.torn] rfl (heap_alloc_new wr _) rfl (by kernel_rfl) (by intro v hv; simp at hv; rcases hv with rfl | rfl | rfl | rfl | rfl <;> rfl) ?_))
        generalize hws : World.setRow _ _ _ = w1 at *
        have HD1 := Lib.hid (HD.out.ext hbp)
        have HB1 := Lib.hid (bthen HBv.out hbp (Nat.le_refl _))
        have Hok1 := Lib.hid (show A5ok w1 x from ⟨Hok5.out.1.ext hbp, Hok5.out.2⟩)
        clear hws hbp c0 c1 c2 c3 c4 m0
        generalize wr.heap.size = GA at *
        obtain ⟨pn, rfl, hpl⟩ := HG.out.pos
        obtain ⟨⟨Em, s', M'⟩, hrr⟩ : ∃ y, y = dvEnd s M pn := ⟨_, rfl⟩
        have hgd := dvEnd_good HG.out.ok hpl hrr.symm
        have HRR := Lib.hid hrr.symm
        clear hrr
        refine (HD1.out.real (Nat.zero_le _) (fun K hd hu => drv_eot pn s s' Em M' w1 hd hu hpl HRR.out)).mono ?_
        rintro e w2x ⟨rfl, hd2, hm2⟩
        have HD2 := Lib.hid hd2
        have HB2 := Lib.hid (HB1.out.trans (hm2.below (fun b T h => h.1) HB1.out.size))
        clear hd2 hm2 m1 m2 m3 m4
        go_wp2_with fail
        refine (HD2.out.ref (Nat.zero_le _) (fun Z hd => rdrv_end pn s s' Em M' w2x hd HG.out.ok hpl HRR.out)).mono ?_
        rintro e wy ⟨rfl, hd3, hm3⟩
        obtain ⟨mE, pE, sE, HDE, HGE, HCE, HLE, HBE⟩ : ∃ mE pE sE, Hid (TwoD w3.heap.size 0 0 wy d g rd q mE pE sE mE pE sE) ∧ Hid (DGood mE pE) ∧ Hid (mE.cap = cap) ∧ Hid (0 ≤ sE.life ∧ sE.life ≤ ((t + 1 : Nat) : Int)) ∧ Hid (Below w3.heap.size w3 wy) := ⟨_, _, _, Lib.hid hd3, Lib.hid hgd.1, Lib.hid (hgd.2.1.trans HC.out), Lib.hid (by have h0 := HS0.out; have h1 := HS1.out; have h2 := hgd.2.2; omega), Lib.hid (HB2.out.trans (hm3.below (fun b T h => h.1) HB2.out.size))⟩
        clear hd3 hm3 HD2 HB2 hgd HRR
        go_wp2_with fail
        clear HD1 HD HG HC HS0 HS1 HBv HLr Tr
        -- a round's end: world wy, HDE (TwoD with mE pE sE), HGE, HCE, HLE (life), HBE (Below)
        obtain ⟨KT, hKT⟩ := HDE.out.realP
        refine (drv_mediumP wy hKT (Nat.le_trans HGE.out.len (by decide)) HGE.out.short).mono ?_
        rintro e wz ⟨aX, cX, csX, kX, rfl, hMX, hcX, hbX⟩
        obtain ⟨hTX, hSX⟩ := TapeO.new mE.cap rfl hMX hcX
        have hzX := heap_alloc_new wz (.cells #[.int .i64 0, .slice none 0 0] 24)
        have hbyX := bthen hbX hSX (Nat.le_refl _)
        go_wp2_with (refine wpList_store_row rfl rfl 24 (.tmp 18) (.tmp 189) rfl wz.heap.size rfl 24 #[.int .i64 0, .slice none 0 0] #[.int .i64 mE.cap, .slice aX kX cX] rfl hzX rfl (by kernel_rfl) (by simp [Value.oneCell']) ?_)
        clear hzX hMX hbX hSX hKT
        generalize (wz.alloc (.cells #[.int .i64 0, .slice none 0 0] 24)).setRow wz.heap.size #[.int .i64 mE.cap, .slice aX kX cX] = wX at *
        generalize wz.heap.size = GX at *
        have HTX := Lib.hid hTX
        have HYX := Lib.hid hbyX
        have HDX := Lib.hid (HDE.out.ext hbyX)
        have HTm := Lib.hid (T.out.ext (bthen HBE.out hbyX (Nat.le_refl _)))
        clear hTX hbyX
        obtain ⟨x0, x1⟩ := HTX.out.box.cells
        have hlX := heap_lt HTX.out.box
        obtain ⟨t0, _⟩ := HTm.out.box.cells
        have hlT := heap_lt HTm.out.box
        dsimp only at t0
        obtain ⟨Z, ⟨aR, kR, cR, csR, hR, _⟩, _⟩ := HDX.out.refP
        obtain ⟨r0, r1, r2, r3⟩ := hR.cells
        have hlR := heap_lt hR.obj
        have HR := Lib.hid hR
        have hwl : IntKind.i64.wrap (cap - pE) = cap - pE := by
          have := HGE.out.at0
          rw [HCE.out] at this
          rw [IntKind.wrap_i64]; omega
        clear hR r0
        refine wp_region_phase (by kernel_rfl) [] (by kernel_rfl) (by kernel_rfl) ?_
        refine stage_last [Sp.eq (.pointer (some ⟨d, 0, none⟩)), Sp.eq (.pointer (some ⟨d, 0, none⟩)), Sp.eq (.pointer (some ⟨d, 0, none⟩)), Sp.eq (.int .i64 pE), Sp.eq (.pointer (some ⟨rd, 0, none⟩)), Sp.eq (.pointer (some ⟨rd, 0, none⟩)), Sp.eq (.pointer (some ⟨rd, 3, none⟩)), Sp.eq (.int .i64 pE), Sp.eq (.bool false), Sp.eq (.bool false), Sp.eq (.pointer (some ⟨d, 0, none⟩)), Sp.eq (.pointer (some ⟨d, 0, none⟩)), Sp.eq (.pointer (some ⟨d, 0, none⟩)), Sp.eq (.int .i64 (cap - pE)), Sp.eq (.pointer (some ⟨w.heap.size, 0, none⟩)), Sp.eq (.int .i64 cap), Sp.eq (.pointer (some ⟨rd, 0, none⟩)), Sp.eq (.pointer (some ⟨rd, 0, none⟩)), Sp.eq (.pointer (some ⟨rd, 3, none⟩)), Sp.eq (.int .i64 pE), Sp.eq (.int .i64 (cap - pE)), Sp.eq (.bool false), Sp.eq (.bool false), Sp.eq (.bool false), Sp.eq (.agg #[.int .i64 mE.cap, .slice aX kX cX]), Sp.eq (.pointer (some ⟨rd, 0, none⟩)), Sp.eq (.pointer (some ⟨rd, 0, none⟩)), Sp.eq (.pointer (some ⟨rd, 1, none⟩)), Sp.eq (.agg #[.int .i64 mE.cap, .slice aR kR cR]), Sp.eq (.bool true), Sp.eq (.bool false), Sp.eq (.bool false)] ?_ ?_
        · refine stepsG_cons ?_ (stepsG_cons ?_ (stepsG_cons ?_ (stepsG_cons ?_ (stepsG_cons ?_ (stepsG_cons ?_ (stepsG_cons ?_ (stepsG_cons ?_ (stepsG_cons ?_ (stepsG_cons ?_ (stepsG_cons ?_ (stepsG_cons ?_ (stepsG_cons ?_ (stepsG_cons ?_ (stepsG_cons ?_ (stepsG_cons ?_ (stepsG_cons ?_ (stepsG_cons ?_ (stepsG_cons ?_ (stepsG_cons ?_ (stepsG_cons ?_ (stepsG_cons ?_ (stepsG_cons ?_ (stepsG_cons ?_ (stepsG_cons ?_ (stepsG_cons ?_ (stepsG_cons ?_ (stepsG_cons ?_ (stepsG_cons ?_ (stepsG_cons ?_ (stepsG_cons ?_ (stepsG_cons ?_ (stepsG_nil))))))))))))))))))))))))))))))))
          · intro ρ w' E
            have e8 : ρ (.tmp 8) = .pointer (some ⟨d, 0, none⟩) := E.out 8 rfl
            refine step_plain rfl ?_
            exact op_move (.inl rfl) e8 ⟨Below.refl _ _, rfl⟩
          · intro ρ w' E
            have e190 : ρ (.tmp 190) = .pointer (some ⟨d, 0, none⟩) := E.pre 0 rfl rfl
            refine step_plain rfl ?_
            refine op_val (v := .pointer (some ⟨d, 0, none⟩)) (w' := w') ?_ ⟨Below.refl _ _, rfl⟩
            have hcon := E.con
            clear E
            go_simp
          · intro ρ w' E
            have e191 : ρ (.tmp 191) = .pointer (some ⟨d, 0, none⟩) := E.pre 1 rfl rfl
            refine step_plain rfl ?_
            refine op_val (v := .pointer (some ⟨d, 0, none⟩)) (w' := w') ?_ ⟨Below.refl _ _, rfl⟩
            have hcon := E.con
            clear E
            go_simp
          · intro ρ w' E
            have e192 : ρ (.tmp 192) = .pointer (some ⟨d, 0, none⟩) := E.pre 2 rfl rfl
            refine step_plain rfl ?_
            refine op_call (f := 38) (args := #[.pointer (some ⟨d, 0, none⟩)]) (w' := w') (by have hcon := E.con; have hfn := E.fn; clear E; go_simp) ?_
            obtain ⟨KD, hKD⟩ := (HDX.out.ext E.below).realP
            refine (drv_placeP w' hKD).mono ?_
            rintro e w2 ⟨rfl, rfl⟩
            exact ⟨_, rfl, Below.refl _ _, rfl⟩
          · intro ρ w' E
            have e10 : ρ (.tmp 10) = .pointer (some ⟨rd, 0, none⟩) := E.out 10 rfl
            refine step_plain rfl ?_
            exact op_move (.inl rfl) e10 ⟨Below.refl _ _, rfl⟩
          · intro ρ w' E
            have e194 : ρ (.tmp 194) = .pointer (some ⟨rd, 0, none⟩) := E.pre 4 rfl rfl
            refine step_plain rfl ?_
            refine op_val (v := .pointer (some ⟨rd, 0, none⟩)) (w' := w') ?_ ⟨Below.refl _ _, rfl⟩
            have hcon := E.con
            clear E
            go_simp
          · intro ρ w' E
            have e195 : ρ (.tmp 195) = .pointer (some ⟨rd, 0, none⟩) := E.pre 5 rfl rfl
            refine step_plain rfl ?_
            refine op_val (v := .pointer (some ⟨rd, 3, none⟩)) (w' := w') ?_ ⟨Below.refl _ _, rfl⟩
            have hcon := E.con
            clear E
            go_simp
          · intro ρ w' E
            have e196 : ρ (.tmp 196) = .pointer (some ⟨rd, 3, none⟩) := E.pre 6 rfl rfl
            refine step_plain rfl ?_
            refine op_val (v := .int .i64 pE) (w' := w') ?_ ⟨Below.refl _ _, rfl⟩
            have k3 := (World.cell?_of_block (w := wX) (E.below.block _ hlR)).trans r3
            have hcon := E.con
            clear E r1 r2 r3
            go_simp
          · intro ρ w' E
            have e193 : ρ (.tmp 193) = .int .i64 pE := E.pre 3 rfl rfl
            have e197 : ρ (.tmp 197) = .int .i64 pE := E.pre 7 rfl rfl
            refine step_plain rfl ?_
            refine op_val (v := .bool false) (w' := w') ?_ ⟨Below.refl _ _, rfl⟩
            have hcon := E.con
            clear E
            go_simp
          · intro ρ w' E
            have e198 : ρ (.tmp 198) = .bool false := E.pre 8 rfl rfl
            refine step_plain rfl ?_
            exact op_move (.inl rfl) e198 ⟨Below.refl _ _, rfl⟩
          · intro ρ w' E
            have e8 : ρ (.tmp 8) = .pointer (some ⟨d, 0, none⟩) := E.out 8 rfl
            refine step_yes rfl (E.pre 9 rfl rfl) ?_
            exact op_move (.inl rfl) e8 ⟨Below.refl _ _, rfl⟩
          · intro ρ w' E
            have e200 : ρ (.tmp 200) = .pointer (some ⟨d, 0, none⟩) := E.pre 10 rfl rfl
            refine step_yes rfl (E.pre 9 rfl rfl) ?_
            refine op_val (v := .pointer (some ⟨d, 0, none⟩)) (w' := w') ?_ ⟨Below.refl _ _, rfl⟩
            have hcon := E.con
            clear E
            go_simp
          · intro ρ w' E
            have e201 : ρ (.tmp 201) = .pointer (some ⟨d, 0, none⟩) := E.pre 11 rfl rfl
            refine step_yes rfl (E.pre 9 rfl rfl) ?_
            refine op_val (v := .pointer (some ⟨d, 0, none⟩)) (w' := w') ?_ ⟨Below.refl _ _, rfl⟩
            have hcon := E.con
            clear E
            go_simp
          · intro ρ w' E
            have e202 : ρ (.tmp 202) = .pointer (some ⟨d, 0, none⟩) := E.pre 12 rfl rfl
            refine step_yes rfl (E.pre 9 rfl rfl) ?_
            refine op_call (f := 39) (args := #[.pointer (some ⟨d, 0, none⟩)]) (w' := w') (by have hcon := E.con; have hfn := E.fn; clear E; go_simp) ?_
            obtain ⟨KD, hKD⟩ := (HDX.out.ext E.below).realP
            refine (drv_leftP (cap - pE) w' hKD (by rw [HCE.out]) (by have := HGE.out.at0; rw [HCE.out] at this; omega) (by have := HGE.out.at0; rw [HCE.out] at this; omega)).mono ?_
            rintro e w2 ⟨rfl, hb⟩
            exact ⟨_, rfl, hb, rfl⟩
          · intro ρ w' E
            have e2 : ρ (.tmp 2) = .pointer (some ⟨w.heap.size, 0, none⟩) := E.out 2 rfl
            refine step_yes rfl (E.pre 9 rfl rfl) ?_
            refine op_val (v := .pointer (some ⟨w.heap.size, 0, none⟩)) (w' := w') ?_ ⟨Below.refl _ _, rfl⟩
            have hcon := E.con
            clear E
            go_simp
          · intro ρ w' E
            have e204 : ρ (.tmp 204) = .pointer (some ⟨w.heap.size, 0, none⟩) := E.pre 14 rfl rfl
            refine step_yes rfl (E.pre 9 rfl rfl) ?_
            refine op_val (v := .int .i64 cap) (w' := w') ?_ ⟨Below.refl _ _, rfl⟩
            have k0 := (World.cell?_of_block (w := wX) (E.below.block _ hlT)).trans t0
            have hcon := E.con
            clear E r1 r2 r3
            go_simp
          · intro ρ w' E
            have e10 : ρ (.tmp 10) = .pointer (some ⟨rd, 0, none⟩) := E.out 10 rfl
            refine step_yes rfl (E.pre 9 rfl rfl) ?_
            exact op_move (.inl rfl) e10 ⟨Below.refl _ _, rfl⟩
          · intro ρ w' E
            have e206 : ρ (.tmp 206) = .pointer (some ⟨rd, 0, none⟩) := E.pre 16 rfl rfl
            refine step_yes rfl (E.pre 9 rfl rfl) ?_
            refine op_val (v := .pointer (some ⟨rd, 0, none⟩)) (w' := w') ?_ ⟨Below.refl _ _, rfl⟩
            have hcon := E.con
            clear E
            go_simp
          · intro ρ w' E
            have e207 : ρ (.tmp 207) = .pointer (some ⟨rd, 0, none⟩) := E.pre 17 rfl rfl
            refine step_yes rfl (E.pre 9 rfl rfl) ?_
            refine op_val (v := .pointer (some ⟨rd, 3, none⟩)) (w' := w') ?_ ⟨Below.refl _ _, rfl⟩
            have hcon := E.con
            clear E
            go_simp
          · intro ρ w' E
            have e208 : ρ (.tmp 208) = .pointer (some ⟨rd, 3, none⟩) := E.pre 18 rfl rfl
            refine step_yes rfl (E.pre 9 rfl rfl) ?_
            refine op_val (v := .int .i64 pE) (w' := w') ?_ ⟨Below.refl _ _, rfl⟩
            have k3 := (World.cell?_of_block (w := wX) (E.below.block _ hlR)).trans r3
            have hcon := E.con
            clear E r1 r2 r3
            go_simp
          · intro ρ w' E
            have e205 : ρ (.tmp 205) = .int .i64 cap := E.pre 15 rfl rfl
            have e209 : ρ (.tmp 209) = .int .i64 pE := E.pre 19 rfl rfl
            refine step_yes rfl (E.pre 9 rfl rfl) ?_
            refine op_val (v := .int .i64 (cap - pE)) (w' := w') ?_ ⟨Below.refl _ _, rfl⟩
            have hw := hwl
            have hcon := E.con
            clear E
            go_simp
          · intro ρ w' E
            have e203 : ρ (.tmp 203) = .int .i64 (cap - pE) := E.pre 13 rfl rfl
            have e210 : ρ (.tmp 210) = .int .i64 (cap - pE) := E.pre 20 rfl rfl
            refine step_yes rfl (E.pre 9 rfl rfl) ?_
            refine op_val (v := .bool false) (w' := w') ?_ ⟨Below.refl _ _, rfl⟩
            have hcon := E.con
            clear E
            go_simp
          · intro ρ w' E
            have e199 : ρ (.tmp 199) = .bool false := E.pre 9 rfl rfl
            have e211 : ρ (.tmp 211) = .bool false := E.pre 21 rfl rfl
            refine step_plain rfl ?_
            exact op_pick (b := false) rfl e199 rfl ⟨Below.refl _ _, e211⟩
          · intro ρ w' E
            have e212 : ρ (.tmp 212) = .bool false := E.pre 22 rfl rfl
            refine step_plain rfl ?_
            exact op_move (.inl rfl) e212 ⟨Below.refl _ _, rfl⟩
          · intro ρ w' E
            have e18 : ρ (.tmp 18) = .pointer (some ⟨GX, 0, none⟩) := E.out 18 rfl
            refine step_yes rfl (E.pre 23 rfl rfl) ?_
            refine op_val (v := .agg #[.int .i64 mE.cap, .slice aX kX cX]) (w' := w') ?_ ⟨Below.refl _ _, rfl⟩
            have k1 := (World.cell?_of_block (w := wX) (E.below.block _ hlX)).trans x0
            have k2 := (World.cell?_of_block (w := wX) (E.below.block _ hlX)).trans x1
            have hcon := E.con
            clear E x0 x1 r1 r2 r3
            go_simp
          · intro ρ w' E
            have e10 : ρ (.tmp 10) = .pointer (some ⟨rd, 0, none⟩) := E.out 10 rfl
            refine step_yes rfl (E.pre 23 rfl rfl) ?_
            exact op_move (.inl rfl) e10 ⟨Below.refl _ _, rfl⟩
          · intro ρ w' E
            have e215 : ρ (.tmp 215) = .pointer (some ⟨rd, 0, none⟩) := E.pre 25 rfl rfl
            refine step_yes rfl (E.pre 23 rfl rfl) ?_
            refine op_val (v := .pointer (some ⟨rd, 0, none⟩)) (w' := w') ?_ ⟨Below.refl _ _, rfl⟩
            have hcon := E.con
            clear E
            go_simp
          · intro ρ w' E
            have e216 : ρ (.tmp 216) = .pointer (some ⟨rd, 0, none⟩) := E.pre 26 rfl rfl
            refine step_yes rfl (E.pre 23 rfl rfl) ?_
            refine op_val (v := .pointer (some ⟨rd, 1, none⟩)) (w' := w') ?_ ⟨Below.refl _ _, rfl⟩
            have hcon := E.con
            clear E
            go_simp
          · intro ρ w' E
            have e217 : ρ (.tmp 217) = .pointer (some ⟨rd, 1, none⟩) := E.pre 27 rfl rfl
            refine step_yes rfl (E.pre 23 rfl rfl) ?_
            refine op_val (v := .agg #[.int .i64 mE.cap, .slice aR kR cR]) (w' := w') ?_ ⟨Below.refl _ _, rfl⟩
            have k1 := (World.cell?_of_block (w := wX) (E.below.block _ hlR)).trans r1
            have k2 := (World.cell?_of_block (w := wX) (E.below.block _ hlR)).trans r2
            have hcon := E.con
            clear E r1 r2 r3
            go_simp
          · intro ρ w' E
            have e214 : ρ (.tmp 214) = .agg #[.int .i64 mE.cap, .slice aX kX cX] := E.pre 24 rfl rfl
            have e218 : ρ (.tmp 218) = .agg #[.int .i64 mE.cap, .slice aR kR cR] := E.pre 28 rfl rfl
            refine step_yes rfl (E.pre 23 rfl rfl) ?_
            refine op_call (f := 40) (args := #[.agg #[.int .i64 mE.cap, .slice aX kX cX], .agg #[.int .i64 mE.cap, .slice aR kR cR]]) (w' := w') (by have hcon := E.con; have hfn := E.fn; clear E; go_simp) ?_
            refine (keepmed_any mE.cap mE.cap aX aR cX kX cR kR csX csR true w' (HTX.out.r.ext E.below).mat (HR.out.r.ext E.below).mat HTX.out.r.len.symm HR.out.r.len.symm HTX.out.r.len63 HR.out.r.len63 (by rw [HTX.out.r.pls, HR.out.r.pls]; simp)).mono ?_
            rintro e w2 ⟨rfl, hb⟩
            exact ⟨_, rfl, hb, rfl⟩
          · intro ρ w' E
            have e219 : ρ (.tmp 219) = .bool true := E.pre 29 rfl rfl
            refine step_yes rfl (E.pre 23 rfl rfl) ?_
            refine op_val (v := .bool false) (w' := w') ?_ ⟨Below.refl _ _, rfl⟩
            have hcon := E.con
            clear E
            go_simp
          · intro ρ w' E
            have e213 : ρ (.tmp 213) = .bool false := E.pre 23 rfl rfl
            have e220 : ρ (.tmp 220) = .bool false := E.pre 30 rfl rfl
            refine step_plain rfl ?_
            exact op_pick (b := false) rfl e213 rfl ⟨Below.refl _ _, e220⟩
        · intro σF wF GF OF HF
          have s221 : σF 221 = .bool false := HF 31 rfl rfl
          clear OF HF
          simp only [upd, updL, dstsOf', elemB, List.filterMap_cons, List.filterMap_nil, Nat.reduceAdd, Nat.reduceBEq, Bool.or_false, Bool.or_true, cond_true, cond_false, Nat.zero_add, s221]
          have HTF := Lib.hid (HTX.out.ext GF)
          have HYF := Lib.hid (bthen HYX.out GF (Nat.le_refl _))
          clear GF x0 x1 r1 r2 r3 t0 s221 HTX HYX HDX HTm HR
          obtain ⟨x0, x1⟩ := HTF.out.box.cells
          go_wp2_with fail
          refine (spoilmed_any wy.heap.size wF.heap.size mE.cap aX cX kX csX wF HTF.out.r.own HTF.out.r.len.symm (by have := HTF.out.r.size; have := HGE.out.len; omega) (HTF.out.r.short HGE.out.short) HYF.out.size (fun x hx hn0 => HTF.out.r.own.row.bnd x hx (.inl (by rw [HTF.out.r.len]; exact hn0))) (fun y hy hy0 x hx => (HTF.out.r.own.dat y hy).bnd x hx (.inl (by rw [Ne, List.length_eq_zero_iff]; exact hy0)))).mono ?_
          rintro e wG ⟨rfl, hbG, -⟩
          have HGF := Lib.hid (HYF.out.trans hbG)
          clear hbG x0 x1
          go_wp2_with fail
          go_roundw
          case rel => exact ⟨t + 1, mE, pE, sE, _, rfl, by omega, by omega, by go_num, HDE.out.ext HGF.out, HGE.out, HCE.out, HLE.out.1, HLE.out.2, bthen HBE.out HGF.out (Nat.le_refl _)⟩
          case measure => simp [intOf]; omega
      by_cases hz9 : z = 9
      · have e3 : ((z : Int) == 3) = false := by simp; omega
        have e4 : ((z : Int) == 4) = false := by simp; omega
        have e5 : ((z : Int) == 5) = false := by simp; omega
        have e6 : ((z : Int) == 6) = false := by simp; omega
        have e7 : ((z : Int) == 7) = false := by simp; omega
        have e8 : ((z : Int) == 8) = false := by simp; omega
        have e9 : ((z : Int) == 9) = true := by simp; omega
        have hput := setRow_heap (wr.alloc (.cells #[.int .i64 0, .int .i64 0, .int .i64 0, .slice none 0 0, .int .i64 0] 44)) wr.heap.size _ #[.int .i64 x.what, .int .i64 x.n, .int .i64 x.m, .slice x.b.a x.b.l.length x.b.c, .int .i64 x.torn] _ _ (heap_alloc_new wr _)
        have hbp : Below wr.heap.size wr ((wr.alloc (.cells #[.int .i64 0, .int .i64 0, .int .i64 0, .slice none 0 0, .int .i64 0] 44)).setRow wr.heap.size #[.int .i64 x.what, .int .i64 x.n, .int .i64 x.m, .slice x.b.a x.b.l.length x.b.c, .int .i64 x.torn]) := bsetRow (ext_alloc wr _) (Nat.le_refl _) _
        have m0 := cell_of_row _ _ 0 _ _ _ hput
        have m1 := cell_of_row _ _ 1 _ _ _ hput
        have m2 := cell_of_row _ _ 2 _ _ _ hput
        have m3 := cell_of_row _ _ 3 _ _ _ hput
        have m4 := cell_of_row _ _ 4 _ _ _ hput
        go_wp2_with (first
          | (refine wpList_store_row rfl rfl 44 (.tmp 12) (.tmp 77) rfl wr.heap.size rfl 44 #[.int .i64 0, .int .i64 0, .int .i64 0, .slice none 0 0, .int .i64 0] #[.int .i64 x.what, .int .i64 x.n, .int .i64 x.m, .slice x.b.a x.b.l.length x.b.c, .int .i64 x.torn] rfl (heap_alloc_new wr _) rfl (by kernel_rfl) (by intro v hv; simp at hv; rcases hv with rfl | rfl | rfl | rfl | rfl <;> rfl) ?_))
        generalize hws : World.setRow _ _ _ = w1 at *
        have HD1 := Lib.hid (HD.out.ext hbp)
        have HB1 := Lib.hid (bthen HBv.out hbp (Nat.le_refl _))
        have Hok1 := Lib.hid (show A5ok w1 x from ⟨Hok5.out.1.ext hbp, Hok5.out.2⟩)
        clear hws hbp c0 c1 c2 c3 c4 m0
        generalize wr.heap.size = GA at *
        refine (HD1.out.real0 (fun K hd => drv_trip x.n x.torn (s.arm x.n [] x.torn) w1 hd (by have := Hok1.out.2.2.1; simp [Lit.wf, IntKind.min, IntKind.max, IntKind.signed, IntKind.bits] at this; omega) rfl)).mono ?_
        rintro e w2x ⟨rfl, hd2, hm2⟩
        have HD2 := Lib.hid hd2
        have HB2 := Lib.hid (HB1.out.trans (hm2.below (fun b T h => h.1) HB1.out.size))
        have m1 := (World.cell?_of_block (w := w1) ((hm2.keep hput (fun hf => TDF_noA _ hf)).trans hput.symm)).trans m1
        have m4 := (World.cell?_of_block (w := w1) ((hm2.keep hput (fun hf => TDF_noA _ hf)).trans hput.symm)).trans m4
        skip
        clear hd2 hm2 m2 m3
        go_wp2_with fail
        refine (HD2.out.ref0 (fun Z hd => rdrv_trip x.n x.torn hd (by have := Hok1.out.2.2.1; simp [Lit.wf, IntKind.min, IntKind.max, IntKind.signed, IntKind.bits] at this; omega))).mono ?_
        rintro e wy ⟨rfl, hd3, hm3⟩
        obtain ⟨mE, pE, sE, HDE, HGE, HCE, HLE, HBE⟩ : ∃ mE pE sE, Hid (TwoD w3.heap.size 0 0 wy d g rd q mE pE sE mE pE sE) ∧ Hid (DGood mE pE) ∧ Hid (mE.cap = cap) ∧ Hid (0 ≤ sE.life ∧ sE.life ≤ ((t + 1 : Nat) : Int)) ∧ Hid (Below w3.heap.size w3 wy) := ⟨_, _, _, Lib.hid hd3, HG, HC, Lib.hid (by have h0 := HS0.out; have h1 := HS1.out; show 0 ≤ s.life ∧ s.life ≤ _; omega), Lib.hid (HB2.out.trans (hm3.below (fun b T h => h.1) HB2.out.size))⟩
        clear hd3 hm3 HD2 HB2 m1 m4
        go_wp2_with fail
        clear HD1 HD HG HC HS0 HS1 HBv HLr Tr
        -- a round's end: world wy, HDE (TwoD with mE pE sE), HGE, HCE, HLE (life), HBE (Below)
        obtain ⟨KT, hKT⟩ := HDE.out.realP
        refine (drv_mediumP wy hKT (Nat.le_trans HGE.out.len (by decide)) HGE.out.short).mono ?_
        rintro e wz ⟨aX, cX, csX, kX, rfl, hMX, hcX, hbX⟩
        obtain ⟨hTX, hSX⟩ := TapeO.new mE.cap rfl hMX hcX
        have hzX := heap_alloc_new wz (.cells #[.int .i64 0, .slice none 0 0] 24)
        have hbyX := bthen hbX hSX (Nat.le_refl _)
        go_wp2_with (refine wpList_store_row rfl rfl 24 (.tmp 18) (.tmp 189) rfl wz.heap.size rfl 24 #[.int .i64 0, .slice none 0 0] #[.int .i64 mE.cap, .slice aX kX cX] rfl hzX rfl (by kernel_rfl) (by simp [Value.oneCell']) ?_)
        clear hzX hMX hbX hSX hKT
        generalize (wz.alloc (.cells #[.int .i64 0, .slice none 0 0] 24)).setRow wz.heap.size #[.int .i64 mE.cap, .slice aX kX cX] = wX at *
        generalize wz.heap.size = GX at *
        have HTX := Lib.hid hTX
        have HYX := Lib.hid hbyX
        have HDX := Lib.hid (HDE.out.ext hbyX)
        have HTm := Lib.hid (T.out.ext (bthen HBE.out hbyX (Nat.le_refl _)))
        clear hTX hbyX
        obtain ⟨x0, x1⟩ := HTX.out.box.cells
        have hlX := heap_lt HTX.out.box
        obtain ⟨t0, _⟩ := HTm.out.box.cells
        have hlT := heap_lt HTm.out.box
        dsimp only at t0
        obtain ⟨Z, ⟨aR, kR, cR, csR, hR, _⟩, _⟩ := HDX.out.refP
        obtain ⟨r0, r1, r2, r3⟩ := hR.cells
        have hlR := heap_lt hR.obj
        have HR := Lib.hid hR
        have hwl : IntKind.i64.wrap (cap - pE) = cap - pE := by
          have := HGE.out.at0
          rw [HCE.out] at this
          rw [IntKind.wrap_i64]; omega
        clear hR r0
        refine wp_region_phase (by kernel_rfl) [] (by kernel_rfl) (by kernel_rfl) ?_
        refine stage_last [Sp.eq (.pointer (some ⟨d, 0, none⟩)), Sp.eq (.pointer (some ⟨d, 0, none⟩)), Sp.eq (.pointer (some ⟨d, 0, none⟩)), Sp.eq (.int .i64 pE), Sp.eq (.pointer (some ⟨rd, 0, none⟩)), Sp.eq (.pointer (some ⟨rd, 0, none⟩)), Sp.eq (.pointer (some ⟨rd, 3, none⟩)), Sp.eq (.int .i64 pE), Sp.eq (.bool false), Sp.eq (.bool false), Sp.eq (.pointer (some ⟨d, 0, none⟩)), Sp.eq (.pointer (some ⟨d, 0, none⟩)), Sp.eq (.pointer (some ⟨d, 0, none⟩)), Sp.eq (.int .i64 (cap - pE)), Sp.eq (.pointer (some ⟨w.heap.size, 0, none⟩)), Sp.eq (.int .i64 cap), Sp.eq (.pointer (some ⟨rd, 0, none⟩)), Sp.eq (.pointer (some ⟨rd, 0, none⟩)), Sp.eq (.pointer (some ⟨rd, 3, none⟩)), Sp.eq (.int .i64 pE), Sp.eq (.int .i64 (cap - pE)), Sp.eq (.bool false), Sp.eq (.bool false), Sp.eq (.bool false), Sp.eq (.agg #[.int .i64 mE.cap, .slice aX kX cX]), Sp.eq (.pointer (some ⟨rd, 0, none⟩)), Sp.eq (.pointer (some ⟨rd, 0, none⟩)), Sp.eq (.pointer (some ⟨rd, 1, none⟩)), Sp.eq (.agg #[.int .i64 mE.cap, .slice aR kR cR]), Sp.eq (.bool true), Sp.eq (.bool false), Sp.eq (.bool false)] ?_ ?_
        · refine stepsG_cons ?_ (stepsG_cons ?_ (stepsG_cons ?_ (stepsG_cons ?_ (stepsG_cons ?_ (stepsG_cons ?_ (stepsG_cons ?_ (stepsG_cons ?_ (stepsG_cons ?_ (stepsG_cons ?_ (stepsG_cons ?_ (stepsG_cons ?_ (stepsG_cons ?_ (stepsG_cons ?_ (stepsG_cons ?_ (stepsG_cons ?_ (stepsG_cons ?_ (stepsG_cons ?_ (stepsG_cons ?_ (stepsG_cons ?_ (stepsG_cons ?_ (stepsG_cons ?_ (stepsG_cons ?_ (stepsG_cons ?_ (stepsG_cons ?_ (stepsG_cons ?_ (stepsG_cons ?_ (stepsG_cons ?_ (stepsG_cons ?_ (stepsG_cons ?_ (stepsG_cons ?_ (stepsG_cons ?_ (stepsG_nil))))))))))))))))))))))))))))))))
          · intro ρ w' E
            have e8 : ρ (.tmp 8) = .pointer (some ⟨d, 0, none⟩) := E.out 8 rfl
            refine step_plain rfl ?_
            exact op_move (.inl rfl) e8 ⟨Below.refl _ _, rfl⟩
          · intro ρ w' E
            have e190 : ρ (.tmp 190) = .pointer (some ⟨d, 0, none⟩) := E.pre 0 rfl rfl
            refine step_plain rfl ?_
            refine op_val (v := .pointer (some ⟨d, 0, none⟩)) (w' := w') ?_ ⟨Below.refl _ _, rfl⟩
            have hcon := E.con
            clear E
            go_simp
          · intro ρ w' E
            have e191 : ρ (.tmp 191) = .pointer (some ⟨d, 0, none⟩) := E.pre 1 rfl rfl
            refine step_plain rfl ?_
            refine op_val (v := .pointer (some ⟨d, 0, none⟩)) (w' := w') ?_ ⟨Below.refl _ _, rfl⟩
            have hcon := E.con
            clear E
            go_simp
          · intro ρ w' E
            have e192 : ρ (.tmp 192) = .pointer (some ⟨d, 0, none⟩) := E.pre 2 rfl rfl
            refine step_plain rfl ?_
            refine op_call (f := 38) (args := #[.pointer (some ⟨d, 0, none⟩)]) (w' := w') (by have hcon := E.con; have hfn := E.fn; clear E; go_simp) ?_
            obtain ⟨KD, hKD⟩ := (HDX.out.ext E.below).realP
            refine (drv_placeP w' hKD).mono ?_
            rintro e w2 ⟨rfl, rfl⟩
            exact ⟨_, rfl, Below.refl _ _, rfl⟩
          · intro ρ w' E
            have e10 : ρ (.tmp 10) = .pointer (some ⟨rd, 0, none⟩) := E.out 10 rfl
            refine step_plain rfl ?_
            exact op_move (.inl rfl) e10 ⟨Below.refl _ _, rfl⟩
          · intro ρ w' E
            have e194 : ρ (.tmp 194) = .pointer (some ⟨rd, 0, none⟩) := E.pre 4 rfl rfl
            refine step_plain rfl ?_
            refine op_val (v := .pointer (some ⟨rd, 0, none⟩)) (w' := w') ?_ ⟨Below.refl _ _, rfl⟩
            have hcon := E.con
            clear E
            go_simp
          · intro ρ w' E
            have e195 : ρ (.tmp 195) = .pointer (some ⟨rd, 0, none⟩) := E.pre 5 rfl rfl
            refine step_plain rfl ?_
            refine op_val (v := .pointer (some ⟨rd, 3, none⟩)) (w' := w') ?_ ⟨Below.refl _ _, rfl⟩
            have hcon := E.con
            clear E
            go_simp
          · intro ρ w' E
            have e196 : ρ (.tmp 196) = .pointer (some ⟨rd, 3, none⟩) := E.pre 6 rfl rfl
            refine step_plain rfl ?_
            refine op_val (v := .int .i64 pE) (w' := w') ?_ ⟨Below.refl _ _, rfl⟩
            have k3 := (World.cell?_of_block (w := wX) (E.below.block _ hlR)).trans r3
            have hcon := E.con
            clear E r1 r2 r3
            go_simp
          · intro ρ w' E
            have e193 : ρ (.tmp 193) = .int .i64 pE := E.pre 3 rfl rfl
            have e197 : ρ (.tmp 197) = .int .i64 pE := E.pre 7 rfl rfl
            refine step_plain rfl ?_
            refine op_val (v := .bool false) (w' := w') ?_ ⟨Below.refl _ _, rfl⟩
            have hcon := E.con
            clear E
            go_simp
          · intro ρ w' E
            have e198 : ρ (.tmp 198) = .bool false := E.pre 8 rfl rfl
            refine step_plain rfl ?_
            exact op_move (.inl rfl) e198 ⟨Below.refl _ _, rfl⟩
          · intro ρ w' E
            have e8 : ρ (.tmp 8) = .pointer (some ⟨d, 0, none⟩) := E.out 8 rfl
            refine step_yes rfl (E.pre 9 rfl rfl) ?_
            exact op_move (.inl rfl) e8 ⟨Below.refl _ _, rfl⟩
          · intro ρ w' E
            have e200 : ρ (.tmp 200) = .pointer (some ⟨d, 0, none⟩) := E.pre 10 rfl rfl
            refine step_yes rfl (E.pre 9 rfl rfl) ?_
            refine op_val (v := .pointer (some ⟨d, 0, none⟩)) (w' := w') ?_ ⟨Below.refl _ _, rfl⟩
            have hcon := E.con
            clear E
            go_simp
          · intro ρ w' E
            have e201 : ρ (.tmp 201) = .pointer (some ⟨d, 0, none⟩) := E.pre 11 rfl rfl
            refine step_yes rfl (E.pre 9 rfl rfl) ?_
            refine op_val (v := .pointer (some ⟨d, 0, none⟩)) (w' := w') ?_ ⟨Below.refl _ _, rfl⟩
            have hcon := E.con
            clear E
            go_simp
          · intro ρ w' E
            have e202 : ρ (.tmp 202) = .pointer (some ⟨d, 0, none⟩) := E.pre 12 rfl rfl
            refine step_yes rfl (E.pre 9 rfl rfl) ?_
            refine op_call (f := 39) (args := #[.pointer (some ⟨d, 0, none⟩)]) (w' := w') (by have hcon := E.con; have hfn := E.fn; clear E; go_simp) ?_
            obtain ⟨KD, hKD⟩ := (HDX.out.ext E.below).realP
            refine (drv_leftP (cap - pE) w' hKD (by rw [HCE.out]) (by have := HGE.out.at0; rw [HCE.out] at this; omega) (by have := HGE.out.at0; rw [HCE.out] at this; omega)).mono ?_
            rintro e w2 ⟨rfl, hb⟩
            exact ⟨_, rfl, hb, rfl⟩
          · intro ρ w' E
            have e2 : ρ (.tmp 2) = .pointer (some ⟨w.heap.size, 0, none⟩) := E.out 2 rfl
            refine step_yes rfl (E.pre 9 rfl rfl) ?_
            refine op_val (v := .pointer (some ⟨w.heap.size, 0, none⟩)) (w' := w') ?_ ⟨Below.refl _ _, rfl⟩
            have hcon := E.con
            clear E
            go_simp
          · intro ρ w' E
            have e204 : ρ (.tmp 204) = .pointer (some ⟨w.heap.size, 0, none⟩) := E.pre 14 rfl rfl
            refine step_yes rfl (E.pre 9 rfl rfl) ?_
            refine op_val (v := .int .i64 cap) (w' := w') ?_ ⟨Below.refl _ _, rfl⟩
            have k0 := (World.cell?_of_block (w := wX) (E.below.block _ hlT)).trans t0
            have hcon := E.con
            clear E r1 r2 r3
            go_simp
          · intro ρ w' E
            have e10 : ρ (.tmp 10) = .pointer (some ⟨rd, 0, none⟩) := E.out 10 rfl
            refine step_yes rfl (E.pre 9 rfl rfl) ?_
            exact op_move (.inl rfl) e10 ⟨Below.refl _ _, rfl⟩
          · intro ρ w' E
            have e206 : ρ (.tmp 206) = .pointer (some ⟨rd, 0, none⟩) := E.pre 16 rfl rfl
            refine step_yes rfl (E.pre 9 rfl rfl) ?_
            refine op_val (v := .pointer (some ⟨rd, 0, none⟩)) (w' := w') ?_ ⟨Below.refl _ _, rfl⟩
            have hcon := E.con
            clear E
            go_simp
          · intro ρ w' E
            have e207 : ρ (.tmp 207) = .pointer (some ⟨rd, 0, none⟩) := E.pre 17 rfl rfl
            refine step_yes rfl (E.pre 9 rfl rfl) ?_
            refine op_val (v := .pointer (some ⟨rd, 3, none⟩)) (w' := w') ?_ ⟨Below.refl _ _, rfl⟩
            have hcon := E.con
            clear E
            go_simp
          · intro ρ w' E
            have e208 : ρ (.tmp 208) = .pointer (some ⟨rd, 3, none⟩) := E.pre 18 rfl rfl
            refine step_yes rfl (E.pre 9 rfl rfl) ?_
            refine op_val (v := .int .i64 pE) (w' := w') ?_ ⟨Below.refl _ _, rfl⟩
            have k3 := (World.cell?_of_block (w := wX) (E.below.block _ hlR)).trans r3
            have hcon := E.con
            clear E r1 r2 r3
            go_simp
          · intro ρ w' E
            have e205 : ρ (.tmp 205) = .int .i64 cap := E.pre 15 rfl rfl
            have e209 : ρ (.tmp 209) = .int .i64 pE := E.pre 19 rfl rfl
            refine step_yes rfl (E.pre 9 rfl rfl) ?_
            refine op_val (v := .int .i64 (cap - pE)) (w' := w') ?_ ⟨Below.refl _ _, rfl⟩
            have hw := hwl
            have hcon := E.con
            clear E
            go_simp
          · intro ρ w' E
            have e203 : ρ (.tmp 203) = .int .i64 (cap - pE) := E.pre 13 rfl rfl
            have e210 : ρ (.tmp 210) = .int .i64 (cap - pE) := E.pre 20 rfl rfl
            refine step_yes rfl (E.pre 9 rfl rfl) ?_
            refine op_val (v := .bool false) (w' := w') ?_ ⟨Below.refl _ _, rfl⟩
            have hcon := E.con
            clear E
            go_simp
          · intro ρ w' E
            have e199 : ρ (.tmp 199) = .bool false := E.pre 9 rfl rfl
            have e211 : ρ (.tmp 211) = .bool false := E.pre 21 rfl rfl
            refine step_plain rfl ?_
            exact op_pick (b := false) rfl e199 rfl ⟨Below.refl _ _, e211⟩
          · intro ρ w' E
            have e212 : ρ (.tmp 212) = .bool false := E.pre 22 rfl rfl
            refine step_plain rfl ?_
            exact op_move (.inl rfl) e212 ⟨Below.refl _ _, rfl⟩
          · intro ρ w' E
            have e18 : ρ (.tmp 18) = .pointer (some ⟨GX, 0, none⟩) := E.out 18 rfl
            refine step_yes rfl (E.pre 23 rfl rfl) ?_
            refine op_val (v := .agg #[.int .i64 mE.cap, .slice aX kX cX]) (w' := w') ?_ ⟨Below.refl _ _, rfl⟩
            have k1 := (World.cell?_of_block (w := wX) (E.below.block _ hlX)).trans x0
            have k2 := (World.cell?_of_block (w := wX) (E.below.block _ hlX)).trans x1
            have hcon := E.con
            clear E x0 x1 r1 r2 r3
            go_simp
          · intro ρ w' E
            have e10 : ρ (.tmp 10) = .pointer (some ⟨rd, 0, none⟩) := E.out 10 rfl
            refine step_yes rfl (E.pre 23 rfl rfl) ?_
            exact op_move (.inl rfl) e10 ⟨Below.refl _ _, rfl⟩
          · intro ρ w' E
            have e215 : ρ (.tmp 215) = .pointer (some ⟨rd, 0, none⟩) := E.pre 25 rfl rfl
            refine step_yes rfl (E.pre 23 rfl rfl) ?_
            refine op_val (v := .pointer (some ⟨rd, 0, none⟩)) (w' := w') ?_ ⟨Below.refl _ _, rfl⟩
            have hcon := E.con
            clear E
            go_simp
          · intro ρ w' E
            have e216 : ρ (.tmp 216) = .pointer (some ⟨rd, 0, none⟩) := E.pre 26 rfl rfl
            refine step_yes rfl (E.pre 23 rfl rfl) ?_
            refine op_val (v := .pointer (some ⟨rd, 1, none⟩)) (w' := w') ?_ ⟨Below.refl _ _, rfl⟩
            have hcon := E.con
            clear E
            go_simp
          · intro ρ w' E
            have e217 : ρ (.tmp 217) = .pointer (some ⟨rd, 1, none⟩) := E.pre 27 rfl rfl
            refine step_yes rfl (E.pre 23 rfl rfl) ?_
            refine op_val (v := .agg #[.int .i64 mE.cap, .slice aR kR cR]) (w' := w') ?_ ⟨Below.refl _ _, rfl⟩
            have k1 := (World.cell?_of_block (w := wX) (E.below.block _ hlR)).trans r1
            have k2 := (World.cell?_of_block (w := wX) (E.below.block _ hlR)).trans r2
            have hcon := E.con
            clear E r1 r2 r3
            go_simp
          · intro ρ w' E
            have e214 : ρ (.tmp 214) = .agg #[.int .i64 mE.cap, .slice aX kX cX] := E.pre 24 rfl rfl
            have e218 : ρ (.tmp 218) = .agg #[.int .i64 mE.cap, .slice aR kR cR] := E.pre 28 rfl rfl
            refine step_yes rfl (E.pre 23 rfl rfl) ?_
            refine op_call (f := 40) (args := #[.agg #[.int .i64 mE.cap, .slice aX kX cX], .agg #[.int .i64 mE.cap, .slice aR kR cR]]) (w' := w') (by have hcon := E.con; have hfn := E.fn; clear E; go_simp) ?_
            refine (keepmed_any mE.cap mE.cap aX aR cX kX cR kR csX csR true w' (HTX.out.r.ext E.below).mat (HR.out.r.ext E.below).mat HTX.out.r.len.symm HR.out.r.len.symm HTX.out.r.len63 HR.out.r.len63 (by rw [HTX.out.r.pls, HR.out.r.pls]; simp)).mono ?_
            rintro e w2 ⟨rfl, hb⟩
            exact ⟨_, rfl, hb, rfl⟩
          · intro ρ w' E
            have e219 : ρ (.tmp 219) = .bool true := E.pre 29 rfl rfl
            refine step_yes rfl (E.pre 23 rfl rfl) ?_
            refine op_val (v := .bool false) (w' := w') ?_ ⟨Below.refl _ _, rfl⟩
            have hcon := E.con
            clear E
            go_simp
          · intro ρ w' E
            have e213 : ρ (.tmp 213) = .bool false := E.pre 23 rfl rfl
            have e220 : ρ (.tmp 220) = .bool false := E.pre 30 rfl rfl
            refine step_plain rfl ?_
            exact op_pick (b := false) rfl e213 rfl ⟨Below.refl _ _, e220⟩
        · intro σF wF GF OF HF
          have s221 : σF 221 = .bool false := HF 31 rfl rfl
          clear OF HF
          simp only [upd, updL, dstsOf', elemB, List.filterMap_cons, List.filterMap_nil, Nat.reduceAdd, Nat.reduceBEq, Bool.or_false, Bool.or_true, cond_true, cond_false, Nat.zero_add, s221]
          have HTF := Lib.hid (HTX.out.ext GF)
          have HYF := Lib.hid (bthen HYX.out GF (Nat.le_refl _))
          clear GF x0 x1 r1 r2 r3 t0 s221 HTX HYX HDX HTm HR
          obtain ⟨x0, x1⟩ := HTF.out.box.cells
          go_wp2_with fail
          refine (spoilmed_any wy.heap.size wF.heap.size mE.cap aX cX kX csX wF HTF.out.r.own HTF.out.r.len.symm (by have := HTF.out.r.size; have := HGE.out.len; omega) (HTF.out.r.short HGE.out.short) HYF.out.size (fun x hx hn0 => HTF.out.r.own.row.bnd x hx (.inl (by rw [HTF.out.r.len]; exact hn0))) (fun y hy hy0 x hx => (HTF.out.r.own.dat y hy).bnd x hx (.inl (by rw [Ne, List.length_eq_zero_iff]; exact hy0)))).mono ?_
          rintro e wG ⟨rfl, hbG, -⟩
          have HGF := Lib.hid (HYF.out.trans hbG)
          clear hbG x0 x1
          go_wp2_with fail
          go_roundw
          case rel => exact ⟨t + 1, mE, pE, sE, _, rfl, by omega, by omega, by go_num, HDE.out.ext HGF.out, HGE.out, HCE.out, HLE.out.1, HLE.out.2, bthen HBE.out HGF.out (Nat.le_refl _)⟩
          case measure => simp [intOf]; omega
      by_cases hz10 : z = 10
      · have e3 : ((z : Int) == 3) = false := by simp; omega
        have e4 : ((z : Int) == 4) = false := by simp; omega
        have e5 : ((z : Int) == 5) = false := by simp; omega
        have e6 : ((z : Int) == 6) = false := by simp; omega
        have e7 : ((z : Int) == 7) = false := by simp; omega
        have e8 : ((z : Int) == 8) = false := by simp; omega
        have e9 : ((z : Int) == 9) = false := by simp; omega
        have e10 : ((z : Int) == 10) = true := by simp; omega
        have hput := setRow_heap (wr.alloc (.cells #[.int .i64 0, .int .i64 0, .int .i64 0, .slice none 0 0, .int .i64 0] 44)) wr.heap.size _ #[.int .i64 x.what, .int .i64 x.n, .int .i64 x.m, .slice x.b.a x.b.l.length x.b.c, .int .i64 x.torn] _ _ (heap_alloc_new wr _)
        have hbp : Below wr.heap.size wr ((wr.alloc (.cells #[.int .i64 0, .int .i64 0, .int .i64 0, .slice none 0 0, .int .i64 0] 44)).setRow wr.heap.size #[.int .i64 x.what, .int .i64 x.n, .int .i64 x.m, .slice x.b.a x.b.l.length x.b.c, .int .i64 x.torn]) := bsetRow (ext_alloc wr _) (Nat.le_refl _) _
        have m0 := cell_of_row _ _ 0 _ _ _ hput
        have m1 := cell_of_row _ _ 1 _ _ _ hput
        have m2 := cell_of_row _ _ 2 _ _ _ hput
        have m3 := cell_of_row _ _ 3 _ _ _ hput
        have m4 := cell_of_row _ _ 4 _ _ _ hput
        go_wp2_with (first
          | (refine wpList_store_row rfl rfl 44 (.tmp 12) (.tmp 77) rfl wr.heap.size rfl 44 #[.int .i64 0, .int .i64 0, .int .i64 0, .slice none 0 0, .int .i64 0] #[.int .i64 x.what, .int .i64 x.n, .int .i64 x.m, .slice x.b.a x.b.l.length x.b.c, .int .i64 x.torn] rfl (heap_alloc_new wr _) rfl (by kernel_rfl) (by intro v hv; simp at hv; rcases hv with rfl | rfl | rfl | rfl | rfl <;> rfl) ?_))
        generalize hws : World.setRow _ _ _ = w1 at *
        have HD1 := Lib.hid (HD.out.ext hbp)
        have HB1 := Lib.hid (bthen HBv.out hbp (Nat.le_refl _))
        have Hok1 := Lib.hid (show A5ok w1 x from ⟨Hok5.out.1.ext hbp, Hok5.out.2⟩)
        clear hws hbp c0 c1 c2 c3 c4 m0
        generalize wr.heap.size = GA at *
        refine (HD1.out.real0 (fun K hd => drv_start hd HS0.out (by have := HS1.out; omega))).mono ?_
        rintro e w2x ⟨rfl, hd2, hm2⟩
        have HD2 := Lib.hid hd2
        have HB2 := Lib.hid (HB1.out.trans (hm2.below (fun b T h => h.1) HB1.out.size))
        have m1 := (World.cell?_of_block (w := w1) ((hm2.keep hput (fun hf => TDF_noA _ hf)).trans hput.symm)).trans m1
        have m4 := (World.cell?_of_block (w := w1) ((hm2.keep hput (fun hf => TDF_noA _ hf)).trans hput.symm)).trans m4
        skip
        clear hd2 hm2 m2 m3
        go_wp2_with fail
        refine (HD2.out.ref0 (fun Z hd => rdrv_start hd HS0.out (by have := HS1.out; omega))).mono ?_
        rintro e wy ⟨rfl, hd3, hm3⟩
        obtain ⟨mE, pE, sE, HDE, HGE, HCE, HLE, HBE⟩ : ∃ mE pE sE, Hid (TwoD w3.heap.size 0 0 wy d g rd q mE pE sE mE pE sE) ∧ Hid (DGood mE pE) ∧ Hid (mE.cap = cap) ∧ Hid (0 ≤ sE.life ∧ sE.life ≤ ((t + 1 : Nat) : Int)) ∧ Hid (Below w3.heap.size w3 wy) := ⟨_, _, _, Lib.hid hd3, HG, HC, Lib.hid (by have h0 := HS0.out; have h1 := HS1.out; rcases start_life0 (s := s) with h | h <;> rw [h] <;> omega), Lib.hid (HB2.out.trans (hm3.below (fun b T h => h.1) HB2.out.size))⟩
        clear hd3 hm3 HD2 HB2 m1 m4
        go_wp2_with fail
        clear HD1 HD HG HC HS0 HS1 HBv HLr Tr
        -- a round's end: world wy, HDE (TwoD with mE pE sE), HGE, HCE, HLE (life), HBE (Below)
        obtain ⟨KT, hKT⟩ := HDE.out.realP
        refine (drv_mediumP wy hKT (Nat.le_trans HGE.out.len (by decide)) HGE.out.short).mono ?_
        rintro e wz ⟨aX, cX, csX, kX, rfl, hMX, hcX, hbX⟩
        obtain ⟨hTX, hSX⟩ := TapeO.new mE.cap rfl hMX hcX
        have hzX := heap_alloc_new wz (.cells #[.int .i64 0, .slice none 0 0] 24)
        have hbyX := bthen hbX hSX (Nat.le_refl _)
        go_wp2_with (refine wpList_store_row rfl rfl 24 (.tmp 18) (.tmp 189) rfl wz.heap.size rfl 24 #[.int .i64 0, .slice none 0 0] #[.int .i64 mE.cap, .slice aX kX cX] rfl hzX rfl (by kernel_rfl) (by simp [Value.oneCell']) ?_)
        clear hzX hMX hbX hSX hKT
        generalize (wz.alloc (.cells #[.int .i64 0, .slice none 0 0] 24)).setRow wz.heap.size #[.int .i64 mE.cap, .slice aX kX cX] = wX at *
        generalize wz.heap.size = GX at *
        have HTX := Lib.hid hTX
        have HYX := Lib.hid hbyX
        have HDX := Lib.hid (HDE.out.ext hbyX)
        have HTm := Lib.hid (T.out.ext (bthen HBE.out hbyX (Nat.le_refl _)))
        clear hTX hbyX
        obtain ⟨x0, x1⟩ := HTX.out.box.cells
        have hlX := heap_lt HTX.out.box
        obtain ⟨t0, _⟩ := HTm.out.box.cells
        have hlT := heap_lt HTm.out.box
        dsimp only at t0
        obtain ⟨Z, ⟨aR, kR, cR, csR, hR, _⟩, _⟩ := HDX.out.refP
        obtain ⟨r0, r1, r2, r3⟩ := hR.cells
        have hlR := heap_lt hR.obj
        have HR := Lib.hid hR
        have hwl : IntKind.i64.wrap (cap - pE) = cap - pE := by
          have := HGE.out.at0
          rw [HCE.out] at this
          rw [IntKind.wrap_i64]; omega
        clear hR r0
        refine wp_region_phase (by kernel_rfl) [] (by kernel_rfl) (by kernel_rfl) ?_
        refine stage_last [Sp.eq (.pointer (some ⟨d, 0, none⟩)), Sp.eq (.pointer (some ⟨d, 0, none⟩)), Sp.eq (.pointer (some ⟨d, 0, none⟩)), Sp.eq (.int .i64 pE), Sp.eq (.pointer (some ⟨rd, 0, none⟩)), Sp.eq (.pointer (some ⟨rd, 0, none⟩)), Sp.eq (.pointer (some ⟨rd, 3, none⟩)), Sp.eq (.int .i64 pE), Sp.eq (.bool false), Sp.eq (.bool false), Sp.eq (.pointer (some ⟨d, 0, none⟩)), Sp.eq (.pointer (some ⟨d, 0, none⟩)), Sp.eq (.pointer (some ⟨d, 0, none⟩)), Sp.eq (.int .i64 (cap - pE)), Sp.eq (.pointer (some ⟨w.heap.size, 0, none⟩)), Sp.eq (.int .i64 cap), Sp.eq (.pointer (some ⟨rd, 0, none⟩)), Sp.eq (.pointer (some ⟨rd, 0, none⟩)), Sp.eq (.pointer (some ⟨rd, 3, none⟩)), Sp.eq (.int .i64 pE), Sp.eq (.int .i64 (cap - pE)), Sp.eq (.bool false), Sp.eq (.bool false), Sp.eq (.bool false), Sp.eq (.agg #[.int .i64 mE.cap, .slice aX kX cX]), Sp.eq (.pointer (some ⟨rd, 0, none⟩)), Sp.eq (.pointer (some ⟨rd, 0, none⟩)), Sp.eq (.pointer (some ⟨rd, 1, none⟩)), Sp.eq (.agg #[.int .i64 mE.cap, .slice aR kR cR]), Sp.eq (.bool true), Sp.eq (.bool false), Sp.eq (.bool false)] ?_ ?_
        · refine stepsG_cons ?_ (stepsG_cons ?_ (stepsG_cons ?_ (stepsG_cons ?_ (stepsG_cons ?_ (stepsG_cons ?_ (stepsG_cons ?_ (stepsG_cons ?_ (stepsG_cons ?_ (stepsG_cons ?_ (stepsG_cons ?_ (stepsG_cons ?_ (stepsG_cons ?_ (stepsG_cons ?_ (stepsG_cons ?_ (stepsG_cons ?_ (stepsG_cons ?_ (stepsG_cons ?_ (stepsG_cons ?_ (stepsG_cons ?_ (stepsG_cons ?_ (stepsG_cons ?_ (stepsG_cons ?_ (stepsG_cons ?_ (stepsG_cons ?_ (stepsG_cons ?_ (stepsG_cons ?_ (stepsG_cons ?_ (stepsG_cons ?_ (stepsG_cons ?_ (stepsG_cons ?_ (stepsG_cons ?_ (stepsG_nil))))))))))))))))))))))))))))))))
          · intro ρ w' E
            have e8 : ρ (.tmp 8) = .pointer (some ⟨d, 0, none⟩) := E.out 8 rfl
            refine step_plain rfl ?_
            exact op_move (.inl rfl) e8 ⟨Below.refl _ _, rfl⟩
          · intro ρ w' E
            have e190 : ρ (.tmp 190) = .pointer (some ⟨d, 0, none⟩) := E.pre 0 rfl rfl
            refine step_plain rfl ?_
            refine op_val (v := .pointer (some ⟨d, 0, none⟩)) (w' := w') ?_ ⟨Below.refl _ _, rfl⟩
            have hcon := E.con
            clear E
            go_simp
          · intro ρ w' E
            have e191 : ρ (.tmp 191) = .pointer (some ⟨d, 0, none⟩) := E.pre 1 rfl rfl
            refine step_plain rfl ?_
            refine op_val (v := .pointer (some ⟨d, 0, none⟩)) (w' := w') ?_ ⟨Below.refl _ _, rfl⟩
            have hcon := E.con
            clear E
            go_simp
          · intro ρ w' E
            have e192 : ρ (.tmp 192) = .pointer (some ⟨d, 0, none⟩) := E.pre 2 rfl rfl
            refine step_plain rfl ?_
            refine op_call (f := 38) (args := #[.pointer (some ⟨d, 0, none⟩)]) (w' := w') (by have hcon := E.con; have hfn := E.fn; clear E; go_simp) ?_
            obtain ⟨KD, hKD⟩ := (HDX.out.ext E.below).realP
            refine (drv_placeP w' hKD).mono ?_
            rintro e w2 ⟨rfl, rfl⟩
            exact ⟨_, rfl, Below.refl _ _, rfl⟩
          · intro ρ w' E
            have e10 : ρ (.tmp 10) = .pointer (some ⟨rd, 0, none⟩) := E.out 10 rfl
            refine step_plain rfl ?_
            exact op_move (.inl rfl) e10 ⟨Below.refl _ _, rfl⟩
          · intro ρ w' E
            have e194 : ρ (.tmp 194) = .pointer (some ⟨rd, 0, none⟩) := E.pre 4 rfl rfl
            refine step_plain rfl ?_
            refine op_val (v := .pointer (some ⟨rd, 0, none⟩)) (w' := w') ?_ ⟨Below.refl _ _, rfl⟩
            have hcon := E.con
            clear E
            go_simp
          · intro ρ w' E
            have e195 : ρ (.tmp 195) = .pointer (some ⟨rd, 0, none⟩) := E.pre 5 rfl rfl
            refine step_plain rfl ?_
            refine op_val (v := .pointer (some ⟨rd, 3, none⟩)) (w' := w') ?_ ⟨Below.refl _ _, rfl⟩
            have hcon := E.con
            clear E
            go_simp
          · intro ρ w' E
            have e196 : ρ (.tmp 196) = .pointer (some ⟨rd, 3, none⟩) := E.pre 6 rfl rfl
            refine step_plain rfl ?_
            refine op_val (v := .int .i64 pE) (w' := w') ?_ ⟨Below.refl _ _, rfl⟩
            have k3 := (World.cell?_of_block (w := wX) (E.below.block _ hlR)).trans r3
            have hcon := E.con
            clear E r1 r2 r3
            go_simp
          · intro ρ w' E
            have e193 : ρ (.tmp 193) = .int .i64 pE := E.pre 3 rfl rfl
            have e197 : ρ (.tmp 197) = .int .i64 pE := E.pre 7 rfl rfl
            refine step_plain rfl ?_
            refine op_val (v := .bool false) (w' := w') ?_ ⟨Below.refl _ _, rfl⟩
            have hcon := E.con
            clear E
            go_simp
          · intro ρ w' E
            have e198 : ρ (.tmp 198) = .bool false := E.pre 8 rfl rfl
            refine step_plain rfl ?_
            exact op_move (.inl rfl) e198 ⟨Below.refl _ _, rfl⟩
          · intro ρ w' E
            have e8 : ρ (.tmp 8) = .pointer (some ⟨d, 0, none⟩) := E.out 8 rfl
            refine step_yes rfl (E.pre 9 rfl rfl) ?_
            exact op_move (.inl rfl) e8 ⟨Below.refl _ _, rfl⟩
          · intro ρ w' E
            have e200 : ρ (.tmp 200) = .pointer (some ⟨d, 0, none⟩) := E.pre 10 rfl rfl
            refine step_yes rfl (E.pre 9 rfl rfl) ?_
            refine op_val (v := .pointer (some ⟨d, 0, none⟩)) (w' := w') ?_ ⟨Below.refl _ _, rfl⟩
            have hcon := E.con
            clear E
            go_simp
          · intro ρ w' E
            have e201 : ρ (.tmp 201) = .pointer (some ⟨d, 0, none⟩) := E.pre 11 rfl rfl
            refine step_yes rfl (E.pre 9 rfl rfl) ?_
            refine op_val (v := .pointer (some ⟨d, 0, none⟩)) (w' := w') ?_ ⟨Below.refl _ _, rfl⟩
            have hcon := E.con
            clear E
            go_simp
          · intro ρ w' E
            have e202 : ρ (.tmp 202) = .pointer (some ⟨d, 0, none⟩) := E.pre 12 rfl rfl
            refine step_yes rfl (E.pre 9 rfl rfl) ?_
            refine op_call (f := 39) (args := #[.pointer (some ⟨d, 0, none⟩)]) (w' := w') (by have hcon := E.con; have hfn := E.fn; clear E; go_simp) ?_
            obtain ⟨KD, hKD⟩ := (HDX.out.ext E.below).realP
            refine (drv_leftP (cap - pE) w' hKD (by rw [HCE.out]) (by have := HGE.out.at0; rw [HCE.out] at this; omega) (by have := HGE.out.at0; rw [HCE.out] at this; omega)).mono ?_
            rintro e w2 ⟨rfl, hb⟩
            exact ⟨_, rfl, hb, rfl⟩
          · intro ρ w' E
            have e2 : ρ (.tmp 2) = .pointer (some ⟨w.heap.size, 0, none⟩) := E.out 2 rfl
            refine step_yes rfl (E.pre 9 rfl rfl) ?_
            refine op_val (v := .pointer (some ⟨w.heap.size, 0, none⟩)) (w' := w') ?_ ⟨Below.refl _ _, rfl⟩
            have hcon := E.con
            clear E
            go_simp
          · intro ρ w' E
            have e204 : ρ (.tmp 204) = .pointer (some ⟨w.heap.size, 0, none⟩) := E.pre 14 rfl rfl
            refine step_yes rfl (E.pre 9 rfl rfl) ?_
            refine op_val (v := .int .i64 cap) (w' := w') ?_ ⟨Below.refl _ _, rfl⟩
            have k0 := (World.cell?_of_block (w := wX) (E.below.block _ hlT)).trans t0
            have hcon := E.con
            clear E r1 r2 r3
            go_simp
          · intro ρ w' E
            have e10 : ρ (.tmp 10) = .pointer (some ⟨rd, 0, none⟩) := E.out 10 rfl
            refine step_yes rfl (E.pre 9 rfl rfl) ?_
            exact op_move (.inl rfl) e10 ⟨Below.refl _ _, rfl⟩
          · intro ρ w' E
            have e206 : ρ (.tmp 206) = .pointer (some ⟨rd, 0, none⟩) := E.pre 16 rfl rfl
            refine step_yes rfl (E.pre 9 rfl rfl) ?_
            refine op_val (v := .pointer (some ⟨rd, 0, none⟩)) (w' := w') ?_ ⟨Below.refl _ _, rfl⟩
            have hcon := E.con
            clear E
            go_simp
          · intro ρ w' E
            have e207 : ρ (.tmp 207) = .pointer (some ⟨rd, 0, none⟩) := E.pre 17 rfl rfl
            refine step_yes rfl (E.pre 9 rfl rfl) ?_
            refine op_val (v := .pointer (some ⟨rd, 3, none⟩)) (w' := w') ?_ ⟨Below.refl _ _, rfl⟩
            have hcon := E.con
            clear E
            go_simp
          · intro ρ w' E
            have e208 : ρ (.tmp 208) = .pointer (some ⟨rd, 3, none⟩) := E.pre 18 rfl rfl
            refine step_yes rfl (E.pre 9 rfl rfl) ?_
            refine op_val (v := .int .i64 pE) (w' := w') ?_ ⟨Below.refl _ _, rfl⟩
            have k3 := (World.cell?_of_block (w := wX) (E.below.block _ hlR)).trans r3
            have hcon := E.con
            clear E r1 r2 r3
            go_simp
          · intro ρ w' E
            have e205 : ρ (.tmp 205) = .int .i64 cap := E.pre 15 rfl rfl
            have e209 : ρ (.tmp 209) = .int .i64 pE := E.pre 19 rfl rfl
            refine step_yes rfl (E.pre 9 rfl rfl) ?_
            refine op_val (v := .int .i64 (cap - pE)) (w' := w') ?_ ⟨Below.refl _ _, rfl⟩
            have hw := hwl
            have hcon := E.con
            clear E
            go_simp
          · intro ρ w' E
            have e203 : ρ (.tmp 203) = .int .i64 (cap - pE) := E.pre 13 rfl rfl
            have e210 : ρ (.tmp 210) = .int .i64 (cap - pE) := E.pre 20 rfl rfl
            refine step_yes rfl (E.pre 9 rfl rfl) ?_
            refine op_val (v := .bool false) (w' := w') ?_ ⟨Below.refl _ _, rfl⟩
            have hcon := E.con
            clear E
            go_simp
          · intro ρ w' E
            have e199 : ρ (.tmp 199) = .bool false := E.pre 9 rfl rfl
            have e211 : ρ (.tmp 211) = .bool false := E.pre 21 rfl rfl
            refine step_plain rfl ?_
            exact op_pick (b := false) rfl e199 rfl ⟨Below.refl _ _, e211⟩
          · intro ρ w' E
            have e212 : ρ (.tmp 212) = .bool false := E.pre 22 rfl rfl
            refine step_plain rfl ?_
            exact op_move (.inl rfl) e212 ⟨Below.refl _ _, rfl⟩
          · intro ρ w' E
            have e18 : ρ (.tmp 18) = .pointer (some ⟨GX, 0, none⟩) := E.out 18 rfl
            refine step_yes rfl (E.pre 23 rfl rfl) ?_
            refine op_val (v := .agg #[.int .i64 mE.cap, .slice aX kX cX]) (w' := w') ?_ ⟨Below.refl _ _, rfl⟩
            have k1 := (World.cell?_of_block (w := wX) (E.below.block _ hlX)).trans x0
            have k2 := (World.cell?_of_block (w := wX) (E.below.block _ hlX)).trans x1
            have hcon := E.con
            clear E x0 x1 r1 r2 r3
            go_simp
          · intro ρ w' E
            have e10 : ρ (.tmp 10) = .pointer (some ⟨rd, 0, none⟩) := E.out 10 rfl
            refine step_yes rfl (E.pre 23 rfl rfl) ?_
            exact op_move (.inl rfl) e10 ⟨Below.refl _ _, rfl⟩
          · intro ρ w' E
            have e215 : ρ (.tmp 215) = .pointer (some ⟨rd, 0, none⟩) := E.pre 25 rfl rfl
            refine step_yes rfl (E.pre 23 rfl rfl) ?_
            refine op_val (v := .pointer (some ⟨rd, 0, none⟩)) (w' := w') ?_ ⟨Below.refl _ _, rfl⟩
            have hcon := E.con
            clear E
            go_simp
          · intro ρ w' E
            have e216 : ρ (.tmp 216) = .pointer (some ⟨rd, 0, none⟩) := E.pre 26 rfl rfl
            refine step_yes rfl (E.pre 23 rfl rfl) ?_
            refine op_val (v := .pointer (some ⟨rd, 1, none⟩)) (w' := w') ?_ ⟨Below.refl _ _, rfl⟩
            have hcon := E.con
            clear E
            go_simp
          · intro ρ w' E
            have e217 : ρ (.tmp 217) = .pointer (some ⟨rd, 1, none⟩) := E.pre 27 rfl rfl
            refine step_yes rfl (E.pre 23 rfl rfl) ?_
            refine op_val (v := .agg #[.int .i64 mE.cap, .slice aR kR cR]) (w' := w') ?_ ⟨Below.refl _ _, rfl⟩
            have k1 := (World.cell?_of_block (w := wX) (E.below.block _ hlR)).trans r1
            have k2 := (World.cell?_of_block (w := wX) (E.below.block _ hlR)).trans r2
            have hcon := E.con
            clear E r1 r2 r3
            go_simp
          · intro ρ w' E
            have e214 : ρ (.tmp 214) = .agg #[.int .i64 mE.cap, .slice aX kX cX] := E.pre 24 rfl rfl
            have e218 : ρ (.tmp 218) = .agg #[.int .i64 mE.cap, .slice aR kR cR] := E.pre 28 rfl rfl
            refine step_yes rfl (E.pre 23 rfl rfl) ?_
            refine op_call (f := 40) (args := #[.agg #[.int .i64 mE.cap, .slice aX kX cX], .agg #[.int .i64 mE.cap, .slice aR kR cR]]) (w' := w') (by have hcon := E.con; have hfn := E.fn; clear E; go_simp) ?_
            refine (keepmed_any mE.cap mE.cap aX aR cX kX cR kR csX csR true w' (HTX.out.r.ext E.below).mat (HR.out.r.ext E.below).mat HTX.out.r.len.symm HR.out.r.len.symm HTX.out.r.len63 HR.out.r.len63 (by rw [HTX.out.r.pls, HR.out.r.pls]; simp)).mono ?_
            rintro e w2 ⟨rfl, hb⟩
            exact ⟨_, rfl, hb, rfl⟩
          · intro ρ w' E
            have e219 : ρ (.tmp 219) = .bool true := E.pre 29 rfl rfl
            refine step_yes rfl (E.pre 23 rfl rfl) ?_
            refine op_val (v := .bool false) (w' := w') ?_ ⟨Below.refl _ _, rfl⟩
            have hcon := E.con
            clear E
            go_simp
          · intro ρ w' E
            have e213 : ρ (.tmp 213) = .bool false := E.pre 23 rfl rfl
            have e220 : ρ (.tmp 220) = .bool false := E.pre 30 rfl rfl
            refine step_plain rfl ?_
            exact op_pick (b := false) rfl e213 rfl ⟨Below.refl _ _, e220⟩
        · intro σF wF GF OF HF
          have s221 : σF 221 = .bool false := HF 31 rfl rfl
          clear OF HF
          simp only [upd, updL, dstsOf', elemB, List.filterMap_cons, List.filterMap_nil, Nat.reduceAdd, Nat.reduceBEq, Bool.or_false, Bool.or_true, cond_true, cond_false, Nat.zero_add, s221]
          have HTF := Lib.hid (HTX.out.ext GF)
          have HYF := Lib.hid (bthen HYX.out GF (Nat.le_refl _))
          clear GF x0 x1 r1 r2 r3 t0 s221 HTX HYX HDX HTm HR
          obtain ⟨x0, x1⟩ := HTF.out.box.cells
          go_wp2_with fail
          refine (spoilmed_any wy.heap.size wF.heap.size mE.cap aX cX kX csX wF HTF.out.r.own HTF.out.r.len.symm (by have := HTF.out.r.size; have := HGE.out.len; omega) (HTF.out.r.short HGE.out.short) HYF.out.size (fun x hx hn0 => HTF.out.r.own.row.bnd x hx (.inl (by rw [HTF.out.r.len]; exact hn0))) (fun y hy hy0 x hx => (HTF.out.r.own.dat y hy).bnd x hx (.inl (by rw [Ne, List.length_eq_zero_iff]; exact hy0)))).mono ?_
          rintro e wG ⟨rfl, hbG, -⟩
          have HGF := Lib.hid (HYF.out.trans hbG)
          clear hbG x0 x1
          go_wp2_with fail
          go_roundw
          case rel => exact ⟨t + 1, mE, pE, sE, _, rfl, by omega, by omega, by go_num, HDE.out.ext HGF.out, HGE.out, HCE.out, HLE.out.1, HLE.out.2, bthen HBE.out HGF.out (Nat.le_refl _)⟩
          case measure => simp [intOf]; omega
      by_cases hz11 : z = 11
      · have e3 : ((z : Int) == 3) = false := by simp; omega
        have e4 : ((z : Int) == 4) = false := by simp; omega
        have e5 : ((z : Int) == 5) = false := by simp; omega
        have e6 : ((z : Int) == 6) = false := by simp; omega
        have e7 : ((z : Int) == 7) = false := by simp; omega
        have e8 : ((z : Int) == 8) = false := by simp; omega
        have e9 : ((z : Int) == 9) = false := by simp; omega
        have e10 : ((z : Int) == 10) = false := by simp; omega
        have e11 : ((z : Int) == 11) = true := by simp; omega
        have hput := setRow_heap (wr.alloc (.cells #[.int .i64 0, .int .i64 0, .int .i64 0, .slice none 0 0, .int .i64 0] 44)) wr.heap.size _ #[.int .i64 x.what, .int .i64 x.n, .int .i64 x.m, .slice x.b.a x.b.l.length x.b.c, .int .i64 x.torn] _ _ (heap_alloc_new wr _)
        have hbp : Below wr.heap.size wr ((wr.alloc (.cells #[.int .i64 0, .int .i64 0, .int .i64 0, .slice none 0 0, .int .i64 0] 44)).setRow wr.heap.size #[.int .i64 x.what, .int .i64 x.n, .int .i64 x.m, .slice x.b.a x.b.l.length x.b.c, .int .i64 x.torn]) := bsetRow (ext_alloc wr _) (Nat.le_refl _) _
        have m0 := cell_of_row _ _ 0 _ _ _ hput
        have m1 := cell_of_row _ _ 1 _ _ _ hput
        have m2 := cell_of_row _ _ 2 _ _ _ hput
        have m3 := cell_of_row _ _ 3 _ _ _ hput
        have m4 := cell_of_row _ _ 4 _ _ _ hput
        go_wp2_with (first
          | (refine wpList_store_row rfl rfl 44 (.tmp 12) (.tmp 77) rfl wr.heap.size rfl 44 #[.int .i64 0, .int .i64 0, .int .i64 0, .slice none 0 0, .int .i64 0] #[.int .i64 x.what, .int .i64 x.n, .int .i64 x.m, .slice x.b.a x.b.l.length x.b.c, .int .i64 x.torn] rfl (heap_alloc_new wr _) rfl (by kernel_rfl) (by intro v hv; simp at hv; rcases hv with rfl | rfl | rfl | rfl | rfl <;> rfl) ?_))
        generalize hws : World.setRow _ _ _ = w1 at *
        have HD1 := Lib.hid (HD.out.ext hbp)
        have HB1 := Lib.hid (bthen HBv.out hbp (Nat.le_refl _))
        have Hok1 := Lib.hid (show A5ok w1 x from ⟨Hok5.out.1.ext hbp, Hok5.out.2⟩)
        clear hws hbp c0 c1 c2 c3 c4 m0
        generalize wr.heap.size = GA at *
        refine (HD1.out.real0 (fun K hd => drv_cut x.torn hd)).mono ?_
        rintro e w2x ⟨rfl, hd2, hm2⟩
        have HD2 := Lib.hid hd2
        have HB2 := Lib.hid (HB1.out.trans (hm2.below (fun b T h => h.1) HB1.out.size))
        have m1 := (World.cell?_of_block (w := w1) ((hm2.keep hput (fun hf => TDF_noA _ hf)).trans hput.symm)).trans m1
        have m4 := (World.cell?_of_block (w := w1) ((hm2.keep hput (fun hf => TDF_noA _ hf)).trans hput.symm)).trans m4
        skip
        clear hd2 hm2 m2 m3
        go_wp2_with fail
        refine (HD2.out.ref0 (fun Z hd => rdrv_cut x.torn hd)).mono ?_
        rintro e wy ⟨rfl, hd3, hm3⟩
        obtain ⟨mE, pE, sE, HDE, HGE, HCE, HLE, HBE⟩ : ∃ mE pE sE, Hid (TwoD w3.heap.size 0 0 wy d g rd q mE pE sE mE pE sE) ∧ Hid (DGood mE pE) ∧ Hid (mE.cap = cap) ∧ Hid (0 ≤ sE.life ∧ sE.life ≤ ((t + 1 : Nat) : Int)) ∧ Hid (Below w3.heap.size w3 wy) := ⟨_, _, _, Lib.hid hd3, HG, HC, Lib.hid (by have h0 := HS0.out; have h1 := HS1.out; rw [cut_life0]; omega), Lib.hid (HB2.out.trans (hm3.below (fun b T h => h.1) HB2.out.size))⟩
        clear hd3 hm3 HD2 HB2 m1 m4
        go_wp2_with fail
        clear HD1 HD HG HC HS0 HS1 HBv HLr Tr
        -- a round's end: world wy, HDE (TwoD with mE pE sE), HGE, HCE, HLE (life), HBE (Below)
        obtain ⟨KT, hKT⟩ := HDE.out.realP
        refine (drv_mediumP wy hKT (Nat.le_trans HGE.out.len (by decide)) HGE.out.short).mono ?_
        rintro e wz ⟨aX, cX, csX, kX, rfl, hMX, hcX, hbX⟩
        obtain ⟨hTX, hSX⟩ := TapeO.new mE.cap rfl hMX hcX
        have hzX := heap_alloc_new wz (.cells #[.int .i64 0, .slice none 0 0] 24)
        have hbyX := bthen hbX hSX (Nat.le_refl _)
        go_wp2_with (refine wpList_store_row rfl rfl 24 (.tmp 18) (.tmp 189) rfl wz.heap.size rfl 24 #[.int .i64 0, .slice none 0 0] #[.int .i64 mE.cap, .slice aX kX cX] rfl hzX rfl (by kernel_rfl) (by simp [Value.oneCell']) ?_)
        clear hzX hMX hbX hSX hKT
        generalize (wz.alloc (.cells #[.int .i64 0, .slice none 0 0] 24)).setRow wz.heap.size #[.int .i64 mE.cap, .slice aX kX cX] = wX at *
        generalize wz.heap.size = GX at *
        have HTX := Lib.hid hTX
        have HYX := Lib.hid hbyX
        have HDX := Lib.hid (HDE.out.ext hbyX)
        have HTm := Lib.hid (T.out.ext (bthen HBE.out hbyX (Nat.le_refl _)))
        clear hTX hbyX
        obtain ⟨x0, x1⟩ := HTX.out.box.cells
        have hlX := heap_lt HTX.out.box
        obtain ⟨t0, _⟩ := HTm.out.box.cells
        have hlT := heap_lt HTm.out.box
        dsimp only at t0
        obtain ⟨Z, ⟨aR, kR, cR, csR, hR, _⟩, _⟩ := HDX.out.refP
        obtain ⟨r0, r1, r2, r3⟩ := hR.cells
        have hlR := heap_lt hR.obj
        have HR := Lib.hid hR
        have hwl : IntKind.i64.wrap (cap - pE) = cap - pE := by
          have := HGE.out.at0
          rw [HCE.out] at this
          rw [IntKind.wrap_i64]; omega
        clear hR r0
        refine wp_region_phase (by kernel_rfl) [] (by kernel_rfl) (by kernel_rfl) ?_
        refine stage_last [Sp.eq (.pointer (some ⟨d, 0, none⟩)), Sp.eq (.pointer (some ⟨d, 0, none⟩)), Sp.eq (.pointer (some ⟨d, 0, none⟩)), Sp.eq (.int .i64 pE), Sp.eq (.pointer (some ⟨rd, 0, none⟩)), Sp.eq (.pointer (some ⟨rd, 0, none⟩)), Sp.eq (.pointer (some ⟨rd, 3, none⟩)), Sp.eq (.int .i64 pE), Sp.eq (.bool false), Sp.eq (.bool false), Sp.eq (.pointer (some ⟨d, 0, none⟩)), Sp.eq (.pointer (some ⟨d, 0, none⟩)), Sp.eq (.pointer (some ⟨d, 0, none⟩)), Sp.eq (.int .i64 (cap - pE)), Sp.eq (.pointer (some ⟨w.heap.size, 0, none⟩)), Sp.eq (.int .i64 cap), Sp.eq (.pointer (some ⟨rd, 0, none⟩)), Sp.eq (.pointer (some ⟨rd, 0, none⟩)), Sp.eq (.pointer (some ⟨rd, 3, none⟩)), Sp.eq (.int .i64 pE), Sp.eq (.int .i64 (cap - pE)), Sp.eq (.bool false), Sp.eq (.bool false), Sp.eq (.bool false), Sp.eq (.agg #[.int .i64 mE.cap, .slice aX kX cX]), Sp.eq (.pointer (some ⟨rd, 0, none⟩)), Sp.eq (.pointer (some ⟨rd, 0, none⟩)), Sp.eq (.pointer (some ⟨rd, 1, none⟩)), Sp.eq (.agg #[.int .i64 mE.cap, .slice aR kR cR]), Sp.eq (.bool true), Sp.eq (.bool false), Sp.eq (.bool false)] ?_ ?_
        · refine stepsG_cons ?_ (stepsG_cons ?_ (stepsG_cons ?_ (stepsG_cons ?_ (stepsG_cons ?_ (stepsG_cons ?_ (stepsG_cons ?_ (stepsG_cons ?_ (stepsG_cons ?_ (stepsG_cons ?_ (stepsG_cons ?_ (stepsG_cons ?_ (stepsG_cons ?_ (stepsG_cons ?_ (stepsG_cons ?_ (stepsG_cons ?_ (stepsG_cons ?_ (stepsG_cons ?_ (stepsG_cons ?_ (stepsG_cons ?_ (stepsG_cons ?_ (stepsG_cons ?_ (stepsG_cons ?_ (stepsG_cons ?_ (stepsG_cons ?_ (stepsG_cons ?_ (stepsG_cons ?_ (stepsG_cons ?_ (stepsG_cons ?_ (stepsG_cons ?_ (stepsG_cons ?_ (stepsG_cons ?_ (stepsG_nil))))))))))))))))))))))))))))))))
          · intro ρ w' E
            have e8 : ρ (.tmp 8) = .pointer (some ⟨d, 0, none⟩) := E.out 8 rfl
            refine step_plain rfl ?_
            exact op_move (.inl rfl) e8 ⟨Below.refl _ _, rfl⟩
          · intro ρ w' E
            have e190 : ρ (.tmp 190) = .pointer (some ⟨d, 0, none⟩) := E.pre 0 rfl rfl
            refine step_plain rfl ?_
            refine op_val (v := .pointer (some ⟨d, 0, none⟩)) (w' := w') ?_ ⟨Below.refl _ _, rfl⟩
            have hcon := E.con
            clear E
            go_simp
          · intro ρ w' E
            have e191 : ρ (.tmp 191) = .pointer (some ⟨d, 0, none⟩) := E.pre 1 rfl rfl
            refine step_plain rfl ?_
            refine op_val (v := .pointer (some ⟨d, 0, none⟩)) (w' := w') ?_ ⟨Below.refl _ _, rfl⟩
            have hcon := E.con
            clear E
            go_simp
          · intro ρ w' E
            have e192 : ρ (.tmp 192) = .pointer (some ⟨d, 0, none⟩) := E.pre 2 rfl rfl
            refine step_plain rfl ?_
            refine op_call (f := 38) (args := #[.pointer (some ⟨d, 0, none⟩)]) (w' := w') (by have hcon := E.con; have hfn := E.fn; clear E; go_simp) ?_
            obtain ⟨KD, hKD⟩ := (HDX.out.ext E.below).realP
            refine (drv_placeP w' hKD).mono ?_
            rintro e w2 ⟨rfl, rfl⟩
            exact ⟨_, rfl, Below.refl _ _, rfl⟩
          · intro ρ w' E
            have e10 : ρ (.tmp 10) = .pointer (some ⟨rd, 0, none⟩) := E.out 10 rfl
            refine step_plain rfl ?_
            exact op_move (.inl rfl) e10 ⟨Below.refl _ _, rfl⟩
          · intro ρ w' E
            have e194 : ρ (.tmp 194) = .pointer (some ⟨rd, 0, none⟩) := E.pre 4 rfl rfl
            refine step_plain rfl ?_
            refine op_val (v := .pointer (some ⟨rd, 0, none⟩)) (w' := w') ?_ ⟨Below.refl _ _, rfl⟩
            have hcon := E.con
            clear E
            go_simp
          · intro ρ w' E
            have e195 : ρ (.tmp 195) = .pointer (some ⟨rd, 0, none⟩) := E.pre 5 rfl rfl
            refine step_plain rfl ?_
            refine op_val (v := .pointer (some ⟨rd, 3, none⟩)) (w' := w') ?_ ⟨Below.refl _ _, rfl⟩
            have hcon := E.con
            clear E
            go_simp
          · intro ρ w' E
            have e196 : ρ (.tmp 196) = .pointer (some ⟨rd, 3, none⟩) := E.pre 6 rfl rfl
            refine step_plain rfl ?_
            refine op_val (v := .int .i64 pE) (w' := w') ?_ ⟨Below.refl _ _, rfl⟩
            have k3 := (World.cell?_of_block (w := wX) (E.below.block _ hlR)).trans r3
            have hcon := E.con
            clear E r1 r2 r3
            go_simp
          · intro ρ w' E
            have e193 : ρ (.tmp 193) = .int .i64 pE := E.pre 3 rfl rfl
            have e197 : ρ (.tmp 197) = .int .i64 pE := E.pre 7 rfl rfl
            refine step_plain rfl ?_
            refine op_val (v := .bool false) (w' := w') ?_ ⟨Below.refl _ _, rfl⟩
            have hcon := E.con
            clear E
            go_simp
          · intro ρ w' E
            have e198 : ρ (.tmp 198) = .bool false := E.pre 8 rfl rfl
            refine step_plain rfl ?_
            exact op_move (.inl rfl) e198 ⟨Below.refl _ _, rfl⟩
          · intro ρ w' E
            have e8 : ρ (.tmp 8) = .pointer (some ⟨d, 0, none⟩) := E.out 8 rfl
            refine step_yes rfl (E.pre 9 rfl rfl) ?_
            exact op_move (.inl rfl) e8 ⟨Below.refl _ _, rfl⟩
          · intro ρ w' E
            have e200 : ρ (.tmp 200) = .pointer (some ⟨d, 0, none⟩) := E.pre 10 rfl rfl
            refine step_yes rfl (E.pre 9 rfl rfl) ?_
            refine op_val (v := .pointer (some ⟨d, 0, none⟩)) (w' := w') ?_ ⟨Below.refl _ _, rfl⟩
            have hcon := E.con
            clear E
            go_simp
          · intro ρ w' E
            have e201 : ρ (.tmp 201) = .pointer (some ⟨d, 0, none⟩) := E.pre 11 rfl rfl
            refine step_yes rfl (E.pre 9 rfl rfl) ?_
            refine op_val (v := .pointer (some ⟨d, 0, none⟩)) (w' := w') ?_ ⟨Below.refl _ _, rfl⟩
            have hcon := E.con
            clear E
            go_simp
          · intro ρ w' E
            have e202 : ρ (.tmp 202) = .pointer (some ⟨d, 0, none⟩) := E.pre 12 rfl rfl
            refine step_yes rfl (E.pre 9 rfl rfl) ?_
            refine op_call (f := 39) (args := #[.pointer (some ⟨d, 0, none⟩)]) (w' := w') (by have hcon := E.con; have hfn := E.fn; clear E; go_simp) ?_
            obtain ⟨KD, hKD⟩ := (HDX.out.ext E.below).realP
            refine (drv_leftP (cap - pE) w' hKD (by rw [HCE.out]) (by have := HGE.out.at0; rw [HCE.out] at this; omega) (by have := HGE.out.at0; rw [HCE.out] at this; omega)).mono ?_
            rintro e w2 ⟨rfl, hb⟩
            exact ⟨_, rfl, hb, rfl⟩
          · intro ρ w' E
            have e2 : ρ (.tmp 2) = .pointer (some ⟨w.heap.size, 0, none⟩) := E.out 2 rfl
            refine step_yes rfl (E.pre 9 rfl rfl) ?_
            refine op_val (v := .pointer (some ⟨w.heap.size, 0, none⟩)) (w' := w') ?_ ⟨Below.refl _ _, rfl⟩
            have hcon := E.con
            clear E
            go_simp
          · intro ρ w' E
            have e204 : ρ (.tmp 204) = .pointer (some ⟨w.heap.size, 0, none⟩) := E.pre 14 rfl rfl
            refine step_yes rfl (E.pre 9 rfl rfl) ?_
            refine op_val (v := .int .i64 cap) (w' := w') ?_ ⟨Below.refl _ _, rfl⟩
            have k0 := (World.cell?_of_block (w := wX) (E.below.block _ hlT)).trans t0
            have hcon := E.con
            clear E r1 r2 r3
            go_simp
          · intro ρ w' E
            have e10 : ρ (.tmp 10) = .pointer (some ⟨rd, 0, none⟩) := E.out 10 rfl
            refine step_yes rfl (E.pre 9 rfl rfl) ?_
            exact op_move (.inl rfl) e10 ⟨Below.refl _ _, rfl⟩
          · intro ρ w' E
            have e206 : ρ (.tmp 206) = .pointer (some ⟨rd, 0, none⟩) := E.pre 16 rfl rfl
            refine step_yes rfl (E.pre 9 rfl rfl) ?_
            refine op_val (v := .pointer (some ⟨rd, 0, none⟩)) (w' := w') ?_ ⟨Below.refl _ _, rfl⟩
            have hcon := E.con
            clear E
            go_simp
          · intro ρ w' E
            have e207 : ρ (.tmp 207) = .pointer (some ⟨rd, 0, none⟩) := E.pre 17 rfl rfl
            refine step_yes rfl (E.pre 9 rfl rfl) ?_
            refine op_val (v := .pointer (some ⟨rd, 3, none⟩)) (w' := w') ?_ ⟨Below.refl _ _, rfl⟩
            have hcon := E.con
            clear E
            go_simp
          · intro ρ w' E
            have e208 : ρ (.tmp 208) = .pointer (some ⟨rd, 3, none⟩) := E.pre 18 rfl rfl
            refine step_yes rfl (E.pre 9 rfl rfl) ?_
            refine op_val (v := .int .i64 pE) (w' := w') ?_ ⟨Below.refl _ _, rfl⟩
            have k3 := (World.cell?_of_block (w := wX) (E.below.block _ hlR)).trans r3
            have hcon := E.con
            clear E r1 r2 r3
            go_simp
          · intro ρ w' E
            have e205 : ρ (.tmp 205) = .int .i64 cap := E.pre 15 rfl rfl
            have e209 : ρ (.tmp 209) = .int .i64 pE := E.pre 19 rfl rfl
            refine step_yes rfl (E.pre 9 rfl rfl) ?_
            refine op_val (v := .int .i64 (cap - pE)) (w' := w') ?_ ⟨Below.refl _ _, rfl⟩
            have hw := hwl
            have hcon := E.con
            clear E
            go_simp
          · intro ρ w' E
            have e203 : ρ (.tmp 203) = .int .i64 (cap - pE) := E.pre 13 rfl rfl
            have e210 : ρ (.tmp 210) = .int .i64 (cap - pE) := E.pre 20 rfl rfl
            refine step_yes rfl (E.pre 9 rfl rfl) ?_
            refine op_val (v := .bool false) (w' := w') ?_ ⟨Below.refl _ _, rfl⟩
            have hcon := E.con
            clear E
            go_simp
          · intro ρ w' E
            have e199 : ρ (.tmp 199) = .bool false := E.pre 9 rfl rfl
            have e211 : ρ (.tmp 211) = .bool false := E.pre 21 rfl rfl
            refine step_plain rfl ?_
            exact op_pick (b := false) rfl e199 rfl ⟨Below.refl _ _, e211⟩
          · intro ρ w' E
            have e212 : ρ (.tmp 212) = .bool false := E.pre 22 rfl rfl
            refine step_plain rfl ?_
            exact op_move (.inl rfl) e212 ⟨Below.refl _ _, rfl⟩
          · intro ρ w' E
            have e18 : ρ (.tmp 18) = .pointer (some ⟨GX, 0, none⟩) := E.out 18 rfl
            refine step_yes rfl (E.pre 23 rfl rfl) ?_
            refine op_val (v := .agg #[.int .i64 mE.cap, .slice aX kX cX]) (w' := w') ?_ ⟨Below.refl _ _, rfl⟩
            have k1 := (World.cell?_of_block (w := wX) (E.below.block _ hlX)).trans x0
            have k2 := (World.cell?_of_block (w := wX) (E.below.block _ hlX)).trans x1
            have hcon := E.con
            clear E x0 x1 r1 r2 r3
            go_simp
          · intro ρ w' E
            have e10 : ρ (.tmp 10) = .pointer (some ⟨rd, 0, none⟩) := E.out 10 rfl
            refine step_yes rfl (E.pre 23 rfl rfl) ?_
            exact op_move (.inl rfl) e10 ⟨Below.refl _ _, rfl⟩
          · intro ρ w' E
            have e215 : ρ (.tmp 215) = .pointer (some ⟨rd, 0, none⟩) := E.pre 25 rfl rfl
            refine step_yes rfl (E.pre 23 rfl rfl) ?_
            refine op_val (v := .pointer (some ⟨rd, 0, none⟩)) (w' := w') ?_ ⟨Below.refl _ _, rfl⟩
            have hcon := E.con
            clear E
            go_simp
          · intro ρ w' E
            have e216 : ρ (.tmp 216) = .pointer (some ⟨rd, 0, none⟩) := E.pre 26 rfl rfl
            refine step_yes rfl (E.pre 23 rfl rfl) ?_
            refine op_val (v := .pointer (some ⟨rd, 1, none⟩)) (w' := w') ?_ ⟨Below.refl _ _, rfl⟩
            have hcon := E.con
            clear E
            go_simp
          · intro ρ w' E
            have e217 : ρ (.tmp 217) = .pointer (some ⟨rd, 1, none⟩) := E.pre 27 rfl rfl
            refine step_yes rfl (E.pre 23 rfl rfl) ?_
            refine op_val (v := .agg #[.int .i64 mE.cap, .slice aR kR cR]) (w' := w') ?_ ⟨Below.refl _ _, rfl⟩
            have k1 := (World.cell?_of_block (w := wX) (E.below.block _ hlR)).trans r1
            have k2 := (World.cell?_of_block (w := wX) (E.below.block _ hlR)).trans r2
            have hcon := E.con
            clear E r1 r2 r3
            go_simp
          · intro ρ w' E
            have e214 : ρ (.tmp 214) = .agg #[.int .i64 mE.cap, .slice aX kX cX] := E.pre 24 rfl rfl
            have e218 : ρ (.tmp 218) = .agg #[.int .i64 mE.cap, .slice aR kR cR] := E.pre 28 rfl rfl
            refine step_yes rfl (E.pre 23 rfl rfl) ?_
            refine op_call (f := 40) (args := #[.agg #[.int .i64 mE.cap, .slice aX kX cX], .agg #[.int .i64 mE.cap, .slice aR kR cR]]) (w' := w') (by have hcon := E.con; have hfn := E.fn; clear E; go_simp) ?_
            refine (keepmed_any mE.cap mE.cap aX aR cX kX cR kR csX csR true w' (HTX.out.r.ext E.below).mat (HR.out.r.ext E.below).mat HTX.out.r.len.symm HR.out.r.len.symm HTX.out.r.len63 HR.out.r.len63 (by rw [HTX.out.r.pls, HR.out.r.pls]; simp)).mono ?_
            rintro e w2 ⟨rfl, hb⟩
            exact ⟨_, rfl, hb, rfl⟩
          · intro ρ w' E
            have e219 : ρ (.tmp 219) = .bool true := E.pre 29 rfl rfl
            refine step_yes rfl (E.pre 23 rfl rfl) ?_
            refine op_val (v := .bool false) (w' := w') ?_ ⟨Below.refl _ _, rfl⟩
            have hcon := E.con
            clear E
            go_simp
          · intro ρ w' E
            have e213 : ρ (.tmp 213) = .bool false := E.pre 23 rfl rfl
            have e220 : ρ (.tmp 220) = .bool false := E.pre 30 rfl rfl
            refine step_plain rfl ?_
            exact op_pick (b := false) rfl e213 rfl ⟨Below.refl _ _, e220⟩
        · intro σF wF GF OF HF
          have s221 : σF 221 = .bool false := HF 31 rfl rfl
          clear OF HF
          simp only [upd, updL, dstsOf', elemB, List.filterMap_cons, List.filterMap_nil, Nat.reduceAdd, Nat.reduceBEq, Bool.or_false, Bool.or_true, cond_true, cond_false, Nat.zero_add, s221]
          have HTF := Lib.hid (HTX.out.ext GF)
          have HYF := Lib.hid (bthen HYX.out GF (Nat.le_refl _))
          clear GF x0 x1 r1 r2 r3 t0 s221 HTX HYX HDX HTm HR
          obtain ⟨x0, x1⟩ := HTF.out.box.cells
          go_wp2_with fail
          refine (spoilmed_any wy.heap.size wF.heap.size mE.cap aX cX kX csX wF HTF.out.r.own HTF.out.r.len.symm (by have := HTF.out.r.size; have := HGE.out.len; omega) (HTF.out.r.short HGE.out.short) HYF.out.size (fun x hx hn0 => HTF.out.r.own.row.bnd x hx (.inl (by rw [HTF.out.r.len]; exact hn0))) (fun y hy hy0 x hx => (HTF.out.r.own.dat y hy).bnd x hx (.inl (by rw [Ne, List.length_eq_zero_iff]; exact hy0)))).mono ?_
          rintro e wG ⟨rfl, hbG, -⟩
          have HGF := Lib.hid (HYF.out.trans hbG)
          clear hbG x0 x1
          go_wp2_with fail
          go_roundw
          case rel => exact ⟨t + 1, mE, pE, sE, _, rfl, by omega, by omega, by go_num, HDE.out.ext HGF.out, HGE.out, HCE.out, HLE.out.1, HLE.out.2, bthen HBE.out HGF.out (Nat.le_refl _)⟩
          case measure => simp [intOf]; omega
      by_cases hz3 : z = 3
      · have e3 : ((z : Int) == 3) = true := by simp; omega
        have hput := setRow_heap (wr.alloc (.cells #[.int .i64 0, .int .i64 0, .int .i64 0, .slice none 0 0, .int .i64 0] 44)) wr.heap.size _ #[.int .i64 x.what, .int .i64 x.n, .int .i64 x.m, .slice x.b.a x.b.l.length x.b.c, .int .i64 x.torn] _ _ (heap_alloc_new wr _)
        have hbp : Below wr.heap.size wr ((wr.alloc (.cells #[.int .i64 0, .int .i64 0, .int .i64 0, .slice none 0 0, .int .i64 0] 44)).setRow wr.heap.size #[.int .i64 x.what, .int .i64 x.n, .int .i64 x.m, .slice x.b.a x.b.l.length x.b.c, .int .i64 x.torn]) := bsetRow (ext_alloc wr _) (Nat.le_refl _) _
        have m0 := cell_of_row _ _ 0 _ _ _ hput
        have m1 := cell_of_row _ _ 1 _ _ _ hput
        have m2 := cell_of_row _ _ 2 _ _ _ hput
        have m3 := cell_of_row _ _ 3 _ _ _ hput
        have m4 := cell_of_row _ _ 4 _ _ _ hput
        go_wp2_with (first
          | (refine wpList_store_row rfl rfl 44 (.tmp 12) (.tmp 77) rfl wr.heap.size rfl 44 #[.int .i64 0, .int .i64 0, .int .i64 0, .slice none 0 0, .int .i64 0] #[.int .i64 x.what, .int .i64 x.n, .int .i64 x.m, .slice x.b.a x.b.l.length x.b.c, .int .i64 x.torn] rfl (heap_alloc_new wr _) rfl (by kernel_rfl) (by intro v hv; simp at hv; rcases hv with rfl | rfl | rfl | rfl | rfl <;> rfl) ?_))
        generalize hws : World.setRow _ _ _ = w1 at *
        have HD1 := Lib.hid (HD.out.ext hbp)
        have HB1 := Lib.hid (bthen HBv.out hbp (Nat.le_refl _))
        have Hok1 := Lib.hid (show A5ok w1 x from ⟨Hok5.out.1.ext hbp, Hok5.out.2⟩)
        clear hws hbp c0 c1 c2 c3 c4 m0
        generalize wr.heap.size = GA at *
        obtain ⟨⟨lr, Er, pr⟩, hrr⟩ : ∃ y, y = (if s.off then (([] : List Byte), (5 : Int), p) else ((M.look p).1, (M.look p).2, if (M.look p).2 = 8 then p else p + 1)) := ⟨_, rfl⟩
        have hgd := read_good HG.out hrr.symm
        have hlr := read_len HG.out hrr.symm
        have HRR := Lib.hid hrr.symm
        clear hrr
        obtain ⟨nr, hnr0⟩ : ∃ n, n = lr.length := ⟨_, rfl⟩
        have hnr := Lib.hid hnr0
        have Hlr := Lib.hid hlr
        have HA0 := Lib.hid HG.out.at0
        clear hnr0 hlr
        refine (HD1.out.real0h (fun K hd => (drv_read nr lr Er pr s w1 hd HB1.out.size HG.out.short hnr.out (by have := HA0.out; omega) (by have := HA0.out; omega) HRR.out).mono fun e w' ⟨a', c', he, ho, hd', hm⟩ => ⟨(⟨a', c', he, ho⟩ : ∃ a' c', e = .returned (.tuple #[.slice a' nr c', .int .i64 Er]) ∧ Own w' w1.heap.size 5 1 a' nr c' (bvs lr)), hd', hm⟩)).mono ?_
        rintro e w2x ⟨⟨aR1, cR1, rfl, hoR⟩, hd2, hm2⟩
        have HD2 := Lib.hid (hd2 w2x.heap.size)
        have HO2 := Lib.hid hoR
        have HB2 := Lib.hid (HB1.out.trans (hm2.below (fun b T h => h.1) HB1.out.size))
        clear hd2 hm2 hoR m1 m2 m3 m4
        go_wp2_with fail
        refine (HD2.out.ref0 (fun Z hd => (rdrv_read nr lr Er pr s w2x hd HG.out.short hnr.out (by have := HA0.out; omega) (by have := HA0.out; omega) HRR.out).mono fun e w' ⟨a', c', he, ho, hd', hm⟩ => ⟨(⟨a', c', he, ho⟩ : ∃ a' c', e = .returned (.tuple #[.slice a' nr c', .int .i64 Er]) ∧ Own w' w2x.heap.size 5 1 a' nr c' (bvs lr)), hd', hm⟩)).mono ?_
        rintro e w4x ⟨⟨aR2, cR2, rfl, hoR⟩, hd3, hm3⟩
        have HD3 := Lib.hid hd3
        have HB3 := Lib.hid (HB2.out.trans (hm3.below (fun b T h => h.1) HB2.out.size))
        have HS3 := Lib.hid hoR.src
        have HO3 := Lib.hid (HO2.out.mod hm3 fun b _ _ => TDF_no8 b)
        clear hd3 hm3 hoR HD2
        go_wp2_with fail
        refine (bytes_at aR1 cR1 lr aR2 cR2 lr w4x nr nr true HO3.out.src HS3.out hnr.out hnr.out (by have := hnr.out; have := Hlr.out; omega) (by have := hnr.out; have := Hlr.out; omega) (by simp)).mono ?_
        rintro e w5x ⟨rfl, nd, rfl⟩
        have hbd := ext_drewN w4x nd w4x.heap.size
        have HD5 := Lib.hid (HD3.out.ext hbd)
        have HB5 := Lib.hid (bthen HB3.out hbd (Nat.le_refl _))
        have HO5 := Lib.hid (HO3.out.ext hbd)
        clear hbd HD3 HB3
        go_wp2_with fail
        refine (spoil_in HO2.out HO5.out hnr.out (by have := hnr.out; have := Hlr.out; omega)).mono ?_
        rintro e wy ⟨rfl, hmy⟩
        obtain ⟨mE, pE, sE, HDE, HGE, HCE, HLE, HBE⟩ : ∃ mE pE sE, Hid (TwoD w3.heap.size 0 0 wy d g rd q mE pE sE mE pE sE) ∧ Hid (DGood mE pE) ∧ Hid (mE.cap = cap) ∧ Hid (0 ≤ sE.life ∧ sE.life ≤ ((t + 1 : Nat) : Int)) ∧ Hid (Below w3.heap.size w3 wy) := ⟨_, _, _, Lib.hid ((HD5.out.spoil hmy fun b T hf => ⟨⟨hf.1, hf.2.1⟩, .inl hf.2.2⟩).whole), Lib.hid hgd, HC, Lib.hid (by have h0 := HS0.out; have h1 := HS1.out; omega), Lib.hid (HB5.out.trans (hmy.below (fun b T h => Nat.le_trans HB1.out.size h.1) HB5.out.size))⟩
        clear hmy HD5 HB5 HO5 HO2 HO3 HS3 HB2 HRR hgd
        go_wp2_with fail
        clear HD1 HD HG HC HS0 HS1 HBv HLr Tr
        -- a round's end: world wy, HDE (TwoD with mE pE sE), HGE, HCE, HLE (life), HBE (Below)
        obtain ⟨KT, hKT⟩ := HDE.out.realP
        refine (drv_mediumP wy hKT (Nat.le_trans HGE.out.len (by decide)) HGE.out.short).mono ?_
        rintro e wz ⟨aX, cX, csX, kX, rfl, hMX, hcX, hbX⟩
        obtain ⟨hTX, hSX⟩ := TapeO.new mE.cap rfl hMX hcX
        have hzX := heap_alloc_new wz (.cells #[.int .i64 0, .slice none 0 0] 24)
        have hbyX := bthen hbX hSX (Nat.le_refl _)
        go_wp2_with (refine wpList_store_row rfl rfl 24 (.tmp 18) (.tmp 189) rfl wz.heap.size rfl 24 #[.int .i64 0, .slice none 0 0] #[.int .i64 mE.cap, .slice aX kX cX] rfl hzX rfl (by kernel_rfl) (by simp [Value.oneCell']) ?_)
        clear hzX hMX hbX hSX hKT
        generalize (wz.alloc (.cells #[.int .i64 0, .slice none 0 0] 24)).setRow wz.heap.size #[.int .i64 mE.cap, .slice aX kX cX] = wX at *
        generalize wz.heap.size = GX at *
        have HTX := Lib.hid hTX
        have HYX := Lib.hid hbyX
        have HDX := Lib.hid (HDE.out.ext hbyX)
        have HTm := Lib.hid (T.out.ext (bthen HBE.out hbyX (Nat.le_refl _)))
        clear hTX hbyX
        obtain ⟨x0, x1⟩ := HTX.out.box.cells
        have hlX := heap_lt HTX.out.box
        obtain ⟨t0, _⟩ := HTm.out.box.cells
        have hlT := heap_lt HTm.out.box
        dsimp only at t0
        obtain ⟨Z, ⟨aR, kR, cR, csR, hR, _⟩, _⟩ := HDX.out.refP
        obtain ⟨r0, r1, r2, r3⟩ := hR.cells
        have hlR := heap_lt hR.obj
        have HR := Lib.hid hR
        have hwl : IntKind.i64.wrap (cap - pE) = cap - pE := by
          have := HGE.out.at0
          rw [HCE.out] at this
          rw [IntKind.wrap_i64]; omega
        clear hR r0
        refine wp_region_phase (by kernel_rfl) [] (by kernel_rfl) (by kernel_rfl) ?_
        refine stage_last [Sp.eq (.pointer (some ⟨d, 0, none⟩)), Sp.eq (.pointer (some ⟨d, 0, none⟩)), Sp.eq (.pointer (some ⟨d, 0, none⟩)), Sp.eq (.int .i64 pE), Sp.eq (.pointer (some ⟨rd, 0, none⟩)), Sp.eq (.pointer (some ⟨rd, 0, none⟩)), Sp.eq (.pointer (some ⟨rd, 3, none⟩)), Sp.eq (.int .i64 pE), Sp.eq (.bool false), Sp.eq (.bool false), Sp.eq (.pointer (some ⟨d, 0, none⟩)), Sp.eq (.pointer (some ⟨d, 0, none⟩)), Sp.eq (.pointer (some ⟨d, 0, none⟩)), Sp.eq (.int .i64 (cap - pE)), Sp.eq (.pointer (some ⟨w.heap.size, 0, none⟩)), Sp.eq (.int .i64 cap), Sp.eq (.pointer (some ⟨rd, 0, none⟩)), Sp.eq (.pointer (some ⟨rd, 0, none⟩)), Sp.eq (.pointer (some ⟨rd, 3, none⟩)), Sp.eq (.int .i64 pE), Sp.eq (.int .i64 (cap - pE)), Sp.eq (.bool false), Sp.eq (.bool false), Sp.eq (.bool false), Sp.eq (.agg #[.int .i64 mE.cap, .slice aX kX cX]), Sp.eq (.pointer (some ⟨rd, 0, none⟩)), Sp.eq (.pointer (some ⟨rd, 0, none⟩)), Sp.eq (.pointer (some ⟨rd, 1, none⟩)), Sp.eq (.agg #[.int .i64 mE.cap, .slice aR kR cR]), Sp.eq (.bool true), Sp.eq (.bool false), Sp.eq (.bool false)] ?_ ?_
        · refine stepsG_cons ?_ (stepsG_cons ?_ (stepsG_cons ?_ (stepsG_cons ?_ (stepsG_cons ?_ (stepsG_cons ?_ (stepsG_cons ?_ (stepsG_cons ?_ (stepsG_cons ?_ (stepsG_cons ?_ (stepsG_cons ?_ (stepsG_cons ?_ (stepsG_cons ?_ (stepsG_cons ?_ (stepsG_cons ?_ (stepsG_cons ?_ (stepsG_cons ?_ (stepsG_cons ?_ (stepsG_cons ?_ (stepsG_cons ?_ (stepsG_cons ?_ (stepsG_cons ?_ (stepsG_cons ?_ (stepsG_cons ?_ (stepsG_cons ?_ (stepsG_cons ?_ (stepsG_cons ?_ (stepsG_cons ?_ (stepsG_cons ?_ (stepsG_cons ?_ (stepsG_cons ?_ (stepsG_cons ?_ (stepsG_nil))))))))))))))))))))))))))))))))
          · intro ρ w' E
            have e8 : ρ (.tmp 8) = .pointer (some ⟨d, 0, none⟩) := E.out 8 rfl
            refine step_plain rfl ?_
            exact op_move (.inl rfl) e8 ⟨Below.refl _ _, rfl⟩
          · intro ρ w' E
            have e190 : ρ (.tmp 190) = .pointer (some ⟨d, 0, none⟩) := E.pre 0 rfl rfl
            refine step_plain rfl ?_
            refine op_val (v := .pointer (some ⟨d, 0, none⟩)) (w' := w') ?_ ⟨Below.refl _ _, rfl⟩
            have hcon := E.con
            clear E
            go_simp
          · intro ρ w' E
            have e191 : ρ (.tmp 191) = .pointer (some ⟨d, 0, none⟩) := E.pre 1 rfl rfl
            refine step_plain rfl ?_
            refine op_val (v := .pointer (some ⟨d, 0, none⟩)) (w' := w') ?_ ⟨Below.refl _ _, rfl⟩
            have hcon := E.con
            clear E
            go_simp
          · intro ρ w' E
            have e192 : ρ (.tmp 192) = .pointer (some ⟨d, 0, none⟩) := E.pre 2 rfl rfl
            refine step_plain rfl ?_
            refine op_call (f := 38) (args := #[.pointer (some ⟨d, 0, none⟩)]) (w' := w') (by have hcon := E.con; have hfn := E.fn; clear E; go_simp) ?_
            obtain ⟨KD, hKD⟩ := (HDX.out.ext E.below).realP
            refine (drv_placeP w' hKD).mono ?_
            rintro e w2 ⟨rfl, rfl⟩
            exact ⟨_, rfl, Below.refl _ _, rfl⟩
          · intro ρ w' E
            have e10 : ρ (.tmp 10) = .pointer (some ⟨rd, 0, none⟩) := E.out 10 rfl
            refine step_plain rfl ?_
            exact op_move (.inl rfl) e10 ⟨Below.refl _ _, rfl⟩
          · intro ρ w' E
            have e194 : ρ (.tmp 194) = .pointer (some ⟨rd, 0, none⟩) := E.pre 4 rfl rfl
            refine step_plain rfl ?_
            refine op_val (v := .pointer (some ⟨rd, 0, none⟩)) (w' := w') ?_ ⟨Below.refl _ _, rfl⟩
            have hcon := E.con
            clear E
            go_simp
          · intro ρ w' E
            have e195 : ρ (.tmp 195) = .pointer (some ⟨rd, 0, none⟩) := E.pre 5 rfl rfl
            refine step_plain rfl ?_
            refine op_val (v := .pointer (some ⟨rd, 3, none⟩)) (w' := w') ?_ ⟨Below.refl _ _, rfl⟩
            have hcon := E.con
            clear E
            go_simp
          · intro ρ w' E
            have e196 : ρ (.tmp 196) = .pointer (some ⟨rd, 3, none⟩) := E.pre 6 rfl rfl
            refine step_plain rfl ?_
            refine op_val (v := .int .i64 pE) (w' := w') ?_ ⟨Below.refl _ _, rfl⟩
            have k3 := (World.cell?_of_block (w := wX) (E.below.block _ hlR)).trans r3
            have hcon := E.con
            clear E r1 r2 r3
            go_simp
          · intro ρ w' E
            have e193 : ρ (.tmp 193) = .int .i64 pE := E.pre 3 rfl rfl
            have e197 : ρ (.tmp 197) = .int .i64 pE := E.pre 7 rfl rfl
            refine step_plain rfl ?_
            refine op_val (v := .bool false) (w' := w') ?_ ⟨Below.refl _ _, rfl⟩
            have hcon := E.con
            clear E
            go_simp
          · intro ρ w' E
            have e198 : ρ (.tmp 198) = .bool false := E.pre 8 rfl rfl
            refine step_plain rfl ?_
            exact op_move (.inl rfl) e198 ⟨Below.refl _ _, rfl⟩
          · intro ρ w' E
            have e8 : ρ (.tmp 8) = .pointer (some ⟨d, 0, none⟩) := E.out 8 rfl
            refine step_yes rfl (E.pre 9 rfl rfl) ?_
            exact op_move (.inl rfl) e8 ⟨Below.refl _ _, rfl⟩
          · intro ρ w' E
            have e200 : ρ (.tmp 200) = .pointer (some ⟨d, 0, none⟩) := E.pre 10 rfl rfl
            refine step_yes rfl (E.pre 9 rfl rfl) ?_
            refine op_val (v := .pointer (some ⟨d, 0, none⟩)) (w' := w') ?_ ⟨Below.refl _ _, rfl⟩
            have hcon := E.con
            clear E
            go_simp
          · intro ρ w' E
            have e201 : ρ (.tmp 201) = .pointer (some ⟨d, 0, none⟩) := E.pre 11 rfl rfl
            refine step_yes rfl (E.pre 9 rfl rfl) ?_
            refine op_val (v := .pointer (some ⟨d, 0, none⟩)) (w' := w') ?_ ⟨Below.refl _ _, rfl⟩
            have hcon := E.con
            clear E
            go_simp
          · intro ρ w' E
            have e202 : ρ (.tmp 202) = .pointer (some ⟨d, 0, none⟩) := E.pre 12 rfl rfl
            refine step_yes rfl (E.pre 9 rfl rfl) ?_
            refine op_call (f := 39) (args := #[.pointer (some ⟨d, 0, none⟩)]) (w' := w') (by have hcon := E.con; have hfn := E.fn; clear E; go_simp) ?_
            obtain ⟨KD, hKD⟩ := (HDX.out.ext E.below).realP
            refine (drv_leftP (cap - pE) w' hKD (by rw [HCE.out]) (by have := HGE.out.at0; rw [HCE.out] at this; omega) (by have := HGE.out.at0; rw [HCE.out] at this; omega)).mono ?_
            rintro e w2 ⟨rfl, hb⟩
            exact ⟨_, rfl, hb, rfl⟩
          · intro ρ w' E
            have e2 : ρ (.tmp 2) = .pointer (some ⟨w.heap.size, 0, none⟩) := E.out 2 rfl
            refine step_yes rfl (E.pre 9 rfl rfl) ?_
            refine op_val (v := .pointer (some ⟨w.heap.size, 0, none⟩)) (w' := w') ?_ ⟨Below.refl _ _, rfl⟩
            have hcon := E.con
            clear E
            go_simp
          · intro ρ w' E
            have e204 : ρ (.tmp 204) = .pointer (some ⟨w.heap.size, 0, none⟩) := E.pre 14 rfl rfl
            refine step_yes rfl (E.pre 9 rfl rfl) ?_
            refine op_val (v := .int .i64 cap) (w' := w') ?_ ⟨Below.refl _ _, rfl⟩
            have k0 := (World.cell?_of_block (w := wX) (E.below.block _ hlT)).trans t0
            have hcon := E.con
            clear E r1 r2 r3
            go_simp
          · intro ρ w' E
            have e10 : ρ (.tmp 10) = .pointer (some ⟨rd, 0, none⟩) := E.out 10 rfl
            refine step_yes rfl (E.pre 9 rfl rfl) ?_
            exact op_move (.inl rfl) e10 ⟨Below.refl _ _, rfl⟩
          · intro ρ w' E
            have e206 : ρ (.tmp 206) = .pointer (some ⟨rd, 0, none⟩) := E.pre 16 rfl rfl
            refine step_yes rfl (E.pre 9 rfl rfl) ?_
            refine op_val (v := .pointer (some ⟨rd, 0, none⟩)) (w' := w') ?_ ⟨Below.refl _ _, rfl⟩
            have hcon := E.con
            clear E
            go_simp
          · intro ρ w' E
            have e207 : ρ (.tmp 207) = .pointer (some ⟨rd, 0, none⟩) := E.pre 17 rfl rfl
            refine step_yes rfl (E.pre 9 rfl rfl) ?_
            refine op_val (v := .pointer (some ⟨rd, 3, none⟩)) (w' := w') ?_ ⟨Below.refl _ _, rfl⟩
            have hcon := E.con
            clear E
            go_simp
          · intro ρ w' E
            have e208 : ρ (.tmp 208) = .pointer (some ⟨rd, 3, none⟩) := E.pre 18 rfl rfl
            refine step_yes rfl (E.pre 9 rfl rfl) ?_
            refine op_val (v := .int .i64 pE) (w' := w') ?_ ⟨Below.refl _ _, rfl⟩
            have k3 := (World.cell?_of_block (w := wX) (E.below.block _ hlR)).trans r3
            have hcon := E.con
            clear E r1 r2 r3
            go_simp
          · intro ρ w' E
            have e205 : ρ (.tmp 205) = .int .i64 cap := E.pre 15 rfl rfl
            have e209 : ρ (.tmp 209) = .int .i64 pE := E.pre 19 rfl rfl
            refine step_yes rfl (E.pre 9 rfl rfl) ?_
            refine op_val (v := .int .i64 (cap - pE)) (w' := w') ?_ ⟨Below.refl _ _, rfl⟩
            have hw := hwl
            have hcon := E.con
            clear E
            go_simp
          · intro ρ w' E
            have e203 : ρ (.tmp 203) = .int .i64 (cap - pE) := E.pre 13 rfl rfl
            have e210 : ρ (.tmp 210) = .int .i64 (cap - pE) := E.pre 20 rfl rfl
            refine step_yes rfl (E.pre 9 rfl rfl) ?_
            refine op_val (v := .bool false) (w' := w') ?_ ⟨Below.refl _ _, rfl⟩
            have hcon := E.con
            clear E
            go_simp
          · intro ρ w' E
            have e199 : ρ (.tmp 199) = .bool false := E.pre 9 rfl rfl
            have e211 : ρ (.tmp 211) = .bool false := E.pre 21 rfl rfl
            refine step_plain rfl ?_
            exact op_pick (b := false) rfl e199 rfl ⟨Below.refl _ _, e211⟩
          · intro ρ w' E
            have e212 : ρ (.tmp 212) = .bool false := E.pre 22 rfl rfl
            refine step_plain rfl ?_
            exact op_move (.inl rfl) e212 ⟨Below.refl _ _, rfl⟩
          · intro ρ w' E
            have e18 : ρ (.tmp 18) = .pointer (some ⟨GX, 0, none⟩) := E.out 18 rfl
            refine step_yes rfl (E.pre 23 rfl rfl) ?_
            refine op_val (v := .agg #[.int .i64 mE.cap, .slice aX kX cX]) (w' := w') ?_ ⟨Below.refl _ _, rfl⟩
            have k1 := (World.cell?_of_block (w := wX) (E.below.block _ hlX)).trans x0
            have k2 := (World.cell?_of_block (w := wX) (E.below.block _ hlX)).trans x1
            have hcon := E.con
            clear E x0 x1 r1 r2 r3
            go_simp
          · intro ρ w' E
            have e10 : ρ (.tmp 10) = .pointer (some ⟨rd, 0, none⟩) := E.out 10 rfl
            refine step_yes rfl (E.pre 23 rfl rfl) ?_
            exact op_move (.inl rfl) e10 ⟨Below.refl _ _, rfl⟩
          · intro ρ w' E
            have e215 : ρ (.tmp 215) = .pointer (some ⟨rd, 0, none⟩) := E.pre 25 rfl rfl
            refine step_yes rfl (E.pre 23 rfl rfl) ?_
            refine op_val (v := .pointer (some ⟨rd, 0, none⟩)) (w' := w') ?_ ⟨Below.refl _ _, rfl⟩
            have hcon := E.con
            clear E
            go_simp
          · intro ρ w' E
            have e216 : ρ (.tmp 216) = .pointer (some ⟨rd, 0, none⟩) := E.pre 26 rfl rfl
            refine step_yes rfl (E.pre 23 rfl rfl) ?_
            refine op_val (v := .pointer (some ⟨rd, 1, none⟩)) (w' := w') ?_ ⟨Below.refl _ _, rfl⟩
            have hcon := E.con
            clear E
            go_simp
          · intro ρ w' E
            have e217 : ρ (.tmp 217) = .pointer (some ⟨rd, 1, none⟩) := E.pre 27 rfl rfl
            refine step_yes rfl (E.pre 23 rfl rfl) ?_
            refine op_val (v := .agg #[.int .i64 mE.cap, .slice aR kR cR]) (w' := w') ?_ ⟨Below.refl _ _, rfl⟩
            have k1 := (World.cell?_of_block (w := wX) (E.below.block _ hlR)).trans r1
            have k2 := (World.cell?_of_block (w := wX) (E.below.block _ hlR)).trans r2
            have hcon := E.con
            clear E r1 r2 r3
            go_simp
          · intro ρ w' E
            have e214 : ρ (.tmp 214) = .agg #[.int .i64 mE.cap, .slice aX kX cX] := E.pre 24 rfl rfl
            have e218 : ρ (.tmp 218) = .agg #[.int .i64 mE.cap, .slice aR kR cR] := E.pre 28 rfl rfl
            refine step_yes rfl (E.pre 23 rfl rfl) ?_
            refine op_call (f := 40) (args := #[.agg #[.int .i64 mE.cap, .slice aX kX cX], .agg #[.int .i64 mE.cap, .slice aR kR cR]]) (w' := w') (by have hcon := E.con; have hfn := E.fn; clear E; go_simp) ?_
            refine (keepmed_any mE.cap mE.cap aX aR cX kX cR kR csX csR true w' (HTX.out.r.ext E.below).mat (HR.out.r.ext E.below).mat HTX.out.r.len.symm HR.out.r.len.symm HTX.out.r.len63 HR.out.r.len63 (by rw [HTX.out.r.pls, HR.out.r.pls]; simp)).mono ?_
            rintro e w2 ⟨rfl, hb⟩
            exact ⟨_, rfl, hb, rfl⟩
          · intro ρ w' E
            have e219 : ρ (.tmp 219) = .bool true := E.pre 29 rfl rfl
            refine step_yes rfl (E.pre 23 rfl rfl) ?_
            refine op_val (v := .bool false) (w' := w') ?_ ⟨Below.refl _ _, rfl⟩
            have hcon := E.con
            clear E
            go_simp
          · intro ρ w' E
            have e213 : ρ (.tmp 213) = .bool false := E.pre 23 rfl rfl
            have e220 : ρ (.tmp 220) = .bool false := E.pre 30 rfl rfl
            refine step_plain rfl ?_
            exact op_pick (b := false) rfl e213 rfl ⟨Below.refl _ _, e220⟩
        · intro σF wF GF OF HF
          have s221 : σF 221 = .bool false := HF 31 rfl rfl
          clear OF HF
          simp only [upd, updL, dstsOf', elemB, List.filterMap_cons, List.filterMap_nil, Nat.reduceAdd, Nat.reduceBEq, Bool.or_false, Bool.or_true, cond_true, cond_false, Nat.zero_add, s221]
          have HTF := Lib.hid (HTX.out.ext GF)
          have HYF := Lib.hid (bthen HYX.out GF (Nat.le_refl _))
          clear GF x0 x1 r1 r2 r3 t0 s221 HTX HYX HDX HTm HR
          obtain ⟨x0, x1⟩ := HTF.out.box.cells
          go_wp2_with fail
          refine (spoilmed_any wy.heap.size wF.heap.size mE.cap aX cX kX csX wF HTF.out.r.own HTF.out.r.len.symm (by have := HTF.out.r.size; have := HGE.out.len; omega) (HTF.out.r.short HGE.out.short) HYF.out.size (fun x hx hn0 => HTF.out.r.own.row.bnd x hx (.inl (by rw [HTF.out.r.len]; exact hn0))) (fun y hy hy0 x hx => (HTF.out.r.own.dat y hy).bnd x hx (.inl (by rw [Ne, List.length_eq_zero_iff]; exact hy0)))).mono ?_
          rintro e wG ⟨rfl, hbG, -⟩
          have HGF := Lib.hid (HYF.out.trans hbG)
          clear hbG x0 x1
          go_wp2_with fail
          go_roundw
          case rel => exact ⟨t + 1, mE, pE, sE, _, rfl, by omega, by omega, by go_num, HDE.out.ext HGF.out, HGE.out, HCE.out, HLE.out.1, HLE.out.2, bthen HBE.out HGF.out (Nat.le_refl _)⟩
          case measure => simp [intOf]; omega
      by_cases hz7 : z = 7
      · have e3 : ((z : Int) == 3) = false := by simp; omega
        have e4 : ((z : Int) == 4) = false := by simp; omega
        have e5 : ((z : Int) == 5) = false := by simp; omega
        have e6 : ((z : Int) == 6) = false := by simp; omega
        have e7 : ((z : Int) == 7) = true := by simp; omega
        have hput := setRow_heap (wr.alloc (.cells #[.int .i64 0, .int .i64 0, .int .i64 0, .slice none 0 0, .int .i64 0] 44)) wr.heap.size _ #[.int .i64 x.what, .int .i64 x.n, .int .i64 x.m, .slice x.b.a x.b.l.length x.b.c, .int .i64 x.torn] _ _ (heap_alloc_new wr _)
        have hbp : Below wr.heap.size wr ((wr.alloc (.cells #[.int .i64 0, .int .i64 0, .int .i64 0, .slice none 0 0, .int .i64 0] 44)).setRow wr.heap.size #[.int .i64 x.what, .int .i64 x.n, .int .i64 x.m, .slice x.b.a x.b.l.length x.b.c, .int .i64 x.torn]) := bsetRow (ext_alloc wr _) (Nat.le_refl _) _
        have m0 := cell_of_row _ _ 0 _ _ _ hput
        have m1 := cell_of_row _ _ 1 _ _ _ hput
        have m2 := cell_of_row _ _ 2 _ _ _ hput
        have m3 := cell_of_row _ _ 3 _ _ _ hput
        have m4 := cell_of_row _ _ 4 _ _ _ hput
        go_wp2_with (first
          | (refine wpList_store_row rfl rfl 44 (.tmp 12) (.tmp 77) rfl wr.heap.size rfl 44 #[.int .i64 0, .int .i64 0, .int .i64 0, .slice none 0 0, .int .i64 0] #[.int .i64 x.what, .int .i64 x.n, .int .i64 x.m, .slice x.b.a x.b.l.length x.b.c, .int .i64 x.torn] rfl (heap_alloc_new wr _) rfl (by kernel_rfl) (by intro v hv; simp at hv; rcases hv with rfl | rfl | rfl | rfl | rfl <;> rfl) ?_))
        generalize hws : World.setRow _ _ _ = w1 at *
        have HD1 := Lib.hid (HD.out.ext hbp)
        have HB1 := Lib.hid (bthen HBv.out hbp (Nat.le_refl _))
        have Hok1 := Lib.hid (show A5ok w1 x from ⟨Hok5.out.1.ext hbp, Hok5.out.2⟩)
        clear hws hbp c0 c1 c2 c3 c4 m0
        generalize wr.heap.size = GA at *
        obtain ⟨⟨El, pl'⟩, hrr⟩ : ∃ y, y = (if s.off then ((5 : Int), p) else M.locate x.n x.m p) := ⟨_, rfl⟩
        have hgd := locate_good HG.out hrr.symm
        have HRR := Lib.hid hrr.symm
        clear hrr
        refine wp_region_free (by kernel_rfl) [0, 1, 2, 3, 4, 6, 7, 8, 9, 10] [5, 11] (Mod.rel (TDF w3.heap.size)) [SpT.eq (.pointer (some ⟨d, 0, none⟩)), SpT.eq (.pointer (some ⟨GA, 1, none⟩)), SpT.eq (.int .i64 x.n), SpT.eq (.pointer (some ⟨GA, 2, none⟩)), SpT.eq (.int .i64 x.m), SpT.top, SpT.eq (.pointer (some ⟨rd, 0, none⟩)), SpT.eq (.pointer (some ⟨GA, 1, none⟩)), SpT.eq (.int .i64 x.n), SpT.eq (.pointer (some ⟨GA, 2, none⟩)), SpT.eq (.int .i64 x.m), SpT.top, SpT.top] (by kernel_rfl) (by kernel_rfl) (by kernel_rfl) ?_ ?_
        · refine stepsE_yes rfl ?_ (stepsE_yes rfl ?_ (stepsE_yes rfl ?_ (stepsE_yes rfl ?_ (stepsE_yes rfl ?_ (stepsE_no rfl (stepsE_yes rfl ?_ (stepsE_yes rfl ?_ (stepsE_yes rfl ?_ (stepsE_yes rfl ?_ (stepsE_yes rfl ?_ (stepsE_no rfl (stepsE_no rfl (stepsE_nil)))))))))))))
          · intro ρ w' E
            have e8 : ρ (.tmp 8) = .pointer (some ⟨d, 0, none⟩) := E.out 8 rfl
            refine step_plain rfl ?_
            exact op_move (.inl rfl) e8 ⟨Below.refl _ _, rfl⟩
          · intro ρ w' E
            have e12 : ρ (.tmp 12) = .pointer (some ⟨GA, 0, none⟩) := E.out 12 rfl
            refine step_plain rfl ?_
            refine op_val (v := .pointer (some ⟨GA, 1, none⟩)) (w' := w') ?_ ⟨Below.refl _ _, rfl⟩
            have hcon := E.con
            clear E
            go_simp
          · intro ρ w' E
            have e144 : ρ (.tmp 144) = .pointer (some ⟨GA, 1, none⟩) := E.pre 1 rfl
            refine step_plain rfl ?_
            have k := (World.cell?_of_block (w := w1) ((E.t.keep hput (fun hf => TDF_noA _ hf)).trans hput.symm)).trans m1
            refine op_val (v := .int .i64 x.n) (w' := w') ?_ ⟨Below.refl _ _, rfl⟩
            have hcon := E.con
            clear E m1 m2 m3 m4
            go_simp
          · intro ρ w' E
            have e12 : ρ (.tmp 12) = .pointer (some ⟨GA, 0, none⟩) := E.out 12 rfl
            refine step_plain rfl ?_
            refine op_val (v := .pointer (some ⟨GA, 2, none⟩)) (w' := w') ?_ ⟨Below.refl _ _, rfl⟩
            have hcon := E.con
            clear E
            go_simp
          · intro ρ w' E
            have e146 : ρ (.tmp 146) = .pointer (some ⟨GA, 2, none⟩) := E.pre 3 rfl
            refine step_plain rfl ?_
            have k := (World.cell?_of_block (w := w1) ((E.t.keep hput (fun hf => TDF_noA _ hf)).trans hput.symm)).trans m2
            refine op_val (v := .int .i64 x.m) (w' := w') ?_ ⟨Below.refl _ _, rfl⟩
            have hcon := E.con
            clear E m1 m2 m3 m4
            go_simp
          · intro ρ w' E
            have e10 : ρ (.tmp 10) = .pointer (some ⟨rd, 0, none⟩) := E.out 10 rfl
            refine step_plain rfl ?_
            exact op_move (.inl rfl) e10 ⟨Below.refl _ _, rfl⟩
          · intro ρ w' E
            have e12 : ρ (.tmp 12) = .pointer (some ⟨GA, 0, none⟩) := E.out 12 rfl
            refine step_plain rfl ?_
            refine op_val (v := .pointer (some ⟨GA, 1, none⟩)) (w' := w') ?_ ⟨Below.refl _ _, rfl⟩
            have hcon := E.con
            clear E
            go_simp
          · intro ρ w' E
            have e150 : ρ (.tmp 150) = .pointer (some ⟨GA, 1, none⟩) := E.pre 7 rfl
            refine step_plain rfl ?_
            have k := (World.cell?_of_block (w := w1) ((E.t.keep hput (fun hf => TDF_noA _ hf)).trans hput.symm)).trans m1
            refine op_val (v := .int .i64 x.n) (w' := w') ?_ ⟨Below.refl _ _, rfl⟩
            have hcon := E.con
            clear E m1 m2 m3 m4
            go_simp
          · intro ρ w' E
            have e12 : ρ (.tmp 12) = .pointer (some ⟨GA, 0, none⟩) := E.out 12 rfl
            refine step_plain rfl ?_
            refine op_val (v := .pointer (some ⟨GA, 2, none⟩)) (w' := w') ?_ ⟨Below.refl _ _, rfl⟩
            have hcon := E.con
            clear E
            go_simp
          · intro ρ w' E
            have e152 : ρ (.tmp 152) = .pointer (some ⟨GA, 2, none⟩) := E.pre 9 rfl
            refine step_plain rfl ?_
            have k := (World.cell?_of_block (w := w1) ((E.t.keep hput (fun hf => TDF_noA _ hf)).trans hput.symm)).trans m2
            refine op_val (v := .int .i64 x.m) (w' := w') ?_ ⟨Below.refl _ _, rfl⟩
            have hcon := E.con
            clear E m1 m2 m3 m4
            go_simp
        · skip
          refine stageH_more [Sp.eq undef, Sp.eq undef, Sp.eq undef, Sp.eq undef, Sp.eq undef] rfl ?_ ?_
          · refine stepsH_skip rfl (stepsH_skip rfl (stepsH_skip rfl (stepsH_skip rfl (stepsH_skip rfl (stepsH_nil)))))
          · intro σ1 ρ1 w1c E1 K1
            have e143 : ρ1 (.tmp 143) = .pointer (some ⟨d, 0, none⟩) := E1.early 0 rfl rfl
            have e145 : ρ1 (.tmp 145) = .int .i64 x.n := E1.early 2 rfl rfl
            have e147 : ρ1 (.tmp 147) = .int .i64 x.m := E1.early 4 rfl rfl
            refine step_plain rfl ?_
            refine op_call (f := 26) (args := #[.pointer (some ⟨d, 0, none⟩), .int .i64 x.n, .int .i64 x.m]) (w' := w1c) (by have hcon := E1.con; have hfn := E1.fn; clear E1 m1 m2 m3 m4; go_simp) ?_
            refine ((HD1.out.ext E1.below).real0 (fun K hd => drv_locate x.n x.m El pl' s w1c hd HG.out.len (by have := Hok1.out.2.2.1; simp [Lit.wf, IntKind.min, IntKind.max, IntKind.signed, IntKind.bits] at this; omega) (by have := Hok1.out.2.2.2.1; simp [Lit.wf, IntKind.min, IntKind.max, IntKind.signed, IntKind.bits] at this; omega) HRR.out)).mono ?_
            rintro e w2x ⟨rfl, hd2, hm2⟩
            have HB2 := Lib.hid ((bthen HB1.out E1.below (Nat.le_refl _)).trans (hm2.below (fun b T h => h.1) (bthen HB1.out E1.below (Nat.le_refl _)).size))
            refine ⟨_, rfl, hm2, ?_⟩
            refine stageH_more [Sp.eq undef, Sp.eq undef, Sp.eq undef, Sp.eq undef, Sp.eq undef] rfl ?_ ?_
            · refine stepsH_skip rfl (stepsH_skip rfl (stepsH_skip rfl (stepsH_skip rfl (stepsH_skip rfl (stepsH_nil)))))
            · intro σ2 ρ2 w2c E2 K2
              have s148_2 : σ2 148 = .int .i64 El := (K2.old 5 148 rfl rfl rfl).trans rfl
              have e149 : ρ2 (.tmp 149) = .pointer (some ⟨rd, 0, none⟩) := E2.early 6 rfl rfl
              have e151 : ρ2 (.tmp 151) = .int .i64 x.n := E2.early 8 rfl rfl
              have e153 : ρ2 (.tmp 153) = .int .i64 x.m := E2.early 10 rfl rfl
              refine step_plain rfl ?_
              refine op_call (f := 27) (args := #[.pointer (some ⟨rd, 0, none⟩), .int .i64 x.n, .int .i64 x.m]) (w' := w2c) (by have hcon := E2.con; have hfn := E2.fn; clear E2 E1 m1 m2 m3 m4; go_simp) ?_
              refine ((hd2.ext E2.below).ref0 (fun Z hd => rdrv_locate x.n x.m El pl' s w2c hd HG.out.len (by have := Hok1.out.2.2.1; simp [Lit.wf, IntKind.min, IntKind.max, IntKind.signed, IntKind.bits] at this; omega) (by have := Hok1.out.2.2.2.1; simp [Lit.wf, IntKind.min, IntKind.max, IntKind.signed, IntKind.bits] at this; omega) HRR.out)).mono ?_
              rintro e w3x ⟨rfl, hd3, hm3⟩
              have HB3 := Lib.hid ((bthen HB2.out E2.below (Nat.le_refl _)).trans (hm3.below (fun b T h => h.1) (bthen HB2.out E2.below (Nat.le_refl _)).size))
              clear hd2 hm2 HB2
              refine ⟨_, rfl, hm3, ?_⟩
              refine stageH_last [Sp.eq (.bool false)] ?_ ?_
              · refine stepsH_cons rfl ?_ (stepsH_nil)
                · intro ρ w' E
                  have e148 : ρ (.tmp 148) = .int .i64 El := (E.old 5 148 rfl rfl rfl).trans s148_2
                  have e154 : ρ (.tmp 154) = .int .i64 El := (E.old 11 154 rfl rfl rfl).trans rfl
                  refine step_plain rfl ?_
                  refine op_val (v := .bool false) (w' := w') ?_ ⟨Below.refl _ _, rfl⟩
                  have hcon := E.con
                  clear E
                  go_simp
              · intro σF wF KF EF
                have s155 : σF 155 = .bool false := KF.val 12 rfl rfl rfl
                have GF := KF.below
                clear KF
                simp only [upd, updL, dstsOf', elemB, List.filterMap_cons, List.filterMap_nil, Nat.reduceAdd, Nat.reduceBEq, Bool.or_false, Bool.or_true, cond_true, cond_false, Nat.zero_add, s155]
                have hd3 := hd3.ext GF
                have HBF3 := Lib.hid (bthen HB3.out GF (Nat.le_refl _))
                generalize wF = wy at *
                obtain ⟨mE, pE, sE, HDE, HGE, HCE, HLE, HBE⟩ : ∃ mE pE sE, Hid (TwoD w3.heap.size 0 0 wy d g rd q mE pE sE mE pE sE) ∧ Hid (DGood mE pE) ∧ Hid (mE.cap = cap) ∧ Hid (0 ≤ sE.life ∧ sE.life ≤ ((t + 1 : Nat) : Int)) ∧ Hid (Below w3.heap.size w3 wy) := ⟨_, _, _, Lib.hid hd3, Lib.hid hgd, HC, Lib.hid (by have h0 := HS0.out; have h1 := HS1.out; omega), HBF3⟩
                clear hd3 HBF3 HB3 HRR hgd GF m1 m2 m3 m4 EF
                go_wp2_with fail
                clear HD1 HD HG HC HS0 HS1 HBv HLr Tr
                -- a round's end: world wy, HDE (TwoD with mE pE sE), HGE, HCE, HLE (life), HBE (Below)
                obtain ⟨KT, hKT⟩ := HDE.out.realP
                refine (drv_mediumP wy hKT (Nat.le_trans HGE.out.len (by decide)) HGE.out.short).mono ?_
                rintro e wz ⟨aX, cX, csX, kX, rfl, hMX, hcX, hbX⟩
                obtain ⟨hTX, hSX⟩ := TapeO.new mE.cap rfl hMX hcX
                have hzX := heap_alloc_new wz (.cells #[.int .i64 0, .slice none 0 0] 24)
                have hbyX := bthen hbX hSX (Nat.le_refl _)
                go_wp2_with (refine wpList_store_row rfl rfl 24 (.tmp 18) (.tmp 189) rfl wz.heap.size rfl 24 #[.int .i64 0, .slice none 0 0] #[.int .i64 mE.cap, .slice aX kX cX] rfl hzX rfl (by kernel_rfl) (by simp [Value.oneCell']) ?_)
                clear hzX hMX hbX hSX hKT
                generalize (wz.alloc (.cells #[.int .i64 0, .slice none 0 0] 24)).setRow wz.heap.size #[.int .i64 mE.cap, .slice aX kX cX] = wX at *
                generalize wz.heap.size = GX at *
                have HTX := Lib.hid hTX
                have HYX := Lib.hid hbyX
                have HDX := Lib.hid (HDE.out.ext hbyX)
                have HTm := Lib.hid (T.out.ext (bthen HBE.out hbyX (Nat.le_refl _)))
                clear hTX hbyX
                obtain ⟨x0, x1⟩ := HTX.out.box.cells
                have hlX := heap_lt HTX.out.box
                obtain ⟨t0, _⟩ := HTm.out.box.cells
                have hlT := heap_lt HTm.out.box
                dsimp only at t0
                obtain ⟨Z, ⟨aR, kR, cR, csR, hR, _⟩, _⟩ := HDX.out.refP
                obtain ⟨r0, r1, r2, r3⟩ := hR.cells
                have hlR := heap_lt hR.obj
                have HR := Lib.hid hR
                have hwl : IntKind.i64.wrap (cap - pE) = cap - pE := by
                  have := HGE.out.at0
                  rw [HCE.out] at this
                  rw [IntKind.wrap_i64]; omega
                clear hR r0
                refine wp_region_phase (by kernel_rfl) [] (by kernel_rfl) (by kernel_rfl) ?_
                refine stage_last [Sp.eq (.pointer (some ⟨d, 0, none⟩)), Sp.eq (.pointer (some ⟨d, 0, none⟩)), Sp.eq (.pointer (some ⟨d, 0, none⟩)), Sp.eq (.int .i64 pE), Sp.eq (.pointer (some ⟨rd, 0, none⟩)), Sp.eq (.pointer (some ⟨rd, 0, none⟩)), Sp.eq (.pointer (some ⟨rd, 3, none⟩)), Sp.eq (.int .i64 pE), Sp.eq (.bool false), Sp.eq (.bool false), Sp.eq (.pointer (some ⟨d, 0, none⟩)), Sp.eq (.pointer (some ⟨d, 0, none⟩)), Sp.eq (.pointer (some ⟨d, 0, none⟩)), Sp.eq (.int .i64 (cap - pE)), Sp.eq (.pointer (some ⟨w.heap.size, 0, none⟩)), Sp.eq (.int .i64 cap), Sp.eq (.pointer (some ⟨rd, 0, none⟩)), Sp.eq (.pointer (some ⟨rd, 0, none⟩)), Sp.eq (.pointer (some ⟨rd, 3, none⟩)), Sp.eq (.int .i64 pE), Sp.eq (.int .i64 (cap - pE)), Sp.eq (.bool false), Sp.eq (.bool false), Sp.eq (.bool false), Sp.eq (.agg #[.int .i64 mE.cap, .slice aX kX cX]), Sp.eq (.pointer (some ⟨rd, 0, none⟩)), Sp.eq (.pointer (some ⟨rd, 0, none⟩)), Sp.eq (.pointer (some ⟨rd, 1, none⟩)), Sp.eq (.agg #[.int .i64 mE.cap, .slice aR kR cR]), Sp.eq (.bool true), Sp.eq (.bool false), Sp.eq (.bool false)] ?_ ?_
                · refine stepsG_cons ?_ (stepsG_cons ?_ (stepsG_cons ?_ (stepsG_cons ?_ (stepsG_cons ?_ (stepsG_cons ?_ (stepsG_cons ?_ (stepsG_cons ?_ (stepsG_cons ?_ (stepsG_cons ?_ (stepsG_cons ?_ (stepsG_cons ?_ (stepsG_cons ?_ (stepsG_cons ?_ (stepsG_cons ?_ (stepsG_cons ?_ (stepsG_cons ?_ (stepsG_cons ?_ (stepsG_cons ?_ (stepsG_cons ?_ (stepsG_cons ?_ (stepsG_cons ?_ (stepsG_cons ?_ (stepsG_cons ?_ (stepsG_cons ?_ (stepsG_cons ?_ (stepsG_cons ?_ (stepsG_cons ?_ (stepsG_cons ?_ (stepsG_cons ?_ (stepsG_cons ?_ (stepsG_cons ?_ (stepsG_nil))))))))))))))))))))))))))))))))
                  · intro ρ w' E
                    have e8 : ρ (.tmp 8) = .pointer (some ⟨d, 0, none⟩) := E.out 8 rfl
                    refine step_plain rfl ?_
                    exact op_move (.inl rfl) e8 ⟨Below.refl _ _, rfl⟩
                  · intro ρ w' E
                    have e190 : ρ (.tmp 190) = .pointer (some ⟨d, 0, none⟩) := E.pre 0 rfl rfl
                    refine step_plain rfl ?_
                    refine op_val (v := .pointer (some ⟨d, 0, none⟩)) (w' := w') ?_ ⟨Below.refl _ _, rfl⟩
                    have hcon := E.con
                    clear E
                    go_simp
                  · intro ρ w' E
                    have e191 : ρ (.tmp 191) = .pointer (some ⟨d, 0, none⟩) := E.pre 1 rfl rfl
                    refine step_plain rfl ?_
                    refine op_val (v := .pointer (some ⟨d, 0, none⟩)) (w' := w') ?_ ⟨Below.refl _ _, rfl⟩
                    have hcon := E.con
                    clear E
                    go_simp
                  · intro ρ w' E
                    have e192 : ρ (.tmp 192) = .pointer (some ⟨d, 0, none⟩) := E.pre 2 rfl rfl
                    refine step_plain rfl ?_
                    refine op_call (f := 38) (args := #[.pointer (some ⟨d, 0, none⟩)]) (w' := w') (by have hcon := E.con; have hfn := E.fn; clear E; go_simp) ?_
                    obtain ⟨KD, hKD⟩ := (HDX.out.ext E.below).realP
                    refine (drv_placeP w' hKD).mono ?_
                    rintro e w2 ⟨rfl, rfl⟩
                    exact ⟨_, rfl, Below.refl _ _, rfl⟩
                  · intro ρ w' E
                    have e10 : ρ (.tmp 10) = .pointer (some ⟨rd, 0, none⟩) := E.out 10 rfl
                    refine step_plain rfl ?_
                    exact op_move (.inl rfl) e10 ⟨Below.refl _ _, rfl⟩
                  · intro ρ w' E
                    have e194 : ρ (.tmp 194) = .pointer (some ⟨rd, 0, none⟩) := E.pre 4 rfl rfl
                    refine step_plain rfl ?_
                    refine op_val (v := .pointer (some ⟨rd, 0, none⟩)) (w' := w') ?_ ⟨Below.refl _ _, rfl⟩
                    have hcon := E.con
                    clear E
                    go_simp
                  · intro ρ w' E
                    have e195 : ρ (.tmp 195) = .pointer (some ⟨rd, 0, none⟩) := E.pre 5 rfl rfl
                    refine step_plain rfl ?_
                    refine op_val (v := .pointer (some ⟨rd, 3, none⟩)) (w' := w') ?_ ⟨Below.refl _ _, rfl⟩
                    have hcon := E.con
                    clear E
                    go_simp
                  · intro ρ w' E
                    have e196 : ρ (.tmp 196) = .pointer (some ⟨rd, 3, none⟩) := E.pre 6 rfl rfl
                    refine step_plain rfl ?_
                    refine op_val (v := .int .i64 pE) (w' := w') ?_ ⟨Below.refl _ _, rfl⟩
                    have k3 := (World.cell?_of_block (w := wX) (E.below.block _ hlR)).trans r3
                    have hcon := E.con
                    clear E r1 r2 r3
                    go_simp
                  · intro ρ w' E
                    have e193 : ρ (.tmp 193) = .int .i64 pE := E.pre 3 rfl rfl
                    have e197 : ρ (.tmp 197) = .int .i64 pE := E.pre 7 rfl rfl
                    refine step_plain rfl ?_
                    refine op_val (v := .bool false) (w' := w') ?_ ⟨Below.refl _ _, rfl⟩
                    have hcon := E.con
                    clear E
                    go_simp
                  · intro ρ w' E
                    have e198 : ρ (.tmp 198) = .bool false := E.pre 8 rfl rfl
                    refine step_plain rfl ?_
                    exact op_move (.inl rfl) e198 ⟨Below.refl _ _, rfl⟩
                  · intro ρ w' E
                    have e8 : ρ (.tmp 8) = .pointer (some ⟨d, 0, none⟩) := E.out 8 rfl
                    refine step_yes rfl (E.pre 9 rfl rfl) ?_
                    exact op_move (.inl rfl) e8 ⟨Below.refl _ _, rfl⟩
                  · intro ρ w' E
                    have e200 : ρ (.tmp 200) = .pointer (some ⟨d, 0, none⟩) := E.pre 10 rfl rfl
                    refine step_yes rfl (E.pre 9 rfl rfl) ?_
                    refine op_val (v := .pointer (some ⟨d, 0, none⟩)) (w' := w') ?_ ⟨Below.refl _ _, rfl⟩
                    have hcon := E.con
                    clear E
                    go_simp
                  · intro ρ w' E
                    have e201 : ρ (.tmp 201) = .pointer (some ⟨d, 0, none⟩) := E.pre 11 rfl rfl
                    refine step_yes rfl (E.pre 9 rfl rfl) ?_
                    refine op_val (v := .pointer (some ⟨d, 0, none⟩)) (w' := w') ?_ ⟨Below.refl _ _, rfl⟩
                    have hcon := E.con
                    clear E
                    go_simp
                  · intro ρ w' E
                    have e202 : ρ (.tmp 202) = .pointer (some ⟨d, 0, none⟩) := E.pre 12 rfl rfl
                    refine step_yes rfl (E.pre 9 rfl rfl) ?_
                    refine op_call (f := 39) (args := #[.pointer (some ⟨d, 0, none⟩)]) (w' := w') (by have hcon := E.con; have hfn := E.fn; clear E; go_simp) ?_
                    obtain ⟨KD, hKD⟩ := (HDX.out.ext E.below).realP
                    refine (drv_leftP (cap - pE) w' hKD (by rw [HCE.out]) (by have := HGE.out.at0; rw [HCE.out] at this; omega) (by have := HGE.out.at0; rw [HCE.out] at this; omega)).mono ?_
                    rintro e w2 ⟨rfl, hb⟩
                    exact ⟨_, rfl, hb, rfl⟩
                  · intro ρ w' E
                    have e2 : ρ (.tmp 2) = .pointer (some ⟨w.heap.size, 0, none⟩) := E.out 2 rfl
                    refine step_yes rfl (E.pre 9 rfl rfl) ?_
                    refine op_val (v := .pointer (some ⟨w.heap.size, 0, none⟩)) (w' := w') ?_ ⟨Below.refl _ _, rfl⟩
                    have hcon := E.con
                    clear E
                    go_simp
                  · intro ρ w' E
                    have e204 : ρ (.tmp 204) = .pointer (some ⟨w.heap.size, 0, none⟩) := E.pre 14 rfl rfl
                    refine step_yes rfl (E.pre 9 rfl rfl) ?_
                    refine op_val (v := .int .i64 cap) (w' := w') ?_ ⟨Below.refl _ _, rfl⟩
                    have k0 := (World.cell?_of_block (w := wX) (E.below.block _ hlT)).trans t0
                    have hcon := E.con
                    clear E r1 r2 r3
                    go_simp
                  · intro ρ w' E
                    have e10 : ρ (.tmp 10) = .pointer (some ⟨rd, 0, none⟩) := E.out 10 rfl
                    refine step_yes rfl (E.pre 9 rfl rfl) ?_
                    exact op_move (.inl rfl) e10 ⟨Below.refl _ _, rfl⟩
                  · intro ρ w' E
                    have e206 : ρ (.tmp 206) = .pointer (some ⟨rd, 0, none⟩) := E.pre 16 rfl rfl
                    refine step_yes rfl (E.pre 9 rfl rfl) ?_
                    refine op_val (v := .pointer (some ⟨rd, 0, none⟩)) (w' := w') ?_ ⟨Below.refl _ _, rfl⟩
                    have hcon := E.con
                    clear E
                    go_simp
                  · intro ρ w' E
                    have e207 : ρ (.tmp 207) = .pointer (some ⟨rd, 0, none⟩) := E.pre 17 rfl rfl
                    refine step_yes rfl (E.pre 9 rfl rfl) ?_
                    refine op_val (v := .pointer (some ⟨rd, 3, none⟩)) (w' := w') ?_ ⟨Below.refl _ _, rfl⟩
                    have hcon := E.con
                    clear E
                    go_simp
                  · intro ρ w' E
                    have e208 : ρ (.tmp 208) = .pointer (some ⟨rd, 3, none⟩) := E.pre 18 rfl rfl
                    refine step_yes rfl (E.pre 9 rfl rfl) ?_
                    refine op_val (v := .int .i64 pE) (w' := w') ?_ ⟨Below.refl _ _, rfl⟩
                    have k3 := (World.cell?_of_block (w := wX) (E.below.block _ hlR)).trans r3
                    have hcon := E.con
                    clear E r1 r2 r3
                    go_simp
                  · intro ρ w' E
                    have e205 : ρ (.tmp 205) = .int .i64 cap := E.pre 15 rfl rfl
                    have e209 : ρ (.tmp 209) = .int .i64 pE := E.pre 19 rfl rfl
                    refine step_yes rfl (E.pre 9 rfl rfl) ?_
                    refine op_val (v := .int .i64 (cap - pE)) (w' := w') ?_ ⟨Below.refl _ _, rfl⟩
                    have hw := hwl
                    have hcon := E.con
                    clear E
                    go_simp
                  · intro ρ w' E
                    have e203 : ρ (.tmp 203) = .int .i64 (cap - pE) := E.pre 13 rfl rfl
                    have e210 : ρ (.tmp 210) = .int .i64 (cap - pE) := E.pre 20 rfl rfl
                    refine step_yes rfl (E.pre 9 rfl rfl) ?_
                    refine op_val (v := .bool false) (w' := w') ?_ ⟨Below.refl _ _, rfl⟩
                    have hcon := E.con
                    clear E
                    go_simp
                  · intro ρ w' E
                    have e199 : ρ (.tmp 199) = .bool false := E.pre 9 rfl rfl
                    have e211 : ρ (.tmp 211) = .bool false := E.pre 21 rfl rfl
                    refine step_plain rfl ?_
                    exact op_pick (b := false) rfl e199 rfl ⟨Below.refl _ _, e211⟩
                  · intro ρ w' E
                    have e212 : ρ (.tmp 212) = .bool false := E.pre 22 rfl rfl
                    refine step_plain rfl ?_
                    exact op_move (.inl rfl) e212 ⟨Below.refl _ _, rfl⟩
                  · intro ρ w' E
                    have e18 : ρ (.tmp 18) = .pointer (some ⟨GX, 0, none⟩) := E.out 18 rfl
                    refine step_yes rfl (E.pre 23 rfl rfl) ?_
                    refine op_val (v := .agg #[.int .i64 mE.cap, .slice aX kX cX]) (w' := w') ?_ ⟨Below.refl _ _, rfl⟩
                    have k1 := (World.cell?_of_block (w := wX) (E.below.block _ hlX)).trans x0
                    have k2 := (World.cell?_of_block (w := wX) (E.below.block _ hlX)).trans x1
                    have hcon := E.con
                    clear E x0 x1 r1 r2 r3
                    go_simp
                  · intro ρ w' E
                    have e10 : ρ (.tmp 10) = .pointer (some ⟨rd, 0, none⟩) := E.out 10 rfl
                    refine step_yes rfl (E.pre 23 rfl rfl) ?_
                    exact op_move (.inl rfl) e10 ⟨Below.refl _ _, rfl⟩
                  · intro ρ w' E
                    have e215 : ρ (.tmp 215) = .pointer (some ⟨rd, 0, none⟩) := E.pre 25 rfl rfl
                    refine step_yes rfl (E.pre 23 rfl rfl) ?_
                    refine op_val (v := .pointer (some ⟨rd, 0, none⟩)) (w' := w') ?_ ⟨Below.refl _ _, rfl⟩
                    have hcon := E.con
                    clear E
                    go_simp
                  · intro ρ w' E
                    have e216 : ρ (.tmp 216) = .pointer (some ⟨rd, 0, none⟩) := E.pre 26 rfl rfl
                    refine step_yes rfl (E.pre 23 rfl rfl) ?_
                    refine op_val (v := .pointer (some ⟨rd, 1, none⟩)) (w' := w') ?_ ⟨Below.refl _ _, rfl⟩
                    have hcon := E.con
                    clear E
                    go_simp
                  · intro ρ w' E
                    have e217 : ρ (.tmp 217) = .pointer (some ⟨rd, 1, none⟩) := E.pre 27 rfl rfl
                    refine step_yes rfl (E.pre 23 rfl rfl) ?_
                    refine op_val (v := .agg #[.int .i64 mE.cap, .slice aR kR cR]) (w' := w') ?_ ⟨Below.refl _ _, rfl⟩
                    have k1 := (World.cell?_of_block (w := wX) (E.below.block _ hlR)).trans r1
                    have k2 := (World.cell?_of_block (w := wX) (E.below.block _ hlR)).trans r2
                    have hcon := E.con
                    clear E r1 r2 r3
                    go_simp
                  · intro ρ w' E
                    have e214 : ρ (.tmp 214) = .agg #[.int .i64 mE.cap, .slice aX kX cX] := E.pre 24 rfl rfl
                    have e218 : ρ (.tmp 218) = .agg #[.int .i64 mE.cap, .slice aR kR cR] := E.pre 28 rfl rfl
                    refine step_yes rfl (E.pre 23 rfl rfl) ?_
                    refine op_call (f := 40) (args := #[.agg #[.int .i64 mE.cap, .slice aX kX cX], .agg #[.int .i64 mE.cap, .slice aR kR cR]]) (w' := w') (by have hcon := E.con; have hfn := E.fn; clear E; go_simp) ?_
                    refine (keepmed_any mE.cap mE.cap aX aR cX kX cR kR csX csR true w' (HTX.out.r.ext E.below).mat (HR.out.r.ext E.below).mat HTX.out.r.len.symm HR.out.r.len.symm HTX.out.r.len63 HR.out.r.len63 (by rw [HTX.out.r.pls, HR.out.r.pls]; simp)).mono ?_
                    rintro e w2 ⟨rfl, hb⟩
                    exact ⟨_, rfl, hb, rfl⟩
                  · intro ρ w' E
                    have e219 : ρ (.tmp 219) = .bool true := E.pre 29 rfl rfl
                    refine step_yes rfl (E.pre 23 rfl rfl) ?_
                    refine op_val (v := .bool false) (w' := w') ?_ ⟨Below.refl _ _, rfl⟩
                    have hcon := E.con
                    clear E
                    go_simp
                  · intro ρ w' E
                    have e213 : ρ (.tmp 213) = .bool false := E.pre 23 rfl rfl
                    have e220 : ρ (.tmp 220) = .bool false := E.pre 30 rfl rfl
                    refine step_plain rfl ?_
                    exact op_pick (b := false) rfl e213 rfl ⟨Below.refl _ _, e220⟩
                · intro σF wF GF OF HF
                  have s221 : σF 221 = .bool false := HF 31 rfl rfl
                  clear OF HF
                  simp only [upd, updL, dstsOf', elemB, List.filterMap_cons, List.filterMap_nil, Nat.reduceAdd, Nat.reduceBEq, Bool.or_false, Bool.or_true, cond_true, cond_false, Nat.zero_add, s221]
                  have HTF := Lib.hid (HTX.out.ext GF)
                  have HYF := Lib.hid (bthen HYX.out GF (Nat.le_refl _))
                  clear GF x0 x1 r1 r2 r3 t0 s221 HTX HYX HDX HTm HR
                  obtain ⟨x0, x1⟩ := HTF.out.box.cells
                  go_wp2_with fail
                  refine (spoilmed_any wy.heap.size wF.heap.size mE.cap aX cX kX csX wF HTF.out.r.own HTF.out.r.len.symm (by have := HTF.out.r.size; have := HGE.out.len; omega) (HTF.out.r.short HGE.out.short) HYF.out.size (fun x hx hn0 => HTF.out.r.own.row.bnd x hx (.inl (by rw [HTF.out.r.len]; exact hn0))) (fun y hy hy0 x hx => (HTF.out.r.own.dat y hy).bnd x hx (.inl (by rw [Ne, List.length_eq_zero_iff]; exact hy0)))).mono ?_
                  rintro e wG ⟨rfl, hbG, -⟩
                  have HGF := Lib.hid (HYF.out.trans hbG)
                  clear hbG x0 x1
                  go_wp2_with fail
                  go_roundw
                  case rel => exact ⟨t + 1, mE, pE, sE, _, rfl, by omega, by omega, by go_num, HDE.out.ext HGF.out, HGE.out, HCE.out, HLE.out.1, HLE.out.2, bthen HBE.out HGF.out (Nat.le_refl _)⟩
                  case measure => simp [intOf]; omega
      by_cases hz8 : z = 8
      · have e3 : ((z : Int) == 3) = false := by simp; omega
        have e4 : ((z : Int) == 4) = false := by simp; omega
        have e5 : ((z : Int) == 5) = false := by simp; omega
        have e6 : ((z : Int) == 6) = false := by simp; omega
        have e7 : ((z : Int) == 7) = false := by simp; omega
        have e8 : ((z : Int) == 8) = true := by simp; omega
        have hput := setRow_heap (wr.alloc (.cells #[.int .i64 0, .int .i64 0, .int .i64 0, .slice none 0 0, .int .i64 0] 44)) wr.heap.size _ #[.int .i64 x.what, .int .i64 x.n, .int .i64 x.m, .slice x.b.a x.b.l.length x.b.c, .int .i64 x.torn] _ _ (heap_alloc_new wr _)
        have hbp : Below wr.heap.size wr ((wr.alloc (.cells #[.int .i64 0, .int .i64 0, .int .i64 0, .slice none 0 0, .int .i64 0] 44)).setRow wr.heap.size #[.int .i64 x.what, .int .i64 x.n, .int .i64 x.m, .slice x.b.a x.b.l.length x.b.c, .int .i64 x.torn]) := bsetRow (ext_alloc wr _) (Nat.le_refl _) _
        have m0 := cell_of_row _ _ 0 _ _ _ hput
        have m1 := cell_of_row _ _ 1 _ _ _ hput
        have m2 := cell_of_row _ _ 2 _ _ _ hput
        have m3 := cell_of_row _ _ 3 _ _ _ hput
        have m4 := cell_of_row _ _ 4 _ _ _ hput
        go_wp2_with (first
          | (refine wpList_store_row rfl rfl 44 (.tmp 12) (.tmp 77) rfl wr.heap.size rfl 44 #[.int .i64 0, .int .i64 0, .int .i64 0, .slice none 0 0, .int .i64 0] #[.int .i64 x.what, .int .i64 x.n, .int .i64 x.m, .slice x.b.a x.b.l.length x.b.c, .int .i64 x.torn] rfl (heap_alloc_new wr _) rfl (by kernel_rfl) (by intro v hv; simp at hv; rcases hv with rfl | rfl | rfl | rfl | rfl <;> rfl) ?_))
        generalize hws : World.setRow _ _ _ = w1 at *
        have HD1 := Lib.hid (HD.out.ext hbp)
        have HB1 := Lib.hid (bthen HBv.out hbp (Nat.le_refl _))
        have Hok1 := Lib.hid (show A5ok w1 x from ⟨Hok5.out.1.ext hbp, Hok5.out.2⟩)
        clear hws hbp c0 c1 c2 c3 c4 m0
        generalize wr.heap.size = GA at *
        obtain ⟨⟨El, pl'⟩, hrr⟩ : ∃ y, y = (if s.off then ((5 : Int), p) else M.locate x.n x.m p) := ⟨_, rfl⟩
        have hgd := locate_good HG.out hrr.symm
        have HRR := Lib.hid hrr.symm
        clear hrr
        refine wp_region_free (by kernel_rfl) [0, 1, 2, 3, 4, 6, 7, 8, 9, 10] [5, 11] (Mod.rel (TDF w3.heap.size)) [SpT.eq (.pointer (some ⟨d, 0, none⟩)), SpT.eq (.pointer (some ⟨GA, 1, none⟩)), SpT.eq (.int .i64 x.n), SpT.eq (.pointer (some ⟨GA, 2, none⟩)), SpT.eq (.int .i64 x.m), SpT.top, SpT.eq (.pointer (some ⟨rd, 0, none⟩)), SpT.eq (.pointer (some ⟨GA, 1, none⟩)), SpT.eq (.int .i64 x.n), SpT.eq (.pointer (some ⟨GA, 2, none⟩)), SpT.eq (.int .i64 x.m), SpT.top, SpT.top] (by kernel_rfl) (by kernel_rfl) (by kernel_rfl) ?_ ?_
        · refine stepsE_yes rfl ?_ (stepsE_yes rfl ?_ (stepsE_yes rfl ?_ (stepsE_yes rfl ?_ (stepsE_yes rfl ?_ (stepsE_no rfl (stepsE_yes rfl ?_ (stepsE_yes rfl ?_ (stepsE_yes rfl ?_ (stepsE_yes rfl ?_ (stepsE_yes rfl ?_ (stepsE_no rfl (stepsE_no rfl (stepsE_nil)))))))))))))
          · intro ρ w' E
            have e8 : ρ (.tmp 8) = .pointer (some ⟨d, 0, none⟩) := E.out 8 rfl
            refine step_plain rfl ?_
            exact op_move (.inl rfl) e8 ⟨Below.refl _ _, rfl⟩
          · intro ρ w' E
            have e12 : ρ (.tmp 12) = .pointer (some ⟨GA, 0, none⟩) := E.out 12 rfl
            refine step_plain rfl ?_
            refine op_val (v := .pointer (some ⟨GA, 1, none⟩)) (w' := w') ?_ ⟨Below.refl _ _, rfl⟩
            have hcon := E.con
            clear E
            go_simp
          · intro ρ w' E
            have e144 : ρ (.tmp 144) = .pointer (some ⟨GA, 1, none⟩) := E.pre 1 rfl
            refine step_plain rfl ?_
            have k := (World.cell?_of_block (w := w1) ((E.t.keep hput (fun hf => TDF_noA _ hf)).trans hput.symm)).trans m1
            refine op_val (v := .int .i64 x.n) (w' := w') ?_ ⟨Below.refl _ _, rfl⟩
            have hcon := E.con
            clear E m1 m2 m3 m4
            go_simp
          · intro ρ w' E
            have e12 : ρ (.tmp 12) = .pointer (some ⟨GA, 0, none⟩) := E.out 12 rfl
            refine step_plain rfl ?_
            refine op_val (v := .pointer (some ⟨GA, 2, none⟩)) (w' := w') ?_ ⟨Below.refl _ _, rfl⟩
            have hcon := E.con
            clear E
            go_simp
          · intro ρ w' E
            have e146 : ρ (.tmp 146) = .pointer (some ⟨GA, 2, none⟩) := E.pre 3 rfl
            refine step_plain rfl ?_
            have k := (World.cell?_of_block (w := w1) ((E.t.keep hput (fun hf => TDF_noA _ hf)).trans hput.symm)).trans m2
            refine op_val (v := .int .i64 x.m) (w' := w') ?_ ⟨Below.refl _ _, rfl⟩
            have hcon := E.con
            clear E m1 m2 m3 m4
            go_simp
          · intro ρ w' E
            have e10 : ρ (.tmp 10) = .pointer (some ⟨rd, 0, none⟩) := E.out 10 rfl
            refine step_plain rfl ?_
            exact op_move (.inl rfl) e10 ⟨Below.refl _ _, rfl⟩
          · intro ρ w' E
            have e12 : ρ (.tmp 12) = .pointer (some ⟨GA, 0, none⟩) := E.out 12 rfl
            refine step_plain rfl ?_
            refine op_val (v := .pointer (some ⟨GA, 1, none⟩)) (w' := w') ?_ ⟨Below.refl _ _, rfl⟩
            have hcon := E.con
            clear E
            go_simp
          · intro ρ w' E
            have e150 : ρ (.tmp 150) = .pointer (some ⟨GA, 1, none⟩) := E.pre 7 rfl
            refine step_plain rfl ?_
            have k := (World.cell?_of_block (w := w1) ((E.t.keep hput (fun hf => TDF_noA _ hf)).trans hput.symm)).trans m1
            refine op_val (v := .int .i64 x.n) (w' := w') ?_ ⟨Below.refl _ _, rfl⟩
            have hcon := E.con
            clear E m1 m2 m3 m4
            go_simp
          · intro ρ w' E
            have e12 : ρ (.tmp 12) = .pointer (some ⟨GA, 0, none⟩) := E.out 12 rfl
            refine step_plain rfl ?_
            refine op_val (v := .pointer (some ⟨GA, 2, none⟩)) (w' := w') ?_ ⟨Below.refl _ _, rfl⟩
            have hcon := E.con
            clear E
            go_simp
          · intro ρ w' E
            have e152 : ρ (.tmp 152) = .pointer (some ⟨GA, 2, none⟩) := E.pre 9 rfl
            refine step_plain rfl ?_
            have k := (World.cell?_of_block (w := w1) ((E.t.keep hput (fun hf => TDF_noA _ hf)).trans hput.symm)).trans m2
            refine op_val (v := .int .i64 x.m) (w' := w') ?_ ⟨Below.refl _ _, rfl⟩
            have hcon := E.con
            clear E m1 m2 m3 m4
            go_simp
        · skip
          refine stageH_more [Sp.eq undef, Sp.eq undef, Sp.eq undef, Sp.eq undef, Sp.eq undef] rfl ?_ ?_
          · refine stepsH_skip rfl (stepsH_skip rfl (stepsH_skip rfl (stepsH_skip rfl (stepsH_skip rfl (stepsH_nil)))))
          · intro σ1 ρ1 w1c E1 K1
            have e143 : ρ1 (.tmp 143) = .pointer (some ⟨d, 0, none⟩) := E1.early 0 rfl rfl
            have e145 : ρ1 (.tmp 145) = .int .i64 x.n := E1.early 2 rfl rfl
            have e147 : ρ1 (.tmp 147) = .int .i64 x.m := E1.early 4 rfl rfl
            refine step_plain rfl ?_
            refine op_call (f := 26) (args := #[.pointer (some ⟨d, 0, none⟩), .int .i64 x.n, .int .i64 x.m]) (w' := w1c) (by have hcon := E1.con; have hfn := E1.fn; clear E1 m1 m2 m3 m4; go_simp) ?_
            refine ((HD1.out.ext E1.below).real0 (fun K hd => drv_locate x.n x.m El pl' s w1c hd HG.out.len (by have := Hok1.out.2.2.1; simp [Lit.wf, IntKind.min, IntKind.max, IntKind.signed, IntKind.bits] at this; omega) (by have := Hok1.out.2.2.2.1; simp [Lit.wf, IntKind.min, IntKind.max, IntKind.signed, IntKind.bits] at this; omega) HRR.out)).mono ?_
            rintro e w2x ⟨rfl, hd2, hm2⟩
            have HB2 := Lib.hid ((bthen HB1.out E1.below (Nat.le_refl _)).trans (hm2.below (fun b T h => h.1) (bthen HB1.out E1.below (Nat.le_refl _)).size))
            refine ⟨_, rfl, hm2, ?_⟩
            refine stageH_more [Sp.eq undef, Sp.eq undef, Sp.eq undef, Sp.eq undef, Sp.eq undef] rfl ?_ ?_
            · refine stepsH_skip rfl (stepsH_skip rfl (stepsH_skip rfl (stepsH_skip rfl (stepsH_skip rfl (stepsH_nil)))))
            · intro σ2 ρ2 w2c E2 K2
              have s148_2 : σ2 148 = .int .i64 El := (K2.old 5 148 rfl rfl rfl).trans rfl
              have e149 : ρ2 (.tmp 149) = .pointer (some ⟨rd, 0, none⟩) := E2.early 6 rfl rfl
              have e151 : ρ2 (.tmp 151) = .int .i64 x.n := E2.early 8 rfl rfl
              have e153 : ρ2 (.tmp 153) = .int .i64 x.m := E2.early 10 rfl rfl
              refine step_plain rfl ?_
              refine op_call (f := 27) (args := #[.pointer (some ⟨rd, 0, none⟩), .int .i64 x.n, .int .i64 x.m]) (w' := w2c) (by have hcon := E2.con; have hfn := E2.fn; clear E2 E1 m1 m2 m3 m4; go_simp) ?_
              refine ((hd2.ext E2.below).ref0 (fun Z hd => rdrv_locate x.n x.m El pl' s w2c hd HG.out.len (by have := Hok1.out.2.2.1; simp [Lit.wf, IntKind.min, IntKind.max, IntKind.signed, IntKind.bits] at this; omega) (by have := Hok1.out.2.2.2.1; simp [Lit.wf, IntKind.min, IntKind.max, IntKind.signed, IntKind.bits] at this; omega) HRR.out)).mono ?_
              rintro e w3x ⟨rfl, hd3, hm3⟩
              have HB3 := Lib.hid ((bthen HB2.out E2.below (Nat.le_refl _)).trans (hm3.below (fun b T h => h.1) (bthen HB2.out E2.below (Nat.le_refl _)).size))
              clear hd2 hm2 HB2
              refine ⟨_, rfl, hm3, ?_⟩
              refine stageH_last [Sp.eq (.bool false)] ?_ ?_
              · refine stepsH_cons rfl ?_ (stepsH_nil)
                · intro ρ w' E
                  have e148 : ρ (.tmp 148) = .int .i64 El := (E.old 5 148 rfl rfl rfl).trans s148_2
                  have e154 : ρ (.tmp 154) = .int .i64 El := (E.old 11 154 rfl rfl rfl).trans rfl
                  refine step_plain rfl ?_
                  refine op_val (v := .bool false) (w' := w') ?_ ⟨Below.refl _ _, rfl⟩
                  have hcon := E.con
                  clear E
                  go_simp
              · intro σF wF KF EF
                have s155 : σF 155 = .bool false := KF.val 12 rfl rfl rfl
                have GF := KF.below
                clear KF
                simp only [upd, updL, dstsOf', elemB, List.filterMap_cons, List.filterMap_nil, Nat.reduceAdd, Nat.reduceBEq, Bool.or_false, Bool.or_true, cond_true, cond_false, Nat.zero_add, s155]
                have hd3 := hd3.ext GF
                have HBF3 := Lib.hid (bthen HB3.out GF (Nat.le_refl _))
                generalize wF = wy at *
                obtain ⟨mE, pE, sE, HDE, HGE, HCE, HLE, HBE⟩ : ∃ mE pE sE, Hid (TwoD w3.heap.size 0 0 wy d g rd q mE pE sE mE pE sE) ∧ Hid (DGood mE pE) ∧ Hid (mE.cap = cap) ∧ Hid (0 ≤ sE.life ∧ sE.life ≤ ((t + 1 : Nat) : Int)) ∧ Hid (Below w3.heap.size w3 wy) := ⟨_, _, _, Lib.hid hd3, Lib.hid hgd, HC, Lib.hid (by have h0 := HS0.out; have h1 := HS1.out; omega), HBF3⟩
                clear hd3 HBF3 HB3 HRR hgd GF m1 m2 m3 m4 EF
                go_wp2_with fail
                clear HD1 HD HG HC HS0 HS1 HBv HLr Tr
                -- a round's end: world wy, HDE (TwoD with mE pE sE), HGE, HCE, HLE (life), HBE (Below)
                obtain ⟨KT, hKT⟩ := HDE.out.realP
                refine (drv_mediumP wy hKT (Nat.le_trans HGE.out.len (by decide)) HGE.out.short).mono ?_
                rintro e wz ⟨aX, cX, csX, kX, rfl, hMX, hcX, hbX⟩
                obtain ⟨hTX, hSX⟩ := TapeO.new mE.cap rfl hMX hcX
                have hzX := heap_alloc_new wz (.cells #[.int .i64 0, .slice none 0 0] 24)
                have hbyX := bthen hbX hSX (Nat.le_refl _)
                go_wp2_with (refine wpList_store_row rfl rfl 24 (.tmp 18) (.tmp 189) rfl wz.heap.size rfl 24 #[.int .i64 0, .slice none 0 0] #[.int .i64 mE.cap, .slice aX kX cX] rfl hzX rfl (by kernel_rfl) (by simp [Value.oneCell']) ?_)
                clear hzX hMX hbX hSX hKT
                generalize (wz.alloc (.cells #[.int .i64 0, .slice none 0 0] 24)).setRow wz.heap.size #[.int .i64 mE.cap, .slice aX kX cX] = wX at *
                generalize wz.heap.size = GX at *
                have HTX := Lib.hid hTX
                have HYX := Lib.hid hbyX
                have HDX := Lib.hid (HDE.out.ext hbyX)
                have HTm := Lib.hid (T.out.ext (bthen HBE.out hbyX (Nat.le_refl _)))
                clear hTX hbyX
                obtain ⟨x0, x1⟩ := HTX.out.box.cells
                have hlX := heap_lt HTX.out.box
                obtain ⟨t0, _⟩ := HTm.out.box.cells
                have hlT := heap_lt HTm.out.box
                dsimp only at t0
                obtain ⟨Z, ⟨aR, kR, cR, csR, hR, _⟩, _⟩ := HDX.out.refP
                obtain ⟨r0, r1, r2, r3⟩ := hR.cells
                have hlR := heap_lt hR.obj
                have HR := Lib.hid hR
                have hwl : IntKind.i64.wrap (cap - pE) = cap - pE := by
                  have := HGE.out.at0
                  rw [HCE.out] at this
                  rw [IntKind.wrap_i64]; omega
                clear hR r0
                refine wp_region_phase (by kernel_rfl) [] (by kernel_rfl) (by kernel_rfl) ?_
                refine stage_last [Sp.eq (.pointer (some ⟨d, 0, none⟩)), Sp.eq (.pointer (some ⟨d, 0, none⟩)), Sp.eq (.pointer (some ⟨d, 0, none⟩)), Sp.eq (.int .i64 pE), Sp.eq (.pointer (some ⟨rd, 0, none⟩)), Sp.eq (.pointer (some ⟨rd, 0, none⟩)), Sp.eq (.pointer (some ⟨rd, 3, none⟩)), Sp.eq (.int .i64 pE), Sp.eq (.bool false), Sp.eq (.bool false), Sp.eq (.pointer (some ⟨d, 0, none⟩)), Sp.eq (.pointer (some ⟨d, 0, none⟩)), Sp.eq (.pointer (some ⟨d, 0, none⟩)), Sp.eq (.int .i64 (cap - pE)), Sp.eq (.pointer (some ⟨w.heap.size, 0, none⟩)), Sp.eq (.int .i64 cap), Sp.eq (.pointer (some ⟨rd, 0, none⟩)), Sp.eq (.pointer (some ⟨rd, 0, none⟩)), Sp.eq (.pointer (some ⟨rd, 3, none⟩)), Sp.eq (.int .i64 pE), Sp.eq (.int .i64 (cap - pE)), Sp.eq (.bool false), Sp.eq (.bool false), Sp.eq (.bool false), Sp.eq (.agg #[.int .i64 mE.cap, .slice aX kX cX]), Sp.eq (.pointer (some ⟨rd, 0, none⟩)), Sp.eq (.pointer (some ⟨rd, 0, none⟩)), Sp.eq (.pointer (some ⟨rd, 1, none⟩)), Sp.eq (.agg #[.int .i64 mE.cap, .slice aR kR cR]), Sp.eq (.bool true), Sp.eq (.bool false), Sp.eq (.bool false)] ?_ ?_
                · refine stepsG_cons ?_ (stepsG_cons ?_ (stepsG_cons ?_ (stepsG_cons ?_ (stepsG_cons ?_ (stepsG_cons ?_ (stepsG_cons ?_ (stepsG_cons ?_ (stepsG_cons ?_ (stepsG_cons ?_ (stepsG_cons ?_ (stepsG_cons ?_ (stepsG_cons ?_ (stepsG_cons ?_ (stepsG_cons ?_ (stepsG_cons ?_ (stepsG_cons ?_ (stepsG_cons ?_ (stepsG_cons ?_ (stepsG_cons ?_ (stepsG_cons ?_ (stepsG_cons ?_ (stepsG_cons ?_ (stepsG_cons ?_ (stepsG_cons ?_ (stepsG_cons ?_ (stepsG_cons ?_ (stepsG_cons ?_ (stepsG_cons ?_ (stepsG_cons ?_ (stepsG_cons ?_ (stepsG_cons ?_ (stepsG_nil))))))))))))))))))))))))))))))))
                  · intro ρ w' E
                    have e8 : ρ (.tmp 8) = .pointer (some ⟨d, 0, none⟩) := E.out 8 rfl
                    refine step_plain rfl ?_
                    exact op_move (.inl rfl) e8 ⟨Below.refl _ _, rfl⟩
                  · intro ρ w' E
                    have e190 : ρ (.tmp 190) = .pointer (some ⟨d, 0, none⟩) := E.pre 0 rfl rfl
                    refine step_plain rfl ?_
                    refine op_val (v := .pointer (some ⟨d, 0, none⟩)) (w' := w') ?_ ⟨Below.refl _ _, rfl⟩
                    have hcon := E.con
                    clear E
                    go_simp
                  · intro ρ w' E
                    have e191 : ρ (.tmp 191) = .pointer (some ⟨d, 0, none⟩) := E.pre 1 rfl rfl
                    refine step_plain rfl ?_
                    refine op_val (v := .pointer (some ⟨d, 0, none⟩)) (w' := w') ?_ ⟨Below.refl _ _, rfl⟩
                    have hcon := E.con
                    clear E
                    go_simp
                  · intro ρ w' E
                    have e192 : ρ (.tmp 192) = .pointer (some ⟨d, 0, none⟩) := E.pre 2 rfl rfl
                    refine step_plain rfl ?_
                    refine op_call (f := 38) (args := #[.pointer (some ⟨d, 0, none⟩)]) (w' := w') (by have hcon := E.con; have hfn := E.fn; clear E; go_simp) ?_
                    obtain ⟨KD, hKD⟩ := (HDX.out.ext E.below).realP
                    refine (drv_placeP w' hKD).mono ?_
                    rintro e w2 ⟨rfl, rfl⟩
                    exact ⟨_, rfl, Below.refl _ _, rfl⟩
                  · intro ρ w' E
                    have e10 : ρ (.tmp 10) = .pointer (some ⟨rd, 0, none⟩) := E.out 10 rfl
                    refine step_plain rfl ?_
                    exact op_move (.inl rfl) e10 ⟨Below.refl _ _, rfl⟩
                  · intro ρ w' E
                    have e194 : ρ (.tmp 194) = .pointer (some ⟨rd, 0, none⟩) := E.pre 4 rfl rfl
                    refine step_plain rfl ?_
                    refine op_val (v := .pointer (some ⟨rd, 0, none⟩)) (w' := w') ?_ ⟨Below.refl _ _, rfl⟩
                    have hcon := E.con
                    clear E
                    go_simp
                  · intro ρ w' E
                    have e195 : ρ (.tmp 195) = .pointer (some ⟨rd, 0, none⟩) := E.pre 5 rfl rfl
                    refine step_plain rfl ?_
                    refine op_val (v := .pointer (some ⟨rd, 3, none⟩)) (w' := w') ?_ ⟨Below.refl _ _, rfl⟩
                    have hcon := E.con
                    clear E
                    go_simp
                  · intro ρ w' E
                    have e196 : ρ (.tmp 196) = .pointer (some ⟨rd, 3, none⟩) := E.pre 6 rfl rfl
                    refine step_plain rfl ?_
                    refine op_val (v := .int .i64 pE) (w' := w') ?_ ⟨Below.refl _ _, rfl⟩
                    have k3 := (World.cell?_of_block (w := wX) (E.below.block _ hlR)).trans r3
                    have hcon := E.con
                    clear E r1 r2 r3
                    go_simp
                  · intro ρ w' E
                    have e193 : ρ (.tmp 193) = .int .i64 pE := E.pre 3 rfl rfl
                    have e197 : ρ (.tmp 197) = .int .i64 pE := E.pre 7 rfl rfl
                    refine step_plain rfl ?_
                    refine op_val (v := .bool false) (w' := w') ?_ ⟨Below.refl _ _, rfl⟩
                    have hcon := E.con
                    clear E
                    go_simp
                  · intro ρ w' E
                    have e198 : ρ (.tmp 198) = .bool false := E.pre 8 rfl rfl
                    refine step_plain rfl ?_
                    exact op_move (.inl rfl) e198 ⟨Below.refl _ _, rfl⟩
                  · intro ρ w' E
                    have e8 : ρ (.tmp 8) = .pointer (some ⟨d, 0, none⟩) := E.out 8 rfl
                    refine step_yes rfl (E.pre 9 rfl rfl) ?_
                    exact op_move (.inl rfl) e8 ⟨Below.refl _ _, rfl⟩
                  · intro ρ w' E
                    have e200 : ρ (.tmp 200) = .pointer (some ⟨d, 0, none⟩) := E.pre 10 rfl rfl
                    refine step_yes rfl (E.pre 9 rfl rfl) ?_
                    refine op_val (v := .pointer (some ⟨d, 0, none⟩)) (w' := w') ?_ ⟨Below.refl _ _, rfl⟩
                    have hcon := E.con
                    clear E
                    go_simp
                  · intro ρ w' E
                    have e201 : ρ (.tmp 201) = .pointer (some ⟨d, 0, none⟩) := E.pre 11 rfl rfl
                    refine step_yes rfl (E.pre 9 rfl rfl) ?_
                    refine op_val (v := .pointer (some ⟨d, 0, none⟩)) (w' := w') ?_ ⟨Below.refl _ _, rfl⟩
                    have hcon := E.con
                    clear E
                    go_simp
                  · intro ρ w' E
                    have e202 : ρ (.tmp 202) = .pointer (some ⟨d, 0, none⟩) := E.pre 12 rfl rfl
                    refine step_yes rfl (E.pre 9 rfl rfl) ?_
                    refine op_call (f := 39) (args := #[.pointer (some ⟨d, 0, none⟩)]) (w' := w') (by have hcon := E.con; have hfn := E.fn; clear E; go_simp) ?_
                    obtain ⟨KD, hKD⟩ := (HDX.out.ext E.below).realP
                    refine (drv_leftP (cap - pE) w' hKD (by rw [HCE.out]) (by have := HGE.out.at0; rw [HCE.out] at this; omega) (by have := HGE.out.at0; rw [HCE.out] at this; omega)).mono ?_
                    rintro e w2 ⟨rfl, hb⟩
                    exact ⟨_, rfl, hb, rfl⟩
                  · intro ρ w' E
                    have e2 : ρ (.tmp 2) = .pointer (some ⟨w.heap.size, 0, none⟩) := E.out 2 rfl
                    refine step_yes rfl (E.pre 9 rfl rfl) ?_
                    refine op_val (v := .pointer (some ⟨w.heap.size, 0, none⟩)) (w' := w') ?_ ⟨Below.refl _ _, rfl⟩
                    have hcon := E.con
                    clear E
                    go_simp
                  · intro ρ w' E
                    have e204 : ρ (.tmp 204) = .pointer (some ⟨w.heap.size, 0, none⟩) := E.pre 14 rfl rfl
                    refine step_yes rfl (E.pre 9 rfl rfl) ?_
                    refine op_val (v := .int .i64 cap) (w' := w') ?_ ⟨Below.refl _ _, rfl⟩
                    have k0 := (World.cell?_of_block (w := wX) (E.below.block _ hlT)).trans t0
                    have hcon := E.con
                    clear E r1 r2 r3
                    go_simp
                  · intro ρ w' E
                    have e10 : ρ (.tmp 10) = .pointer (some ⟨rd, 0, none⟩) := E.out 10 rfl
                    refine step_yes rfl (E.pre 9 rfl rfl) ?_
                    exact op_move (.inl rfl) e10 ⟨Below.refl _ _, rfl⟩
                  · intro ρ w' E
                    have e206 : ρ (.tmp 206) = .pointer (some ⟨rd, 0, none⟩) := E.pre 16 rfl rfl
                    refine step_yes rfl (E.pre 9 rfl rfl) ?_
                    refine op_val (v := .pointer (some ⟨rd, 0, none⟩)) (w' := w') ?_ ⟨Below.refl _ _, rfl⟩
                    have hcon := E.con
                    clear E
                    go_simp
                  · intro ρ w' E
                    have e207 : ρ (.tmp 207) = .pointer (some ⟨rd, 0, none⟩) := E.pre 17 rfl rfl
                    refine step_yes rfl (E.pre 9 rfl rfl) ?_
                    refine op_val (v := .pointer (some ⟨rd, 3, none⟩)) (w' := w') ?_ ⟨Below.refl _ _, rfl⟩
                    have hcon := E.con
                    clear E
                    go_simp
                  · intro ρ w' E
                    have e208 : ρ (.tmp 208) = .pointer (some ⟨rd, 3, none⟩) := E.pre 18 rfl rfl
                    refine step_yes rfl (E.pre 9 rfl rfl) ?_
                    refine op_val (v := .int .i64 pE) (w' := w') ?_ ⟨Below.refl _ _, rfl⟩
                    have k3 := (World.cell?_of_block (w := wX) (E.below.block _ hlR)).trans r3
                    have hcon := E.con
                    clear E r1 r2 r3
                    go_simp
                  · intro ρ w' E
                    have e205 : ρ (.tmp 205) = .int .i64 cap := E.pre 15 rfl rfl
                    have e209 : ρ (.tmp 209) = .int .i64 pE := E.pre 19 rfl rfl
                    refine step_yes rfl (E.pre 9 rfl rfl) ?_
                    refine op_val (v := .int .i64 (cap - pE)) (w' := w') ?_ ⟨Below.refl _ _, rfl⟩
                    have hw := hwl
                    have hcon := E.con
                    clear E
                    go_simp
                  · intro ρ w' E
                    have e203 : ρ (.tmp 203) = .int .i64 (cap - pE) := E.pre 13 rfl rfl
                    have e210 : ρ (.tmp 210) = .int .i64 (cap - pE) := E.pre 20 rfl rfl
                    refine step_yes rfl (E.pre 9 rfl rfl) ?_
                    refine op_val (v := .bool false) (w' := w') ?_ ⟨Below.refl _ _, rfl⟩
                    have hcon := E.con
                    clear E
                    go_simp
                  · intro ρ w' E
                    have e199 : ρ (.tmp 199) = .bool false := E.pre 9 rfl rfl
                    have e211 : ρ (.tmp 211) = .bool false := E.pre 21 rfl rfl
                    refine step_plain rfl ?_
                    exact op_pick (b := false) rfl e199 rfl ⟨Below.refl _ _, e211⟩
                  · intro ρ w' E
                    have e212 : ρ (.tmp 212) = .bool false := E.pre 22 rfl rfl
                    refine step_plain rfl ?_
                    exact op_move (.inl rfl) e212 ⟨Below.refl _ _, rfl⟩
                  · intro ρ w' E
                    have e18 : ρ (.tmp 18) = .pointer (some ⟨GX, 0, none⟩) := E.out 18 rfl
                    refine step_yes rfl (E.pre 23 rfl rfl) ?_
                    refine op_val (v := .agg #[.int .i64 mE.cap, .slice aX kX cX]) (w' := w') ?_ ⟨Below.refl _ _, rfl⟩
                    have k1 := (World.cell?_of_block (w := wX) (E.below.block _ hlX)).trans x0
                    have k2 := (World.cell?_of_block (w := wX) (E.below.block _ hlX)).trans x1
                    have hcon := E.con
                    clear E x0 x1 r1 r2 r3
                    go_simp
                  · intro ρ w' E
                    have e10 : ρ (.tmp 10) = .pointer (some ⟨rd, 0, none⟩) := E.out 10 rfl
                    refine step_yes rfl (E.pre 23 rfl rfl) ?_
                    exact op_move (.inl rfl) e10 ⟨Below.refl _ _, rfl⟩
                  · intro ρ w' E
                    have e215 : ρ (.tmp 215) = .pointer (some ⟨rd, 0, none⟩) := E.pre 25 rfl rfl
                    refine step_yes rfl (E.pre 23 rfl rfl) ?_
                    refine op_val (v := .pointer (some ⟨rd, 0, none⟩)) (w' := w') ?_ ⟨Below.refl _ _, rfl⟩
                    have hcon := E.con
                    clear E
                    go_simp
                  · intro ρ w' E
                    have e216 : ρ (.tmp 216) = .pointer (some ⟨rd, 0, none⟩) := E.pre 26 rfl rfl
                    refine step_yes rfl (E.pre 23 rfl rfl) ?_
                    refine op_val (v := .pointer (some ⟨rd, 1, none⟩)) (w' := w') ?_ ⟨Below.refl _ _, rfl⟩
                    have hcon := E.con
                    clear E
                    go_simp
                  · intro ρ w' E
                    have e217 : ρ (.tmp 217) = .pointer (some ⟨rd, 1, none⟩) := E.pre 27 rfl rfl
                    refine step_yes rfl (E.pre 23 rfl rfl) ?_
                    refine op_val (v := .agg #[.int .i64 mE.cap, .slice aR kR cR]) (w' := w') ?_ ⟨Below.refl _ _, rfl⟩
                    have k1 := (World.cell?_of_block (w := wX) (E.below.block _ hlR)).trans r1
                    have k2 := (World.cell?_of_block (w := wX) (E.below.block _ hlR)).trans r2
                    have hcon := E.con
                    clear E r1 r2 r3
                    go_simp
                  · intro ρ w' E
                    have e214 : ρ (.tmp 214) = .agg #[.int .i64 mE.cap, .slice aX kX cX] := E.pre 24 rfl rfl
                    have e218 : ρ (.tmp 218) = .agg #[.int .i64 mE.cap, .slice aR kR cR] := E.pre 28 rfl rfl
                    refine step_yes rfl (E.pre 23 rfl rfl) ?_
                    refine op_call (f := 40) (args := #[.agg #[.int .i64 mE.cap, .slice aX kX cX], .agg #[.int .i64 mE.cap, .slice aR kR cR]]) (w' := w') (by have hcon := E.con; have hfn := E.fn; clear E; go_simp) ?_
                    refine (keepmed_any mE.cap mE.cap aX aR cX kX cR kR csX csR true w' (HTX.out.r.ext E.below).mat (HR.out.r.ext E.below).mat HTX.out.r.len.symm HR.out.r.len.symm HTX.out.r.len63 HR.out.r.len63 (by rw [HTX.out.r.pls, HR.out.r.pls]; simp)).mono ?_
                    rintro e w2 ⟨rfl, hb⟩
                    exact ⟨_, rfl, hb, rfl⟩
                  · intro ρ w' E
                    have e219 : ρ (.tmp 219) = .bool true := E.pre 29 rfl rfl
                    refine step_yes rfl (E.pre 23 rfl rfl) ?_
                    refine op_val (v := .bool false) (w' := w') ?_ ⟨Below.refl _ _, rfl⟩
                    have hcon := E.con
                    clear E
                    go_simp
                  · intro ρ w' E
                    have e213 : ρ (.tmp 213) = .bool false := E.pre 23 rfl rfl
                    have e220 : ρ (.tmp 220) = .bool false := E.pre 30 rfl rfl
                    refine step_plain rfl ?_
                    exact op_pick (b := false) rfl e213 rfl ⟨Below.refl _ _, e220⟩
                · intro σF wF GF OF HF
                  have s221 : σF 221 = .bool false := HF 31 rfl rfl
                  clear OF HF
                  simp only [upd, updL, dstsOf', elemB, List.filterMap_cons, List.filterMap_nil, Nat.reduceAdd, Nat.reduceBEq, Bool.or_false, Bool.or_true, cond_true, cond_false, Nat.zero_add, s221]
                  have HTF := Lib.hid (HTX.out.ext GF)
                  have HYF := Lib.hid (bthen HYX.out GF (Nat.le_refl _))
                  clear GF x0 x1 r1 r2 r3 t0 s221 HTX HYX HDX HTm HR
                  obtain ⟨x0, x1⟩ := HTF.out.box.cells
                  go_wp2_with fail
                  refine (spoilmed_any wy.heap.size wF.heap.size mE.cap aX cX kX csX wF HTF.out.r.own HTF.out.r.len.symm (by have := HTF.out.r.size; have := HGE.out.len; omega) (HTF.out.r.short HGE.out.short) HYF.out.size (fun x hx hn0 => HTF.out.r.own.row.bnd x hx (.inl (by rw [HTF.out.r.len]; exact hn0))) (fun y hy hy0 x hx => (HTF.out.r.own.dat y hy).bnd x hx (.inl (by rw [Ne, List.length_eq_zero_iff]; exact hy0)))).mono ?_
                  rintro e wG ⟨rfl, hbG, -⟩
                  have HGF := Lib.hid (HYF.out.trans hbG)
                  clear hbG x0 x1
                  go_wp2_with fail
                  go_roundw
                  case rel => exact ⟨t + 1, mE, pE, sE, _, rfl, by omega, by omega, by go_num, HDE.out.ext HGF.out, HGE.out, HCE.out, HLE.out.1, HLE.out.2, bthen HBE.out HGF.out (Nat.le_refl _)⟩
                  case measure => simp [intOf]; omega
      have e3 : ((z : Int) == 3) = false := by simp; omega
      have e4 : ((z : Int) == 4) = false := by simp; omega
      have e5 : ((z : Int) == 5) = false := by simp; omega
      have e6 : ((z : Int) == 6) = false := by simp; omega
      have e7 : ((z : Int) == 7) = false := by simp; omega
      have e8 : ((z : Int) == 8) = false := by simp; omega
      have e9 : ((z : Int) == 9) = false := by simp; omega
      have e10 : ((z : Int) == 10) = false := by simp; omega
      have e11 : ((z : Int) == 11) = false := by simp; omega
      have hput := setRow_heap (wr.alloc (.cells #[.int .i64 0, .int .i64 0, .int .i64 0, .slice none 0 0, .int .i64 0] 44)) wr.heap.size _ #[.int .i64 x.what, .int .i64 x.n, .int .i64 x.m, .slice x.b.a x.b.l.length x.b.c, .int .i64 x.torn] _ _ (heap_alloc_new wr _)
      have hbp : Below wr.heap.size wr ((wr.alloc (.cells #[.int .i64 0, .int .i64 0, .int .i64 0, .slice none 0 0, .int .i64 0] 44)).setRow wr.heap.size #[.int .i64 x.what, .int .i64 x.n, .int .i64 x.m, .slice x.b.a x.b.l.length x.b.c, .int .i64 x.torn]) := bsetRow (ext_alloc wr _) (Nat.le_refl _) _
      have m0 := cell_of_row _ _ 0 _ _ _ hput
      have m1 := cell_of_row _ _ 1 _ _ _ hput
      have m2 := cell_of_row _ _ 2 _ _ _ hput
      have m3 := cell_of_row _ _ 3 _ _ _ hput
      have m4 := cell_of_row _ _ 4 _ _ _ hput
      go_wp2_with (first
        | (refine wpList_store_row rfl rfl 44 (.tmp 12) (.tmp 77) rfl wr.heap.size rfl 44 #[.int .i64 0, .int .i64 0, .int .i64 0, .slice none 0 0, .int .i64 0] #[.int .i64 x.what, .int .i64 x.n, .int .i64 x.m, .slice x.b.a x.b.l.length x.b.c, .int .i64 x.torn] rfl (heap_alloc_new wr _) rfl (by kernel_rfl) (by intro v hv; simp at hv; rcases hv with rfl | rfl | rfl | rfl | rfl <;> rfl) ?_))
      generalize hws : World.setRow _ _ _ = w1 at *
      have HD1 := Lib.hid (HD.out.ext hbp)
      have HB1 := Lib.hid (bthen HBv.out hbp (Nat.le_refl _))
      have Hok1 := Lib.hid (show A5ok w1 x from ⟨Hok5.out.1.ext hbp, Hok5.out.2⟩)
      clear hws hbp c0 c1 c2 c3 c4 m0
      generalize wr.heap.size = GA at *
      obtain ⟨pn, rfl, hpl⟩ := HG.out.pos
      obtain ⟨⟨Em, s', M', p'⟩, hrr⟩ : ∃ y, y = dvWrite s M pn x.b.l := ⟨_, rfl⟩
      have hgd := dvWrite_good HG.out.ok hpl hrr.symm
      have HRR := Lib.hid hrr.symm
      clear hrr
      have HS3 : Hid (∀ w', Below w3.heap.size w3 w' → Src w' x.b.a (bvs x.b.l)) := Lib.hid fun w' hb => (Hok3.out.1.ext hb).1
      have HLE3 : Hid (x.b.l.length ≤ 300) := H300
      have HLC3 : Hid (x.b.l.length ≤ x.b.c) := Lib.hid Hok3.out.2.1
      obtain ⟨nb, hnb0⟩ : ∃ n, n = x.b.l.length := ⟨_, rfl⟩
      have hnb := Lib.hid hnb0
      clear hnb0
      go_wp2_with fail
      refine (twin_at x.b.a x.b.c x.b.l.length x.b.l w1 (HS3.out _ HB1.out) rfl (by have := HLE3.out; omega)).mono ?_
      rintro e w2x ⟨aT, cT, rfl, hoT, hbT⟩
      have hcT : nb ≤ cT := by rw [hnb.out]; exact hoT.len.1
      have HO2 : Hid (Own w2x w1.heap.size 5 1 aT nb cT (bvs x.b.l)) := Lib.hid (by rw [hnb.out]; exact hoT)
      have HD2 := Lib.hid ((HD1.out.hole w2x.heap.size (Nat.le_refl _)).ext hbT)
      have HB2 := Lib.hid (bthen HB1.out hbT (Nat.le_refl _))
      have n3 := (World.cell?_of_block (w := w1) (hbT.block _ (heap_lt hput))).trans m3
      have hput2 := (hbT.block _ (heap_lt hput)).trans hput
      rw [show x.b.l.length = nb from hnb.out.symm]
      clear hoT hbT m1 m2 m3 m4 hput
      go_wp2_with fail
      refine wp_region_free (by kernel_rfl) [0, 1, 3, 4, 5] [2, 6] (Mod.rel (TDF w3.heap.size)) [SpT.eq (.pointer (some ⟨d, 0, none⟩)), SpT.eq (.slice aT nb cT), SpT.top, SpT.eq (.pointer (some ⟨rd, 0, none⟩)), SpT.eq (.pointer (some ⟨GA, 3, none⟩)), SpT.eq (.slice x.b.a x.b.l.length x.b.c), SpT.top, SpT.top, SpT.top, SpT.top, SpT.top, SpT.top, SpT.top, SpT.top, SpT.top] (by kernel_rfl) (by kernel_rfl) (by kernel_rfl) ?_ ?_
      · refine stepsE_yes rfl ?_ (stepsE_yes rfl ?_ (stepsE_no rfl (stepsE_yes rfl ?_ (stepsE_yes rfl ?_ (stepsE_yes rfl ?_ (stepsE_no rfl (stepsE_no rfl (stepsE_no rfl (stepsE_no rfl (stepsE_no rfl (stepsE_no rfl (stepsE_no rfl (stepsE_no rfl (stepsE_no rfl (stepsE_nil)))))))))))))))
        · intro ρ w' E
          have e8 : ρ (.tmp 8) = .pointer (some ⟨d, 0, none⟩) := E.out 8 rfl
          refine step_plain rfl ?_
          exact op_move (.inl rfl) e8 ⟨Below.refl _ _, rfl⟩
        · intro ρ w' E
          have e17 : ρ (.tmp 17) = .slice aT nb cT := E.out 17 rfl
          refine step_plain rfl ?_
          exact op_move (.inl rfl) e17 ⟨Below.refl _ _, rfl⟩
        · intro ρ w' E
          have e10 : ρ (.tmp 10) = .pointer (some ⟨rd, 0, none⟩) := E.out 10 rfl
          refine step_plain rfl ?_
          exact op_move (.inl rfl) e10 ⟨Below.refl _ _, rfl⟩
        · intro ρ w' E
          have e12 : ρ (.tmp 12) = .pointer (some ⟨GA, 0, none⟩) := E.out 12 rfl
          refine step_plain rfl ?_
          refine op_val (v := .pointer (some ⟨GA, 3, none⟩)) (w' := w') ?_ ⟨Below.refl _ _, rfl⟩
          have hcon := E.con
          clear E
          go_simp
        · intro ρ w' E
          have e89 : ρ (.tmp 89) = .pointer (some ⟨GA, 3, none⟩) := E.pre 4 rfl
          refine step_plain rfl ?_
          have k := (World.cell?_of_block (w := w2x) ((E.t.keep hput2 (fun hf => TDF_noA _ hf)).trans hput2.symm)).trans n3
          refine op_val (v := .slice x.b.a x.b.l.length x.b.c) (w' := w') ?_ ⟨Below.refl _ _, rfl⟩
          have hcon := E.con
          clear E n3 hput2
          go_simp
      · skip
        refine stageH_more [Sp.eq undef, Sp.eq undef] rfl ?_ ?_
        · refine stepsH_skip rfl (stepsH_skip rfl (stepsH_nil))
        · intro σ1 ρ1 w1c E1 K1
          have e85 : ρ1 (.tmp 85) = .pointer (some ⟨d, 0, none⟩) := E1.early 0 rfl rfl
          have e86 : ρ1 (.tmp 86) = .slice aT nb cT := E1.early 1 rfl rfl
          refine step_plain rfl ?_
          refine op_call (f := 35) (args := #[.pointer (some ⟨d, 0, none⟩), .slice aT nb cT]) (w' := w1c) (by have hcon := E1.con; have hfn := E1.fn; clear E1 n3 hput2; go_simp) ?_
          refine ((HD2.out.ext E1.below).real E1.below.size (fun K hd hu => drv_write pn aT nb cT x.b.l s s' Em M' p' w1c hd hu hpl HG.out.len (fun w' hm => ((HO2.out.ext E1.below).mod hm fun b _ _ => VF_no_u8 b).src) hnb.out (by have := HLE3.out; have := hnb.out; omega) hcT HRR.out)).mono ?_
          rintro e w3x ⟨rfl, hd2, hm2⟩
          have HB3 := Lib.hid ((bthen HB2.out E1.below (Nat.le_refl _)).trans (hm2.below (fun b T h => h.1) (bthen HB2.out E1.below (Nat.le_refl _)).size))
          have HH3 := Lib.hid (Nat.le_trans E1.below.size hm2.size)
          refine ⟨_, rfl, hm2, ?_⟩
          refine stageH_more [Sp.eq undef, Sp.eq undef, Sp.eq undef] rfl ?_ ?_
          · refine stepsH_skip rfl (stepsH_skip rfl (stepsH_skip rfl (stepsH_nil)))
          · intro σ2 ρ2 w2c E2 K2
            have s87_2 : σ2 87 = .int .i64 Em := (K2.old 2 87 rfl rfl rfl).trans rfl
            have e88 : ρ2 (.tmp 88) = .pointer (some ⟨rd, 0, none⟩) := E2.early 3 rfl rfl
            have e90 : ρ2 (.tmp 90) = .slice x.b.a x.b.l.length x.b.c := E2.early 5 rfl rfl
            refine step_plain rfl ?_
            refine op_call (f := 36) (args := #[.pointer (some ⟨rd, 0, none⟩), .slice x.b.a x.b.l.length x.b.c]) (w' := w2c) (by have hcon := E2.con; have hfn := E2.fn; clear E2 E1 n3 hput2; go_simp) ?_
            refine ((hd2.ext E2.below).ref (Nat.le_trans HH3.out E2.below.size) (fun Z hd => rdrv_write pn x.b.a x.b.l.length x.b.c x.b.l s s' Em M' p' w2c hd HG.out.ok hpl (fun w' hm => HS3.out _ ((bthen HB3.out E2.below (Nat.le_refl _)).trans (hm.below (fun b T h => h.1) (bthen HB3.out E2.below (Nat.le_refl _)).size))) rfl (by have := HLE3.out; omega) HLC3.out HRR.out)).mono ?_
            rintro e w4x ⟨rfl, hd3, hm3⟩
            have HB4 := Lib.hid ((bthen HB3.out E2.below (Nat.le_refl _)).trans (hm3.below (fun b T h => h.1) (bthen HB3.out E2.below (Nat.le_refl _)).size))
            clear hd2 hm2 HB3
            refine ⟨_, rfl, hm3, ?_⟩
            refine stageH_last [Sp.eq (.bool false), Sp.eq (.bool false), Sp.eq (.slice aT nb cT), Sp.eq (.pointer (some ⟨GA, 3, none⟩)), Sp.eq (.slice x.b.a x.b.l.length x.b.c), Sp.eq (.bool true), Sp.eq (.bool false), Sp.eq (.bool false)] ?_ ?_
            · refine stepsH_cons rfl ?_ (stepsH_cons rfl ?_ (stepsH_cons rfl ?_ (stepsH_cons rfl ?_ (stepsH_cons rfl ?_ (stepsH_cons rfl ?_ (stepsH_cons rfl ?_ (stepsH_cons rfl ?_ (stepsH_nil))))))))
              · intro ρ w' E
                have e87 : ρ (.tmp 87) = .int .i64 Em := (E.old 2 87 rfl rfl rfl).trans s87_2
                have e91 : ρ (.tmp 91) = .int .i64 Em := (E.old 6 91 rfl rfl rfl).trans rfl
                refine step_plain rfl ?_
                refine op_val (v := .bool false) (w' := w') ?_ ⟨Below.refl _ _, rfl⟩
                have hcon := E.con
                clear E
                go_simp
              · intro ρ w' E
                have e92 : ρ (.tmp 92) = .bool false := E.pre 7 rfl rfl rfl
                refine step_plain rfl ?_
                exact op_move (.inl rfl) e92 ⟨Below.refl _ _, rfl⟩
              · intro ρ w' E
                have e17 : ρ (.tmp 17) = .slice aT nb cT := E.out 17 rfl
                refine step_yes rfl (E.pre 8 rfl rfl rfl) ?_
                exact op_move (.inl rfl) e17 ⟨Below.refl _ _, rfl⟩
              · intro ρ w' E
                have e12 : ρ (.tmp 12) = .pointer (some ⟨GA, 0, none⟩) := E.out 12 rfl
                refine step_yes rfl (E.pre 8 rfl rfl rfl) ?_
                refine op_val (v := .pointer (some ⟨GA, 3, none⟩)) (w' := w') ?_ ⟨Below.refl _ _, rfl⟩
                have hcon := E.con
                clear E
                go_simp
              · intro ρ w' E
                have e95 : ρ (.tmp 95) = .pointer (some ⟨GA, 3, none⟩) := E.pre 10 rfl rfl rfl
                refine step_yes rfl (E.pre 8 rfl rfl rfl) ?_
                have k := (World.cell?_of_block (w := w2x) ((E.t.keep hput2 (fun hf => TDF_noA _ hf)).trans hput2.symm)).trans n3
                refine op_val (v := .slice x.b.a x.b.l.length x.b.c) (w' := w') ?_ ⟨Below.refl _ _, rfl⟩
                have hcon := E.con
                clear E n3 hput2
                go_simp
              · intro ρ w' E
                have e94 : ρ (.tmp 94) = .slice aT nb cT := E.pre 9 rfl rfl rfl
                have e96 : ρ (.tmp 96) = .slice x.b.a x.b.l.length x.b.c := E.pre 11 rfl rfl rfl
                refine step_yes rfl (E.pre 8 rfl rfl rfl) ?_
                refine op_call (f := 20) (args := #[.slice aT nb cT, .slice x.b.a x.b.l.length x.b.c]) (w' := w') (by have hcon := E.con; have hfn := E.fn; clear E n3 hput2; go_simp) ?_
                refine (bytes_at aT cT x.b.l x.b.a x.b.c x.b.l w' nb x.b.l.length true (HO2.out.mod E.t fun b _ _ => TDF_no8 b).src (HS3.out _ (HB2.out.trans (E.t.below (fun b T h => h.1) HB2.out.size))) hnb.out rfl (by have := HLE3.out; have := hnb.out; omega) (by have := HLE3.out; omega) (by simp)).mono ?_
                rintro e w2 ⟨rfl, nd, rfl⟩
                exact ⟨_, rfl, ext_drewN _ nd _, rfl⟩
              · intro ρ w' E
                have e97 : ρ (.tmp 97) = .bool true := E.pre 12 rfl rfl rfl
                refine step_yes rfl (E.pre 8 rfl rfl rfl) ?_
                refine op_val (v := .bool false) (w' := w') ?_ ⟨Below.refl _ _, rfl⟩
                have hcon := E.con
                clear E
                go_simp
              · intro ρ w' E
                have e93 : ρ (.tmp 93) = .bool false := E.pre 8 rfl rfl rfl
                have e98 : ρ (.tmp 98) = .bool false := E.pre 13 rfl rfl rfl
                refine step_plain rfl ?_
                exact op_pick (b := false) rfl e93 rfl ⟨Below.refl _ _, e98⟩
            · intro σF wF KF EF
              have s99 : σF 99 = .bool false := KF.val 14 rfl rfl rfl
              have GF := KF.below
              have HOF : Hid (Own wF w1.heap.size 5 1 aT nb cT (bvs x.b.l)) := Lib.hid (HO2.out.mod KF.t fun b _ _ => TDF_no8 b)
              clear KF EF n3 hput2
              simp only [upd, updL, dstsOf', elemB, List.filterMap_cons, List.filterMap_nil, Nat.reduceAdd, Nat.reduceBEq, Bool.or_false, Bool.or_true, cond_true, cond_false, Nat.zero_add, s99]
              have HDF := Lib.hid (hd3.ext GF)
              have HBF := Lib.hid (bthen HB4.out GF (Nat.le_refl _))
              clear hd3 hm3 HB4 GF
              go_wp2_with fail
              refine (spoil_in HO2.out HOF.out hnb.out (by have := HLE3.out; have := hnb.out; omega)).mono ?_
              rintro e wy ⟨rfl, hmy⟩
              obtain ⟨mE, pE, sE, HDE, HGE, HCE, HLE, HBE⟩ : ∃ mE pE sE, Hid (TwoD w3.heap.size 0 0 wy d g rd q mE pE sE mE pE sE) ∧ Hid (DGood mE pE) ∧ Hid (mE.cap = cap) ∧ Hid (0 ≤ sE.life ∧ sE.life ≤ ((t + 1 : Nat) : Int)) ∧ Hid (Below w3.heap.size w3 wy) := ⟨_, _, _, Lib.hid ((HDF.out.spoil hmy fun b T hf => ⟨⟨hf.1, hf.2.1⟩, .inl hf.2.2⟩).whole), Lib.hid hgd.1, Lib.hid (hgd.2.1.trans HC.out), Lib.hid (by have h0 := HS0.out; have h1 := HS1.out; have h2 := hgd.2.2; omega), Lib.hid (HBF.out.trans (hmy.below (fun b T h => Nat.le_trans HB1.out.size h.1) HBF.out.size))⟩
              clear hmy HDF HBF HOF HO2 HB2 HRR hgd
              go_wp2_with fail
              clear HD1 HD HG HC HS0 HS1 HBv HLr Tr
              -- a round's end: world wy, HDE (TwoD with mE pE sE), HGE, HCE, HLE (life), HBE (Below)
              obtain ⟨KT, hKT⟩ := HDE.out.realP
              refine (drv_mediumP wy hKT (Nat.le_trans HGE.out.len (by decide)) HGE.out.short).mono ?_
              rintro e wz ⟨aX, cX, csX, kX, rfl, hMX, hcX, hbX⟩
              obtain ⟨hTX, hSX⟩ := TapeO.new mE.cap rfl hMX hcX
              have hzX := heap_alloc_new wz (.cells #[.int .i64 0, .slice none 0 0] 24)
              have hbyX := bthen hbX hSX (Nat.le_refl _)
              go_wp2_with (refine wpList_store_row rfl rfl 24 (.tmp 18) (.tmp 189) rfl wz.heap.size rfl 24 #[.int .i64 0, .slice none 0 0] #[.int .i64 mE.cap, .slice aX kX cX] rfl hzX rfl (by kernel_rfl) (by simp [Value.oneCell']) ?_)
              clear hzX hMX hbX hSX hKT
              generalize (wz.alloc (.cells #[.int .i64 0, .slice none 0 0] 24)).setRow wz.heap.size #[.int .i64 mE.cap, .slice aX kX cX] = wX at *
              generalize wz.heap.size = GX at *
              have HTX := Lib.hid hTX
              have HYX := Lib.hid hbyX
              have HDX := Lib.hid (HDE.out.ext hbyX)
              have HTm := Lib.hid (T.out.ext (bthen HBE.out hbyX (Nat.le_refl _)))
              clear hTX hbyX
              obtain ⟨x0, x1⟩ := HTX.out.box.cells
              have hlX := heap_lt HTX.out.box
              obtain ⟨t0, _⟩ := HTm.out.box.cells
              have hlT := heap_lt HTm.out.box
              dsimp only at t0
              obtain ⟨Z, ⟨aR, kR, cR, csR, hR, _⟩, _⟩ := HDX.out.refP
              obtain ⟨r0, r1, r2, r3⟩ := hR.cells
              have hlR := heap_lt hR.obj
              have HR := Lib.hid hR
              have hwl : IntKind.i64.wrap (cap - pE) = cap - pE := by
                have := HGE.out.at0
                rw [HCE.out] at this
                rw [IntKind.wrap_i64]; omega
              clear hR r0
              refine wp_region_phase (by kernel_rfl) [] (by kernel_rfl) (by kernel_rfl) ?_
              refine stage_last [Sp.eq (.pointer (some ⟨d, 0, none⟩)), Sp.eq (.pointer (some ⟨d, 0, none⟩)), Sp.eq (.pointer (some ⟨d, 0, none⟩)), Sp.eq (.int .i64 pE), Sp.eq (.pointer (some ⟨rd, 0, none⟩)), Sp.eq (.pointer (some ⟨rd, 0, none⟩)), Sp.eq (.pointer (some ⟨rd, 3, none⟩)), Sp.eq (.int .i64 pE), Sp.eq (.bool false), Sp.eq (.bool false), Sp.eq (.pointer (some ⟨d, 0, none⟩)), Sp.eq (.pointer (some ⟨d, 0, none⟩)), Sp.eq (.pointer (some ⟨d, 0, none⟩)), Sp.eq (.int .i64 (cap - pE)), Sp.eq (.pointer (some ⟨w.heap.size, 0, none⟩)), Sp.eq (.int .i64 cap), Sp.eq (.pointer (some ⟨rd, 0, none⟩)), Sp.eq (.pointer (some ⟨rd, 0, none⟩)), Sp.eq (.pointer (some ⟨rd, 3, none⟩)), Sp.eq (.int .i64 pE), Sp.eq (.int .i64 (cap - pE)), Sp.eq (.bool false), Sp.eq (.bool false), Sp.eq (.bool false), Sp.eq (.agg #[.int .i64 mE.cap, .slice aX kX cX]), Sp.eq (.pointer (some ⟨rd, 0, none⟩)), Sp.eq (.pointer (some ⟨rd, 0, none⟩)), Sp.eq (.pointer (some ⟨rd, 1, none⟩)), Sp.eq (.agg #[.int .i64 mE.cap, .slice aR kR cR]), Sp.eq (.bool true), Sp.eq (.bool false), Sp.eq (.bool false)] ?_ ?_
              · refine stepsG_cons ?_ (stepsG_cons ?_ (stepsG_cons ?_ (stepsG_cons ?_ (stepsG_cons ?_ (stepsG_cons ?_ (stepsG_cons ?_ (stepsG_cons ?_ (stepsG_cons ?_ (stepsG_cons ?_ (stepsG_cons ?_ (stepsG_cons ?_ (stepsG_cons ?_ (stepsG_cons ?_ (stepsG_cons ?_ (stepsG_cons ?_ (stepsG_cons ?_ (stepsG_cons ?_ (stepsG_cons ?_ (stepsG_cons ?_ (stepsG_cons ?_ (stepsG_cons ?_ (stepsG_cons ?_ (stepsG_cons ?_ (stepsG_cons ?_ (stepsG_cons ?_ (stepsG_cons ?_ (stepsG_cons ?_ (stepsG_cons ?_ (stepsG_cons ?_ (stepsG_cons ?_ (stepsG_cons ?_ (stepsG_nil))))))))))))))))))))))))))))))))
                · intro ρ w' E
                  have e8 : ρ (.tmp 8) = .pointer (some ⟨d, 0, none⟩) := E.out 8 rfl
                  refine step_plain rfl ?_
                  exact op_move (.inl rfl) e8 ⟨Below.refl _ _, rfl⟩
                · intro ρ w' E
                  have e190 : ρ (.tmp 190) = .pointer (some ⟨d, 0, none⟩) := E.pre 0 rfl rfl
                  refine step_plain rfl ?_
                  refine op_val (v := .pointer (some ⟨d, 0, none⟩)) (w' := w') ?_ ⟨Below.refl _ _, rfl⟩
                  have hcon := E.con
                  clear E
                  go_simp
                · intro ρ w' E
                  have e191 : ρ (.tmp 191) = .pointer (some ⟨d, 0, none⟩) := E.pre 1 rfl rfl
                  refine step_plain rfl ?_
                  refine op_val (v := .pointer (some ⟨d, 0, none⟩)) (w' := w') ?_ ⟨Below.refl _ _, rfl⟩
                  have hcon := E.con
                  clear E
                  go_simp
                · intro ρ w' E
                  have e192 : ρ (.tmp 192) = .pointer (some ⟨d, 0, none⟩) := E.pre 2 rfl rfl
                  refine step_plain rfl ?_
                  refine op_call (f := 38) (args := #[.pointer (some ⟨d, 0, none⟩)]) (w' := w') (by have hcon := E.con; have hfn := E.fn; clear E; go_simp) ?_
                  obtain ⟨KD, hKD⟩ := (HDX.out.ext E.below).realP
                  refine (drv_placeP w' hKD).mono ?_
                  rintro e w2 ⟨rfl, rfl⟩
                  exact ⟨_, rfl, Below.refl _ _, rfl⟩
                · intro ρ w' E
                  have e10 : ρ (.tmp 10) = .pointer (some ⟨rd, 0, none⟩) := E.out 10 rfl
                  refine step_plain rfl ?_
                  exact op_move (.inl rfl) e10 ⟨Below.refl _ _, rfl⟩
                · intro ρ w' E
                  have e194 : ρ (.tmp 194) = .pointer (some ⟨rd, 0, none⟩) := E.pre 4 rfl rfl
                  refine step_plain rfl ?_
                  refine op_val (v := .pointer (some ⟨rd, 0, none⟩)) (w' := w') ?_ ⟨Below.refl _ _, rfl⟩
                  have hcon := E.con
                  clear E
                  go_simp
                · intro ρ w' E
                  have e195 : ρ (.tmp 195) = .pointer (some ⟨rd, 0, none⟩) := E.pre 5 rfl rfl
                  refine step_plain rfl ?_
                  refine op_val (v := .pointer (some ⟨rd, 3, none⟩)) (w' := w') ?_ ⟨Below.refl _ _, rfl⟩
                  have hcon := E.con
                  clear E
                  go_simp
                · intro ρ w' E
                  have e196 : ρ (.tmp 196) = .pointer (some ⟨rd, 3, none⟩) := E.pre 6 rfl rfl
                  refine step_plain rfl ?_
                  refine op_val (v := .int .i64 pE) (w' := w') ?_ ⟨Below.refl _ _, rfl⟩
                  have k3 := (World.cell?_of_block (w := wX) (E.below.block _ hlR)).trans r3
                  have hcon := E.con
                  clear E r1 r2 r3
                  go_simp
                · intro ρ w' E
                  have e193 : ρ (.tmp 193) = .int .i64 pE := E.pre 3 rfl rfl
                  have e197 : ρ (.tmp 197) = .int .i64 pE := E.pre 7 rfl rfl
                  refine step_plain rfl ?_
                  refine op_val (v := .bool false) (w' := w') ?_ ⟨Below.refl _ _, rfl⟩
                  have hcon := E.con
                  clear E
                  go_simp
                · intro ρ w' E
                  have e198 : ρ (.tmp 198) = .bool false := E.pre 8 rfl rfl
                  refine step_plain rfl ?_
                  exact op_move (.inl rfl) e198 ⟨Below.refl _ _, rfl⟩
                · intro ρ w' E
                  have e8 : ρ (.tmp 8) = .pointer (some ⟨d, 0, none⟩) := E.out 8 rfl
                  refine step_yes rfl (E.pre 9 rfl rfl) ?_
                  exact op_move (.inl rfl) e8 ⟨Below.refl _ _, rfl⟩
                · intro ρ w' E
                  have e200 : ρ (.tmp 200) = .pointer (some ⟨d, 0, none⟩) := E.pre 10 rfl rfl
                  refine step_yes rfl (E.pre 9 rfl rfl) ?_
                  refine op_val (v := .pointer (some ⟨d, 0, none⟩)) (w' := w') ?_ ⟨Below.refl _ _, rfl⟩
                  have hcon := E.con
                  clear E
                  go_simp
                · intro ρ w' E
                  have e201 : ρ (.tmp 201) = .pointer (some ⟨d, 0, none⟩) := E.pre 11 rfl rfl
                  refine step_yes rfl (E.pre 9 rfl rfl) ?_
                  refine op_val (v := .pointer (some ⟨d, 0, none⟩)) (w' := w') ?_ ⟨Below.refl _ _, rfl⟩
                  have hcon := E.con
                  clear E
                  go_simp
                · intro ρ w' E
                  have e202 : ρ (.tmp 202) = .pointer (some ⟨d, 0, none⟩) := E.pre 12 rfl rfl
                  refine step_yes rfl (E.pre 9 rfl rfl) ?_
                  refine op_call (f := 39) (args := #[.pointer (some ⟨d, 0, none⟩)]) (w' := w') (by have hcon := E.con; have hfn := E.fn; clear E; go_simp) ?_
                  obtain ⟨KD, hKD⟩ := (HDX.out.ext E.below).realP
                  refine (drv_leftP (cap - pE) w' hKD (by rw [HCE.out]) (by have := HGE.out.at0; rw [HCE.out] at this; omega) (by have := HGE.out.at0; rw [HCE.out] at this; omega)).mono ?_
                  rintro e w2 ⟨rfl, hb⟩
                  exact ⟨_, rfl, hb, rfl⟩
                · intro ρ w' E
                  have e2 : ρ (.tmp 2) = .pointer (some ⟨w.heap.size, 0, none⟩) := E.out 2 rfl
                  refine step_yes rfl (E.pre 9 rfl rfl) ?_
                  refine op_val (v := .pointer (some ⟨w.heap.size, 0, none⟩)) (w' := w') ?_ ⟨Below.refl _ _, rfl⟩
                  have hcon := E.con
                  clear E
                  go_simp
                · intro ρ w' E
                  have e204 : ρ (.tmp 204) = .pointer (some ⟨w.heap.size, 0, none⟩) := E.pre 14 rfl rfl
                  refine step_yes rfl (E.pre 9 rfl rfl) ?_
                  refine op_val (v := .int .i64 cap) (w' := w') ?_ ⟨Below.refl _ _, rfl⟩
                  have k0 := (World.cell?_of_block (w := wX) (E.below.block _ hlT)).trans t0
                  have hcon := E.con
                  clear E r1 r2 r3
                  go_simp
                · intro ρ w' E
                  have e10 : ρ (.tmp 10) = .pointer (some ⟨rd, 0, none⟩) := E.out 10 rfl
                  refine step_yes rfl (E.pre 9 rfl rfl) ?_
                  exact op_move (.inl rfl) e10 ⟨Below.refl _ _, rfl⟩
                · intro ρ w' E
                  have e206 : ρ (.tmp 206) = .pointer (some ⟨rd, 0, none⟩) := E.pre 16 rfl rfl
                  refine step_yes rfl (E.pre 9 rfl rfl) ?_
                  refine op_val (v := .pointer (some ⟨rd, 0, none⟩)) (w' := w') ?_ ⟨Below.refl _ _, rfl⟩
                  have hcon := E.con
                  clear E
                  go_simp
                · intro ρ w' E
                  have e207 : ρ (.tmp 207) = .pointer (some ⟨rd, 0, none⟩) := E.pre 17 rfl rfl
                  refine step_yes rfl (E.pre 9 rfl rfl) ?_
                  refine op_val (v := .pointer (some ⟨rd, 3, none⟩)) (w' := w') ?_ ⟨Below.refl _ _, rfl⟩
                  have hcon := E.con
                  clear E
                  go_simp
                · intro ρ w' E
                  have e208 : ρ (.tmp 208) = .pointer (some ⟨rd, 3, none⟩) := E.pre 18 rfl rfl
                  refine step_yes rfl (E.pre 9 rfl rfl) ?_
                  refine op_val (v := .int .i64 pE) (w' := w') ?_ ⟨Below.refl _ _, rfl⟩
                  have k3 := (World.cell?_of_block (w := wX) (E.below.block _ hlR)).trans r3
                  have hcon := E.con
                  clear E r1 r2 r3
                  go_simp
                · intro ρ w' E
                  have e205 : ρ (.tmp 205) = .int .i64 cap := E.pre 15 rfl rfl
                  have e209 : ρ (.tmp 209) = .int .i64 pE := E.pre 19 rfl rfl
                  refine step_yes rfl (E.pre 9 rfl rfl) ?_
                  refine op_val (v := .int .i64 (cap - pE)) (w' := w') ?_ ⟨Below.refl _ _, rfl⟩
                  have hw := hwl
                  have hcon := E.con
                  clear E
                  go_simp
                · intro ρ w' E
                  have e203 : ρ (.tmp 203) = .int .i64 (cap - pE) := E.pre 13 rfl rfl
                  have e210 : ρ (.tmp 210) = .int .i64 (cap - pE) := E.pre 20 rfl rfl
                  refine step_yes rfl (E.pre 9 rfl rfl) ?_
                  refine op_val (v := .bool false) (w' := w') ?_ ⟨Below.refl _ _, rfl⟩
                  have hcon := E.con
                  clear E
                  go_simp
                · intro ρ w' E
                  have e199 : ρ (.tmp 199) = .bool false := E.pre 9 rfl rfl
                  have e211 : ρ (.tmp 211) = .bool false := E.pre 21 rfl rfl
                  refine step_plain rfl ?_
                  exact op_pick (b := false) rfl e199 rfl ⟨Below.refl _ _, e211⟩
                · intro ρ w' E
                  have e212 : ρ (.tmp 212) = .bool false := E.pre 22 rfl rfl
                  refine step_plain rfl ?_
                  exact op_move (.inl rfl) e212 ⟨Below.refl _ _, rfl⟩
                · intro ρ w' E
                  have e18 : ρ (.tmp 18) = .pointer (some ⟨GX, 0, none⟩) := E.out 18 rfl
                  refine step_yes rfl (E.pre 23 rfl rfl) ?_
                  refine op_val (v := .agg #[.int .i64 mE.cap, .slice aX kX cX]) (w' := w') ?_ ⟨Below.refl _ _, rfl⟩
                  have k1 := (World.cell?_of_block (w := wX) (E.below.block _ hlX)).trans x0
                  have k2 := (World.cell?_of_block (w := wX) (E.below.block _ hlX)).trans x1
                  have hcon := E.con
                  clear E x0 x1 r1 r2 r3
                  go_simp
                · intro ρ w' E
                  have e10 : ρ (.tmp 10) = .pointer (some ⟨rd, 0, none⟩) := E.out 10 rfl
                  refine step_yes rfl (E.pre 23 rfl rfl) ?_
                  exact op_move (.inl rfl) e10 ⟨Below.refl _ _, rfl⟩
                · intro ρ w' E
                  have e215 : ρ (.tmp 215) = .pointer (some ⟨rd, 0, none⟩) := E.pre 25 rfl rfl
                  refine step_yes rfl (E.pre 23 rfl rfl) ?_
                  refine op_val (v := .pointer (some ⟨rd, 0, none⟩)) (w' := w') ?_ ⟨Below.refl _ _, rfl⟩
                  have hcon := E.con
                  clear E
                  go_simp
                · intro ρ w' E
                  have e216 : ρ (.tmp 216) = .pointer (some ⟨rd, 0, none⟩) := E.pre 26 rfl rfl
                  refine step_yes rfl (E.pre 23 rfl rfl) ?_
                  refine op_val (v := .pointer (some ⟨rd, 1, none⟩)) (w' := w') ?_ ⟨Below.refl _ _, rfl⟩
                  have hcon := E.con
                  clear E
                  go_simp
                · intro ρ w' E
                  have e217 : ρ (.tmp 217) = .pointer (some ⟨rd, 1, none⟩) := E.pre 27 rfl rfl
                  refine step_yes rfl (E.pre 23 rfl rfl) ?_
                  refine op_val (v := .agg #[.int .i64 mE.cap, .slice aR kR cR]) (w' := w') ?_ ⟨Below.refl _ _, rfl⟩
                  have k1 := (World.cell?_of_block (w := wX) (E.below.block _ hlR)).trans r1
                  have k2 := (World.cell?_of_block (w := wX) (E.below.block _ hlR)).trans r2
                  have hcon := E.con
                  clear E r1 r2 r3
                  go_simp
                · intro ρ w' E
                  have e214 : ρ (.tmp 214) = .agg #[.int .i64 mE.cap, .slice aX kX cX] := E.pre 24 rfl rfl
                  have e218 : ρ (.tmp 218) = .agg #[.int .i64 mE.cap, .slice aR kR cR] := E.pre 28 rfl rfl
                  refine step_yes rfl (E.pre 23 rfl rfl) ?_
                  refine op_call (f := 40) (args := #[.agg #[.int .i64 mE.cap, .slice aX kX cX], .agg #[.int .i64 mE.cap, .slice aR kR cR]]) (w' := w') (by have hcon := E.con; have hfn := E.fn; clear E; go_simp) ?_
                  refine (keepmed_any mE.cap mE.cap aX aR cX kX cR kR csX csR true w' (HTX.out.r.ext E.below).mat (HR.out.r.ext E.below).mat HTX.out.r.len.symm HR.out.r.len.symm HTX.out.r.len63 HR.out.r.len63 (by rw [HTX.out.r.pls, HR.out.r.pls]; simp)).mono ?_
                  rintro e w2 ⟨rfl, hb⟩
                  exact ⟨_, rfl, hb, rfl⟩
                · intro ρ w' E
                  have e219 : ρ (.tmp 219) = .bool true := E.pre 29 rfl rfl
                  refine step_yes rfl (E.pre 23 rfl rfl) ?_
                  refine op_val (v := .bool false) (w' := w') ?_ ⟨Below.refl _ _, rfl⟩
                  have hcon := E.con
                  clear E
                  go_simp
                · intro ρ w' E
                  have e213 : ρ (.tmp 213) = .bool false := E.pre 23 rfl rfl
                  have e220 : ρ (.tmp 220) = .bool false := E.pre 30 rfl rfl
                  refine step_plain rfl ?_
                  exact op_pick (b := false) rfl e213 rfl ⟨Below.refl _ _, e220⟩
              · intro σF wF GF OF HF
                have s221 : σF 221 = .bool false := HF 31 rfl rfl
                clear OF HF
                simp only [upd, updL, dstsOf', elemB, List.filterMap_cons, List.filterMap_nil, Nat.reduceAdd, Nat.reduceBEq, Bool.or_false, Bool.or_true, cond_true, cond_false, Nat.zero_add, s221]
                have HTF := Lib.hid (HTX.out.ext GF)
                have HYF := Lib.hid (bthen HYX.out GF (Nat.le_refl _))
                clear GF x0 x1 r1 r2 r3 t0 s221 HTX HYX HDX HTm HR
                obtain ⟨x0, x1⟩ := HTF.out.box.cells
                go_wp2_with fail
                refine (spoilmed_any wy.heap.size wF.heap.size mE.cap aX cX kX csX wF HTF.out.r.own HTF.out.r.len.symm (by have := HTF.out.r.size; have := HGE.out.len; omega) (HTF.out.r.short HGE.out.short) HYF.out.size (fun x hx hn0 => HTF.out.r.own.row.bnd x hx (.inl (by rw [HTF.out.r.len]; exact hn0))) (fun y hy hy0 x hx => (HTF.out.r.own.dat y hy).bnd x hx (.inl (by rw [Ne, List.length_eq_zero_iff]; exact hy0)))).mono ?_
                rintro e wG ⟨rfl, hbG, -⟩
                have HGF := Lib.hid (HYF.out.trans hbG)
                clear hbG x0 x1
                go_wp2_with fail
                go_roundw
                case rel => exact ⟨t + 1, mE, pE, sE, _, rfl, by omega, by omega, by go_num, HDE.out.ext HGF.out, HGE.out, HCE.out, HLE.out.1, HLE.out.2, bthen HBE.out HGF.out (Nat.le_refl _)⟩
                case measure => simp [intOf]; omega
    · skip
      obtain ⟨Z, ⟨aR, kR, cR, csR, hR, _⟩, _⟩ := HD.out.refP
      obtain ⟨r0, r1, r2, r3⟩ := hR.cells
      have hlR := heap_lt hR.obj
      have HR := Lib.hid hR
      clear hR r0
      go_wp2_with fail
      refine wp_region_phase (by kernel_rfl) [] (by kernel_rfl) (by kernel_rfl) ?_
      refine stage_last [Sp.eq (.pointer (some ⟨d, 0, none⟩)), Sp.eq (.pointer (some ⟨d, 0, none⟩)), Sp.eq (.pointer (some ⟨d, 0, none⟩)), ⟨AnsM wr.heap.size M, fun _ _ _ ⟨a, k, c, cs, e, h, hk⟩ hb => ⟨a, k, c, cs, e, h.ext hb, hk⟩⟩, Sp.eq (.pointer (some ⟨rd, 0, none⟩)), Sp.eq (.pointer (some ⟨rd, 0, none⟩)), Sp.eq (.pointer (some ⟨rd, 1, none⟩)), Sp.eq (.agg #[.int .i64 M.cap, .slice aR kR cR]), Sp.eq (.bool true), Sp.eq (.bool true), Sp.eq (.bool true), Sp.eq (.bool true), Sp.eq (.bool true)] ?_ ?_
      · refine stepsG_cons ?_ (stepsG_cons ?_ (stepsG_cons ?_ (stepsG_cons ?_ (stepsG_cons ?_ (stepsG_cons ?_ (stepsG_cons ?_ (stepsG_cons ?_ (stepsG_cons ?_ (stepsG_cons ?_ (stepsG_cons ?_ (stepsG_cons ?_ (stepsG_cons ?_ (stepsG_nil)))))))))))))
        · intro ρ w' E
          have e8 : ρ (.tmp 8) = .pointer (some ⟨d, 0, none⟩) := E.out 8 rfl
          refine step_plain rfl ?_
          exact op_move (.inl rfl) e8 ⟨Below.refl _ _, rfl⟩
        · intro ρ w' E
          have e224 : ρ (.tmp 224) = .pointer (some ⟨d, 0, none⟩) := E.pre 0 rfl rfl
          refine step_plain rfl ?_
          refine op_val (v := .pointer (some ⟨d, 0, none⟩)) (w' := w') ?_ ⟨Below.refl _ _, rfl⟩
          have hcon := E.con
          clear E
          go_simp
        · intro ρ w' E
          have e225 : ρ (.tmp 225) = .pointer (some ⟨d, 0, none⟩) := E.pre 1 rfl rfl
          refine step_plain rfl ?_
          refine op_val (v := .pointer (some ⟨d, 0, none⟩)) (w' := w') ?_ ⟨Below.refl _ _, rfl⟩
          have hcon := E.con
          clear E
          go_simp
        · intro ρ w' E
          have e226 : ρ (.tmp 226) = .pointer (some ⟨d, 0, none⟩) := E.pre 2 rfl rfl
          refine step_plain rfl ?_
          refine op_call (f := 37) (args := #[.pointer (some ⟨d, 0, none⟩)]) (w' := w') (by have hcon := E.con; have hfn := E.fn; clear E; go_simp) ?_
          obtain ⟨KD, hKD⟩ := (HD.out.ext E.below).realP
          refine (drv_mediumP w' hKD (Nat.le_trans HG.out.len (by decide)) HG.out.short).mono ?_
          rintro e w2 ⟨aX, cX, csX, kX, rfl, hMX, hcX, hb⟩
          exact ⟨_, rfl, hb, aX, kX, cX, csX, rfl, hMX.mono E.below.size, hcX⟩
        · intro ρ w' E
          have e10 : ρ (.tmp 10) = .pointer (some ⟨rd, 0, none⟩) := E.out 10 rfl
          refine step_plain rfl ?_
          exact op_move (.inl rfl) e10 ⟨Below.refl _ _, rfl⟩
        · intro ρ w' E
          have e228 : ρ (.tmp 228) = .pointer (some ⟨rd, 0, none⟩) := E.pre 4 rfl rfl
          refine step_plain rfl ?_
          refine op_val (v := .pointer (some ⟨rd, 0, none⟩)) (w' := w') ?_ ⟨Below.refl _ _, rfl⟩
          have hcon := E.con
          clear E
          go_simp
        · intro ρ w' E
          have e229 : ρ (.tmp 229) = .pointer (some ⟨rd, 0, none⟩) := E.pre 5 rfl rfl
          refine step_plain rfl ?_
          refine op_val (v := .pointer (some ⟨rd, 1, none⟩)) (w' := w') ?_ ⟨Below.refl _ _, rfl⟩
          have hcon := E.con
          clear E
          go_simp
        · intro ρ w' E
          have e230 : ρ (.tmp 230) = .pointer (some ⟨rd, 1, none⟩) := E.pre 6 rfl rfl
          refine step_plain rfl ?_
          refine op_val (v := .agg #[.int .i64 M.cap, .slice aR kR cR]) (w' := w') ?_ ⟨Below.refl _ _, rfl⟩
          have k1 := (World.cell?_of_block (w := wr) (E.below.block _ hlR)).trans r1
          have k2 := (World.cell?_of_block (w := wr) (E.below.block _ hlR)).trans r2
          have hcon := E.con
          clear E r1 r2 r3
          go_simp
        · intro ρ w' E
          have p227 : (AnsM wr.heap.size M) w' (ρ (.tmp 227)) := E.pre 3 rfl rfl
          have e231 : ρ (.tmp 231) = .agg #[.int .i64 M.cap, .slice aR kR cR] := E.pre 7 rfl rfl
          refine step_plain rfl ?_
          obtain ⟨aX, kX, cX, csX, e5, hMX, hcX⟩ := p227
          refine op_call (f := 40) (args := #[.agg #[.int .i64 M.cap, .slice aX kX cX], .agg #[.int .i64 M.cap, .slice aR kR cR]]) (w' := w') (by have hcon := E.con; have hfn := E.fn; clear E r1 r2 r3; go_simp) ?_
          refine (keepmed_any M.cap M.cap aX aR cX kX cR kR csX csR true w' hMX.mat (HR.out.r.ext E.below).mat hMX.len.symm HR.out.r.len.symm hMX.len63 HR.out.r.len63 (by rw [hMX.pls, HR.out.r.pls]; simp)).mono ?_
          rintro e w2 ⟨rfl, hb⟩
          exact ⟨_, rfl, hb, rfl⟩
        · intro ρ w' E
          have e232 : ρ (.tmp 232) = .bool true := E.pre 8 rfl rfl
          refine step_plain rfl ?_
          exact op_move (.inl rfl) e232 ⟨Below.refl _ _, rfl⟩
        · intro ρ w' E
          refine step_yes rfl (E.pre 9 rfl rfl) ?_
          refine op_call (f := 16) (args := #[]) (w' := w') (by have hcon := E.con; have hfn := E.fn; clear E; go_simp) ?_
          refine (wakes12_any w').mono ?_
          rintro e w2 ⟨rfl, hb⟩
          exact ⟨_, rfl, hb, rfl⟩
        · intro ρ w' E
          have e233 : ρ (.tmp 233) = .bool true := E.pre 9 rfl rfl
          have e234 : ρ (.tmp 234) = .bool true := E.pre 10 rfl rfl
          refine step_plain rfl ?_
          exact op_pick (b := true) rfl e233 rfl ⟨Below.refl _ _, e234⟩
        · intro ρ w' E
          have e235 : ρ (.tmp 235) = .bool true := E.pre 11 rfl rfl
          refine step_plain rfl ?_
          exact op_move (.inr rfl) e235 ⟨Below.refl _ _, rfl⟩
      · intro σF wF GF OF HF
        have s4 : σF 4 = .bool true := HF 12 rfl rfl
        clear OF HF
        simp only [upd, updL, dstsOf', elemB, List.filterMap_cons, List.filterMap_nil, Nat.reduceAdd, Nat.reduceBEq, Bool.or_false, Bool.or_true, cond_true, cond_false, Nat.zero_add, s4]
        have HBF := Lib.hid (bthen (bthen HB.out HBv.out (Nat.le_refl _)) GF (Nat.le_refl _))
        clear GF r1 r2 r3 s4
        go_wp2
        go_ret
        exact ⟨rfl, HBF.out⟩
end Go.Proofs.Ytnbpcdnpdcfiiaa
