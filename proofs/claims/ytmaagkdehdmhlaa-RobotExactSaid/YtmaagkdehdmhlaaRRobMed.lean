/- The page's robot: Medium. -/
import Derived.Test.YtmaagkdehdmhlaaRobotExactPartU
import Derived.Test.YtmaagkdehdmhlaaRobotExactPartN
namespace Go.Proofs.Ytmaagkdehdmhlaa
open Go.RowKit

variable {B : Nat} {Z : Nat → Prop} {w w' : World} {r q : Nat} {S : RS} {V : RRV} {D : Nat → Nat} {s : PS}
set_option maxRecDepth 100000 in
set_option maxHeartbeats 1000000 in
theorem rrob_medium_arg (v : Int) (w : World) (h : RRobP B Z w r q S D s) (hv : v < 0 ∨ (S.vols.length : Int) ≤ v) :
    Calls Try.prog 39 #[.pointer (some ⟨r, 0, none⟩), .int .i64 v] w fun e w' => e = .returned (.tuple #[.agg #[.int .i64 0, .slice none 0 0], .int .i64 1]) ∧ Below w.heap.size w w' := by
  have hz := heap_alloc_new w (.cells #[.int .i64 0, .slice none 0 0] 45)
  have hb := ext_alloc w (.cells #[.int .i64 0, .slice none 0 0] 45)
  obtain ⟨⟨V, h1, h2⟩, hok, hp⟩ := h.ext hb
  obtain ⟨r0, r1, r2, r3, r4, r5, r6, hfr, hlr⟩ := h1.cells
  have hn8 := hok.vols.2
  have hg := setRow_heap _ w.heap.size _ #[.int .i64 0, .slice none 0 0] _ _ hz
  have hbF := bsetRow hb (Nat.le_refl _) #[.int .i64 0, .slice none 0 0]
  clear h h1 h2 hok r0 r2 r3 r4 r5 r6 hp hfr
  generalize S.vols.length = n at *
  go_enter Try.func39, Try.ntmps39
  by_cases h0 : v < 0
  · have e0 : decide (v < 0) = true := by simpa using h0
    clear hv
    go_wp2_with (refine wpList_store_row rfl rfl 45 (.tmp 4) (.tmp 18) rfl w.heap.size rfl 45 #[.int .i64 0, .slice none 0 0] #[.int .i64 0, .slice none 0 0] rfl hz rfl (by kernel_rfl) (by simp [Value.oneCell']) ?_)
    exact bodyPost_ret (results_cellm (p := 4) (u := 5) rfl _ _ w.heap.size _ #[.int .i64 0, .slice none 0 0] _ _ rfl hg Try.underlying45 rfl (by kernel_rfl)) rfl ⟨rfl, hbF⟩
  · have e0 : decide (v < 0) = false := by simpa using h0
    have e1 : decide (v ≥ (n : Int)) = true := by simp; omega
    clear hv
    go_wp2_with (refine wpList_store_row rfl rfl 45 (.tmp 4) (.tmp 18) rfl w.heap.size rfl 45 #[.int .i64 0, .slice none 0 0] #[.int .i64 0, .slice none 0 0] rfl hz rfl (by kernel_rfl) (by simp [Value.oneCell']) ?_)
    exact bodyPost_ret (results_cellm (p := 4) (u := 5) rfl _ _ w.heap.size _ #[.int .i64 0, .slice none 0 0] _ _ rfl hg Try.underlying45 rfl (by kernel_rfl)) rfl ⟨rfl, hbF⟩

set_option maxRecDepth 100000 in
set_option maxHeartbeats 4000000 in
theorem rrob_medium (v : Nat) (M : Med) (w : World) (h : RRobP B Z w r q S D s) (hv : v < S.vols.length) (hM : S.tape v = M) :
    Calls Try.prog 39 #[.pointer (some ⟨r, 0, none⟩), .int .i64 v] w fun e w' => ∃ a k c cs, e = .returned (.tuple #[.agg #[.int .i64 M.cap, .slice a k c], .int .i64 0]) ∧ MedR w' w.heap.size M a k c cs ∧ k ≤ c ∧ Below w.heap.size w w' := by
  have hz := heap_alloc_new w (.cells #[.int .i64 0, .slice none 0 0] 45)
  have hb := ext_alloc w (.cells #[.int .i64 0, .slice none 0 0] 45)
  obtain ⟨⟨V, h1, h2⟩, hok, hp⟩ := h.ext hb
  obtain ⟨r0, r1, r2, r3, r4, r5, r6, hfr, hlr⟩ := h1.cells
  have hmg := RS.tape_dgood hok hv
  rw [hM] at hmg
  have HG : Hid (M.cells.length ≤ 100000 ∧ ∀ x ∈ M.cells, x.data.length ≤ 140737488355328) := Lib.hid ⟨Nat.le_trans hmg.len (by decide), hmg.short⟩
  have H1 := Lib.hid h1
  have HM := Lib.hid hM
  have Hv := Lib.hid hv
  obtain ⟨N, hN, hvN, hN8⟩ : ∃ n, n = S.vols.length ∧ v < n ∧ n ≤ 8 := ⟨_, rfl, hv, hok.vols.2⟩
  obtain ⟨n, hn, hn0, hn4⟩ : ∃ n, n = S.bays.length ∧ 0 < n ∧ n ≤ 4 := ⟨_, rfl, by have := hok.drives; omega, hok.drives.2⟩
  have HN := Lib.hid hn.symm
  have e0 : decide ((v : Int) < 0) = false := by simp
  have e1 : decide ((v : Int) ≥ (N : Int)) = false := by simp; omega
  have e2 : decide ((N : Int) ≤ (v : Int)) = false := by simp; omega
  have e3 : decide (N ≤ v) = false := by simp; omega
  obtain ⟨gD, gH, gU, y0, eD, eH, eU, hrest⟩ := h1.at (i := 0) (b := S.bays[0]) (List.getElem?_eq_getElem (by omega))
  obtain ⟨gV, xv, eV, lV, hts, v0, v1, hTI, hXok, hXcap, hXv⟩ := h1.tapeAt hv
  rw [← hN, eV] at r1
  rw [← hn, eD] at r2
  rw [← hn, eH] at r3
  have HgD := Lib.hid eD
  have HgH := Lib.hid eH
  have HTI := Lib.hid hTI
  have HXok := Lib.hid hXok
  have HXv := Lib.hid hXv
  generalize V.cV = cV at *
  generalize V.cD = cD at *
  generalize V.cH = cH at *
  clear hrest y0
  clear h h1 h2 hok r0 r4 r5 r6 hp hmg hM hv hn hN eD eH eU eV hts hTI hXok hXcap hXv hfr
  generalize hwA : w.alloc (.cells #[.int .i64 0, .slice none 0 0] 45) = wA at *
  go_enter Try.func39, Try.ntmps39
  go_wp2_with fail
  clear hwA e0 e1 e2 e3
  go_loopw [6] (fun iv wx => ∃ (k : Nat) (wr : World), wr = wx ∧ wr = wA ∧ k ≤ n ∧ iv = .int .i64 (k : Int) ∧ ∀ (j : Nat) (b : Bay), j < k → S.bays[j]? = some b → b.vol ≠ (v : Int)) (fun iv _ => n - (intOf iv).toNat)
  case atStart => exact ⟨0, _, rfl, rfl, by omega, rfl, fun j b h => by omega⟩
  case round =>
    obtain ⟨k, wr, hwr, hwr1, hk, rfl, hno⟩ := hrel
    subst hwr
    subst hwr1
    have Hno := Lib.hid hno
    clear hno
    by_cases hkn : k < n
    · obtain ⟨b, hbk⟩ : ∃ b, S.bays[k]? = some b := ⟨_, List.getElem?_eq_getElem (by have := HN.out; omega)⟩
      obtain ⟨gD', gH', gU', y, eD, eH, eU, lD, lH, lU, hy, hyb, d1, h1, u1, fD, fH, fU, hne⟩ := H1.out.at (i := k) (b := b) hbk
      rw [HgD.out] at eD
      rw [HgH.out] at eH
      simp only [Option.some.injEq, Addr.mk.injEq, and_self, and_true] at eD eH
      subst eD eH
      by_cases hbv : b.vol = (v : Int)
      · as_aux_lemma =>
          have hkl : k < S.bays.length := by have := HN.out; omega
          have hfi : findV (v : Int) S.bays = some k := by
            refine findV_of hkl (fun j bj hj hb => Hno.out j bj hj hb) ?_
            rw [List.getElem?_eq_getElem hkl] at hbk
            rw [Option.some.inj hbk]; exact hbv
          have hMb : b.M = M := by rw [← HM.out, RS.tape_some hfi hbk]
          obtain ⟨aq, kq, cq, csq, hdq, _⟩ := H1.out.drv k y hy (by rw [hyb, hbv]; omega)
          have hyp : y.ptr = .pointer (some ⟨y.d, 0, none⟩) := by
            unfold BayV.ptr
            rw [if_neg (by rw [hyb, hbv]; omega)]
          rw [hyp] at d1
          rw [hyb, hMb] at hdq
          obtain ⟨d0, hd0⟩ : ∃ d, d = y.d := ⟨_, rfl⟩
          rw [← hd0] at d1 hdq
          rw [hbv] at h1
          have t1 := cell_of_row _ d0 1 _ _ _ hdq.obj
          have t2 := cell_of_row _ d0 2 _ _ _ hdq.obj
          have hlT := heap_lt hdq.obj
          have HD := Lib.hid hdq
          clear hdq hd0 hyp hMb hfi hy hyb hbk hbv u1 fD fH fU hne v0 v1 eU
          go_wp2_with fail
          refine (twinmed_any M.cap aq cq kq csq wr HD.out.r.mat HD.out.r.len.symm (by have := HG.out.1; rw [HD.out.r.size] at this; exact this) (HD.out.r.short HG.out.2)).mono ?_
          rintro e w2 ⟨aX, cX, csX, rfl, hlX, hoX, hpX, hbX⟩
          have hMX : MedR w2 w.heap.size M aX kq cX csX := ⟨hoX.mono hb.size, hlX, hpX.trans HD.out.r.pls⟩
          have hcX : kq ≤ cX := by have := hoX.row.len.1; rw [hlX] at this; exact this
          have hz2 := (hbX.block _ (heap_lt hz)).trans hz
          have hg := setRow_heap w2 w.heap.size _ #[.int .i64 M.cap, .slice aX kq cX] _ _ hz2
          have hbF := bsetRow (bthen hb hbX (Nat.le_refl _)) (Nat.le_refl _) #[.int .i64 M.cap, .slice aX kq cX]
          have HM5 := Lib.hid (hMX.setRow (new := #[.int .i64 M.cap, .slice aX kq cX]) hz2)
          have HC := Lib.hid hcX
          clear d1 h1 t1 t2 r1 r2 r3 hMX hcX hbX hb hlX hoX hpX
          go_wp2_with (refine wpList_store_row rfl rfl 45 (.tmp 4) (.tmp 47) rfl w.heap.size rfl 45 #[.int .i64 0, .slice none 0 0] #[.int .i64 M.cap, .slice aX kq cX] rfl hz2 rfl (by kernel_rfl) (by simp [Value.oneCell']) ?_)
          exact bodyPost_ret (results_cellm (p := 4) (u := 5) rfl _ _ w.heap.size _ #[.int .i64 M.cap, .slice aX kq cX] _ _ rfl hg Try.underlying45 rfl (by kernel_rfl)) rfl ⟨aX, kq, cX, csX, rfl, HM5.out, HC.out, hbF⟩
      · as_aux_lemma =>
          have ebv : (b.vol == (v : Int)) = false := by simpa using hbv
          have hno2 : ∀ (j : Nat) (b : Bay), j < k + 1 → S.bays[j]? = some b → b.vol ≠ (v : Int) := by
            intro j bj hj hb
            by_cases hjk : j = k
            · subst hjk
              rw [hbk] at hb
              rw [← Option.some.inj hb]; exact hbv
            · exact Hno.out j bj (by omega) hb
          have Hno2 := Lib.hid hno2
          clear hno2 hbk hy hyb d1 u1 fD fH fU hne hbv eU
          go_wp2_with fail
          go_roundw
          case rel => exact ⟨k + 1, _, rfl, rfl, by omega, by go_num, Hno2.out⟩
          case measure => simp [intOf]; omega
    · as_aux_lemma =>
        obtain rfl : n = k := by omega
        have hfi : findV (v : Int) S.bays = none := findV_no fun j bj hj hb => Hno.out j bj (by have := HN.out; omega) hb
        have hMv : xv.M = M := by
          have h1 := HXv.out hfi
          rw [← HM.out, RS.tape_none hfi h1]
        obtain ⟨ax, hax⟩ : ∃ a, a = xv.a := ⟨_, rfl⟩
        obtain ⟨kx, hkx⟩ : ∃ a, a = xv.k := ⟨_, rfl⟩
        obtain ⟨cx, hcx⟩ : ∃ a, a = xv.c := ⟨_, rfl⟩
        obtain ⟨usx, husx⟩ : ∃ a, a = xv.cs := ⟨_, rfl⟩
        have HTx : Hid (MedR wr B M ax kx cx usx) := Lib.hid (by rw [hax, hkx, hcx, husx, ← hMv]; exact HTI.out.r)
        rw [hMv] at v0
        rw [← hax, ← hkx, ← hcx] at v1
        clear hfi hMv hax hkx hcx husx Hno
        go_wp2_with fail
        refine (twinmed_any M.cap ax cx kx usx wr HTx.out.mat HTx.out.len.symm (by have := HG.out.1; rw [HTx.out.size] at this; exact this) (HTx.out.short HG.out.2)).mono ?_
        rintro e w2 ⟨aX, cX, csX, rfl, hlX, hoX, hpX, hbX⟩
        have hMX : MedR w2 w.heap.size M aX kx cX csX := ⟨hoX.mono hb.size, hlX, hpX.trans HTx.out.pls⟩
        have hcX : kx ≤ cX := by have := hoX.row.len.1; rw [hlX] at this; exact this
        have hz2 := (hbX.block _ (heap_lt hz)).trans hz
        have hg := setRow_heap w2 w.heap.size _ #[.int .i64 M.cap, .slice aX kx cX] _ _ hz2
        have hbF := bsetRow (bthen hb hbX (Nat.le_refl _)) (Nat.le_refl _) #[.int .i64 M.cap, .slice aX kx cX]
        have HM5 := Lib.hid (hMX.setRow (new := #[.int .i64 M.cap, .slice aX kx cX]) hz2)
        have HC := Lib.hid hcX
        clear v0 v1 r1 r2 r3 hMX hcX hbX hb hlX hoX hpX
        go_wp2_with (refine wpList_store_row rfl rfl 45 (.tmp 4) (.tmp 55) rfl w.heap.size rfl 45 #[.int .i64 0, .slice none 0 0] #[.int .i64 M.cap, .slice aX kx cX] rfl hz2 rfl (by kernel_rfl) (by simp [Value.oneCell']) ?_)
        exact bodyPost_ret (results_cellm (p := 4) (u := 5) rfl _ _ w.heap.size _ #[.int .i64 M.cap, .slice aX kx cX] _ _ rfl hg Try.underlying45 rfl (by kernel_rfl)) rfl ⟨aX, kx, cX, csX, rfl, HM5.out, HC.out, hbF⟩
end Go.Proofs.Ytmaagkdehdmhlaa
