/- robot: Medium. -/
import Derived.Test.YtnbpcdnpdcfiiaaRobMount2
import Derived.Test.YtnbpcdnpdcfiiaaRobotPutsPartC
namespace Go.Proofs.Ytnbpcdnpdcfiiaa
open Go.RowKit

variable {B : Nat} {K : Nat → Prop} {w w' : World} {r g : Nat} {S : RS} {V : RobV} {D : Nat → Nat} {s : PS}
set_option maxHeartbeats 1000000 in
theorem rob_medium_arg (v : Int) (w : World) (h : RobP B K w r g S D s) (hv : v < 0 ∨ (S.vols.length : Int) ≤ v) :
    Calls Try.prog 47 #[.pointer (some ⟨r, 0, none⟩), .int .i64 v] w fun e w' => e = .returned (.tuple #[.agg #[.int .i64 0, .slice none 0 0], .int .i64 1]) ∧ Below w.heap.size w w' := by
  have hz := heap_alloc_new w (.cells #[.int .i64 0, .slice none 0 0] 24)
  have hb := ext_alloc w (.cells #[.int .i64 0, .slice none 0 0] 24)
  obtain ⟨⟨V, h1, h2⟩, hok, hp⟩ := h.ext hb
  obtain ⟨r0, r1, r2, r3, r4, r5⟩ := h1.cells
  have hn8 := hok.vols.2
  have hg := setRow_heap _ w.heap.size _ #[.int .i64 0, .slice none 0 0] _ _ hz
  have hbF := bsetRow hb (Nat.le_refl _) #[.int .i64 0, .slice none 0 0]
  clear h h1 h2 hok r0 r1 r3 r4 r5 hp
  generalize S.vols.length = n at *
  go_enter Try.func47, Try.ntmps47
  by_cases h0 : v < 0
  · have e0 : decide (v < 0) = true := by simpa using h0
    clear hv
    go_wp2_with (refine wpList_store_row rfl rfl 24 (.tmp 4) (.tmp 18) rfl w.heap.size rfl 24 #[.int .i64 0, .slice none 0 0] #[.int .i64 0, .slice none 0 0] rfl hz rfl (by kernel_rfl) (by simp [Value.oneCell']) ?_)
    exact bodyPost_ret (results_cellm (p := 4) (u := 5) rfl _ _ w.heap.size _ #[.int .i64 0, .slice none 0 0] _ _ rfl hg Try.underlying24 rfl (by kernel_rfl)) rfl ⟨rfl, hbF⟩
  · have e0 : decide (v < 0) = false := by simpa using h0
    have e1 : decide (v ≥ (n : Int)) = true := by simp; omega
    clear hv
    go_wp2_with (refine wpList_store_row rfl rfl 24 (.tmp 4) (.tmp 18) rfl w.heap.size rfl 24 #[.int .i64 0, .slice none 0 0] #[.int .i64 0, .slice none 0 0] rfl hz rfl (by kernel_rfl) (by simp [Value.oneCell']) ?_)
    exact bodyPost_ret (results_cellm (p := 4) (u := 5) rfl _ _ w.heap.size _ #[.int .i64 0, .slice none 0 0] _ _ rfl hg Try.underlying24 rfl (by kernel_rfl)) rfl ⟨rfl, hbF⟩

theorem RS.tape_some {v i : Nat} {b : Bay} (hf : findV v S.bays = some i) (hb : S.bays[i]? = some b) : S.tape v = b.M := by
  unfold RS.tape
  rw [hf]
  exact congrArg Bay.M (getD_of _ hb)
theorem RS.tape_none {v : Nat} {m : Med} (hf : findV v S.bays = none) (hm : S.vols[v]? = some m) : S.tape v = m := by
  unfold RS.tape
  rw [hf]
  exact getD_of _ hm
theorem RS.tape_good (h : S.ok) {v : Nat} (hv : v < S.vols.length) : (S.tape v).ok = true ∧ (S.tape v).cap = S.size := by
  cases hf : findV v S.bays with
  | some i =>
    obtain ⟨b, hb, hbv, _⟩ := findV_some hf
    rw [RS.tape_some hf hb]
    have := (h.bay b (List.mem_of_getElem? hb)).good (by omega)
    exact ⟨this.1.ok, this.2⟩
  | none =>
    rw [RS.tape_none hf (List.getElem?_eq_getElem hv)]
    exact h.good _ (List.getElem_mem hv)
theorem RS.tape_dgood (h : S.ok) {v : Nat} (hv : v < S.vols.length) : DGood (S.tape v) 0 := ⟨(RS.tape_good h hv).1, 0, rfl, Nat.zero_le _⟩
/-- A volume's tape that no drive holds. -/
theorem RobL.volume (h : RobL B K w r g S V) {v : Nat} {m : Med} (hm : S.vols[v]? = some m) : ∃ (nM : Nat) (a : Option Addr) (k c : Nat) (cs : List CellV), V.aM = some ⟨nM, 0, none⟩ ∧ nM < w.heap.size ∧ w.cell? ⟨nM, v * 2, none⟩ = some (.int .i64 m.cap) ∧ w.cell? ⟨nM, v * 2 + 1, none⟩ = some (.slice a k c) ∧ MedR w B m a k c cs ∧ k ≤ c := by
  have hvl : v < V.ts.length := by rw [h.tlen]; exact (List.getElem?_eq_some_iff.1 hm).1
  obtain ⟨nM, hnM, _, hlM, hat, _⟩ := h.rowM.elem TapeV.len (by decide) (i := v) hvl
  have m0 := hat 0 _ rfl
  have m1 := hat 1 _ rfl
  have htv : m = V.ts[v].M := by
    rw [h.vols, List.getElem?_map, List.getElem?_eq_getElem hvl] at hm
    exact (Option.some.inj hm).symm
  have hTV := h.tape V.ts[v] (List.getElem_mem hvl)
  rw [Nat.add_zero, ← htv] at m0
  have hr := hTV.r
  rw [← htv] at hr
  exact ⟨nM, _, _, _, _, hnM, hlM, m0, m1, hr, hTV.cap⟩
set_option maxHeartbeats 2000000 in
theorem rob_medium (v : Nat) (M : Med) (w : World) (h : RobP B K w r g S D s) (hv : v < S.vols.length) (hM : S.tape v = M) :
    Calls Try.prog 47 #[.pointer (some ⟨r, 0, none⟩), .int .i64 v] w fun e w' => ∃ a k c cs, e = .returned (.tuple #[.agg #[.int .i64 M.cap, .slice a k c], .int .i64 0]) ∧ MedR w' w.heap.size M a k c cs ∧ k ≤ c ∧ Below w.heap.size w w' := by
  have hz := heap_alloc_new w (.cells #[.int .i64 0, .slice none 0 0] 24)
  have hb := ext_alloc w (.cells #[.int .i64 0, .slice none 0 0] 24)
  obtain ⟨⟨V, h1, h2⟩, hok, hp⟩ := h.ext hb
  obtain ⟨r0, r1, r2, r3, r4, r5⟩ := h1.cells
  obtain ⟨bB, hB, _, hlB, hat, hfz⟩ := h1.bay (by have := hok.drives; omega)
  have hmg := RS.tape_dgood hok hv
  rw [hM] at hmg
  have HG : Hid (M.cells.length ≤ 100000 ∧ ∀ x ∈ M.cells, x.data.length ≤ 140737488355328) := Lib.hid ⟨Nat.le_trans hmg.len (by decide), hmg.short⟩
  have H1 := Lib.hid h1
  have H2 := Lib.hid h2
  have HP := Lib.hid hp
  have HOK := Lib.hid hok
  have HB := Lib.hid hB
  have HM := Lib.hid hM
  have HV := Lib.hid hv
  obtain ⟨n, hn, hvn, hn8⟩ : ∃ n, n = S.vols.length ∧ v < n ∧ n ≤ 8 := ⟨_, rfl, hv, hok.vols.2⟩
  have HN := Lib.hid hn
  have e0 : decide ((v : Int) < 0) = false := by simp
  have e1 : decide ((v : Int) ≥ (n : Int)) = false := by simp; omega
  rw [← hn] at r2
  rw [hB] at r3
  clear h h1 h2 hok r0 r1 r4 r5 hp hmg hM hv hn hB
  generalize hwA : w.alloc (.cells #[.int .i64 0, .slice none 0 0] 24) = wA at *
  go_enter Try.func47, Try.ntmps47
  go_wp2_with fail
  clear hwA
  cases hf : findV v S.bays with
  | some i =>
    obtain ⟨b, hbi, hbv, hbl⟩ := findV_some hf
    have hil := (List.getElem?_eq_some_iff.1 hbi).1
    have hbe : S.bays[i] = b := by rw [List.getElem?_eq_getElem hil] at hbi; exact Option.some.inj hbi
    obtain ⟨_, _, c0⟩ := hat i hil
    obtain ⟨y, hy, hyb, c0⟩ := c0 (by rw [hbe, hbv]; omega)
    obtain ⟨aq, kq, cq, csq, hdq⟩ := H1.out.drv i y hy (by rw [hyb, hbe, hbv]; omega)
    have hMb : b.M = M := by
      have := HM.out
      unfold RS.tape at this
      rw [hf] at this
      change (S.bays.getD i ⟨0, 0, ⟨0, []⟩, 0⟩).M = M at this
      rw [getD_of _ hbi] at this
      exact this
    rw [hyb, hbe, hMb] at hdq
    have HD : Hid (DrvP B (fun x => K x ∧ V.ow x = i + 1) wA y.d g M b.at_ s) := Lib.hid ⟨⟨aq, kq, cq, csq, hdq⟩, HP.out⟩
    obtain ⟨d, hd⟩ : ∃ d, d = y.d := ⟨_, rfl⟩
    rw [← hd] at c0 HD
    have HF := Lib.hid hf
    clear hf hdq hMb hyb hy hat hfz hbe hbv hbl hbi hd
    refine (rob_in (v : Int) (some ⟨bB, i * 3, none⟩) bB wA H1.out HOK.out.drives HB.out (by rw [HF.out]; rfl)).mono ?_
    rintro e w2 ⟨rfl, rfl⟩
    go_wp2_with fail
    refine (drv_mediumP wA HD.out HG.out.1 HG.out.2).mono ?_
    rintro e w2 ⟨aX, cX, csX, kX, rfl, hMX, hcX, hbX⟩
    have hz2 := (hbX.block _ (heap_lt hz)).trans hz
    have hg := setRow_heap w2 w.heap.size _ #[.int .i64 M.cap, .slice aX kX cX] _ _ hz2
    have hbF := bsetRow (bthen hb hbX (Nat.le_refl _)) (Nat.le_refl _) #[.int .i64 M.cap, .slice aX kX cX]
    have HM5 := Lib.hid ((hMX.mono hb.size).setRow (new := #[.int .i64 M.cap, .slice aX kX cX]) hz2)
    have HC := Lib.hid hcX
    clear c0 r2 r3 e0 e1 hMX hcX hbX hb
    go_wp2_with (refine wpList_store_row rfl rfl 24 (.tmp 4) (.tmp 30) rfl w.heap.size rfl 24 #[.int .i64 0, .slice none 0 0] #[.int .i64 M.cap, .slice aX kX cX] rfl hz2 rfl (by kernel_rfl) (by simp [Value.oneCell']) ?_)
    exact bodyPost_ret (results_cellm (p := 4) (u := 5) rfl _ _ w.heap.size _ #[.int .i64 M.cap, .slice aX kX cX] _ _ rfl hg Try.underlying24 rfl (by kernel_rfl)) rfl ⟨aX, kX, cX, csX, rfl, HM5.out, HC.out, hbF⟩
  | none =>
    have HF := Lib.hid hf
    clear hf hat hfz
    have hMv : S.vols[v]? = some M := by
      have := HM.out
      unfold RS.tape at this
      rw [HF.out] at this
      change S.vols.getD v ⟨0, []⟩ = M at this
      rw [List.getElem?_eq_getElem HV.out]
      rw [getD_of _ (List.getElem?_eq_getElem HV.out)] at this
      rw [this]
    obtain ⟨nM, ax, kx, cx, usx, hnM, hlM, m0, m1, hMr, hcx⟩ := H1.out.volume hMv
    rw [hnM] at r2
    generalize V.cM = cM at *
    have HTx := Lib.hid hMr
    obtain ⟨capx, hcapx⟩ : ∃ c, c = M.cap := ⟨_, rfl⟩
    rw [← hcapx] at m0
    have Hcap := Lib.hid hcapx
    clear hMr hMv hnM hcx hcapx
    refine (rob_in (v : Int) none bB wA H1.out HOK.out.drives HB.out (by rw [HF.out]; rfl)).mono ?_
    rintro e w2 ⟨rfl, rfl⟩
    go_wp2_with fail
    refine (med_twin capx ax cx kx usx wA HTx.out.mat HTx.out.len.symm (by have := HG.out.1; rw [← HTx.out.pls, pls_length, HTx.out.len] at this; exact this) (HTx.out.short HG.out.2)).mono ?_
    rintro e w2 ⟨aX, cX, csX, rfl, hlX, hoX, hpX, hbX⟩
    have hMX : MedR w2 w.heap.size M aX kx cX csX := ⟨hoX.mono hb.size, hlX, hpX.trans HTx.out.pls⟩
    have hcX : kx ≤ cX := by have := hoX.row.len.1; rw [hlX] at this; exact this
    have hz2 := (hbX.block _ (heap_lt hz)).trans hz
    have hg := setRow_heap w2 w.heap.size _ #[.int .i64 capx, .slice aX kx cX] _ _ hz2
    have hbF := bsetRow (bthen hb hbX (Nat.le_refl _)) (Nat.le_refl _) #[.int .i64 capx, .slice aX kx cX]
    have HM5 := Lib.hid (hMX.setRow (new := #[.int .i64 capx, .slice aX kx cX]) hz2)
    have HC := Lib.hid hcX
    clear m0 m1 r2 r3 e0 e1 hMX hcX hbX hb hlX hoX hpX
    go_wp2_with (refine wpList_store_row rfl rfl 24 (.tmp 4) (.tmp 38) rfl w.heap.size rfl 24 #[.int .i64 0, .slice none 0 0] #[.int .i64 capx, .slice aX kx cX] rfl hz2 rfl (by kernel_rfl) (by simp [Value.oneCell']) ?_)
    exact bodyPost_ret (results_cellm (p := 4) (u := 5) rfl _ _ w.heap.size _ #[.int .i64 capx, .slice aX kx cX] _ _ rfl hg Try.underlying24 rfl (by kernel_rfl)) rfl ⟨aX, kx, cX, csX, by rw [← Hcap.out]; rfl, HM5.out, HC.out, hbF⟩
end Go.Proofs.Ytnbpcdnpdcfiiaa
