/- Several texts of this claim, one behind the other: RobMed, RobNew. -/
import Derived.Test.YtmaagkdehdmhlaaRobMount2
import Derived.Test.YtmaagkdehdmhlaaRobotExactPartF
import Derived.Test.YtmaagkdehdmhlaaRobotExactPartR
import Derived.Test.YtmaagkdehdmhlaaRobotExactPartE
/- robot: Medium. -/
namespace Go.Proofs.Ytmaagkdehdmhlaa
open Go.RowKit

variable {B : Nat} {K : Nat → Prop} {w w' : World} {r g : Nat} {S : RS} {V : RobV} {D : Nat → Nat} {s : PS}
set_option maxHeartbeats 1000000 in
theorem rob_medium_arg (v : Int) (w : World) (h : RobP B K w r g S D s) (hv : v < 0 ∨ (S.vols.length : Int) ≤ v) :
    Calls Try.prog 38 #[.pointer (some ⟨r, 0, none⟩), .int .i64 v] w fun e w' => e = .returned (.tuple #[.agg #[.int .i64 0, .slice none 0 0], .int .i64 1]) ∧ Below w.heap.size w w' := by
  have hz := heap_alloc_new w (.cells #[.int .i64 0, .slice none 0 0] 45)
  have hb := ext_alloc w (.cells #[.int .i64 0, .slice none 0 0] 45)
  obtain ⟨⟨V, h1, h2⟩, hok, hp⟩ := h.ext hb
  obtain ⟨r0, r1, r2, r3, r4, r5⟩ := h1.cells
  have hn8 := hok.vols.2
  have hg := setRow_heap _ w.heap.size _ #[.int .i64 0, .slice none 0 0] _ _ hz
  have hbF := bsetRow hb (Nat.le_refl _) #[.int .i64 0, .slice none 0 0]
  clear h h1 h2 hok r0 r1 r3 r4 r5 hp
  generalize S.vols.length = n at *
  go_enter Try.func38, Try.ntmps38
  by_cases h0 : v < 0
  · have e0 : decide (v < 0) = true := by simpa using h0
    clear hv
    go_wp2_with (refine wpList_store_row rfl rfl 45 (.tmp 4) (.tmp 18) rfl w.heap.size rfl 45 #[.int .i64 0, .slice none 0 0] #[.int .i64 0, .slice none 0 0] rfl hz rfl (by kernel_rfl) (by simp [Value.oneCell']) ?_)
    exact bodyPost_ret (results_cellm (p := 4) (u := 5) rfl _ _ w.heap.size _ #[.int .i64 0, .slice none 0 0] _ _ rfl hg Try.underlying45 rfl (by kernel_rfl)) rfl ⟨rfl, hbF⟩
  · have e0 : decide (v < 0) = false := by simpa using h0
    have e1 : decide (v ≥ (n : Int)) = true := by simp; omega
    clear hv
    go_wp2_with (refine wpList_store_row rfl rfl 45 (.tmp 4) (.tmp 18) rfl w.heap.size rfl 45 #[.int .i64 0, .slice none 0 0] #[.int .i64 0, .slice none 0 0] rfl hz rfl (by kernel_rfl) (by simp [Value.oneCell']) ?_)
    exact bodyPost_ret (results_cellm (p := 4) (u := 5) rfl _ _ w.heap.size _ #[.int .i64 0, .slice none 0 0] _ _ rfl hg Try.underlying45 rfl (by kernel_rfl)) rfl ⟨rfl, hbF⟩

theorem RS.tape_some {v i : Nat} {b : Bay} (hf : findV v S.bays = some i) (hb : S.bays[i]? = some b) : S.tape v = b.M := by
  unfold RS.tape
  rw [hf]
  exact congrArg Bay.M (getD_of _ hb)
theorem RS.tape_none {v : Nat} {m : Med} (hf : findV v S.bays = none) (hm : S.vols[v]? = some m) : S.tape v = m := by
  unfold RS.tape
  rw [hf]
  exact getD_of _ hm
theorem RS.tape_good (h : S.ok) {v : Nat} (hv : v < S.vols.length) : (S.tape v).ok = true ∧ (S.tape v).cap = S.size := by
  cases hf : findV v S.bays with
  | some i =>
    obtain ⟨b, hb, hbv, _⟩ := findV_some hf
    rw [RS.tape_some hf hb]
    have := (h.bay b (List.mem_of_getElem? hb)).good (by omega)
    exact ⟨this.1.ok, this.2⟩
  | none =>
    rw [RS.tape_none hf (List.getElem?_eq_getElem hv)]
    exact h.good _ (List.getElem_mem hv)
theorem RS.tape_dgood (h : S.ok) {v : Nat} (hv : v < S.vols.length) : DGood (S.tape v) 0 := ⟨(RS.tape_good h hv).1, 0, rfl, Nat.zero_le _⟩
/-- A volume's tape that no drive holds. -/
theorem RobL.volume (h : RobL B K w r g S V) {v : Nat} {m : Med} (hm : S.vols[v]? = some m) : ∃ (nM : Nat) (a : Option Addr) (k c : Nat) (cs : List CellV), V.aM = some ⟨nM, 0, none⟩ ∧ nM < w.heap.size ∧ w.cell? ⟨nM, v * 2, none⟩ = some (.int .i64 m.cap) ∧ w.cell? ⟨nM, v * 2 + 1, none⟩ = some (.slice a k c) ∧ MedR w B m a k c cs ∧ k ≤ c := by
  have hvl : v < V.ts.length := by rw [h.tlen]; exact (List.getElem?_eq_some_iff.1 hm).1
  obtain ⟨nM, hnM, _, hlM, hat, _⟩ := h.rowM.elem TapeV.len (by decide) (i := v) hvl
  have m0 := hat 0 _ rfl
  have m1 := hat 1 _ rfl
  have htv : m = V.ts[v].M := by
    rw [h.vols, List.getElem?_map, List.getElem?_eq_getElem hvl] at hm
    exact (Option.some.inj hm).symm
  have hTV := h.tape V.ts[v] (List.getElem_mem hvl)
  rw [Nat.add_zero, ← htv] at m0
  have hr := hTV.r
  rw [← htv] at hr
  exact ⟨nM, _, _, _, _, hnM, hlM, m0, m1, hr, hTV.cap⟩
set_option maxHeartbeats 2000000 in
theorem rob_medium (v : Nat) (M : Med) (w : World) (h : RobP B K w r g S D s) (hv : v < S.vols.length) (hM : S.tape v = M) :
    Calls Try.prog 38 #[.pointer (some ⟨r, 0, none⟩), .int .i64 v] w fun e w' => ∃ a k c cs, e = .returned (.tuple #[.agg #[.int .i64 M.cap, .slice a k c], .int .i64 0]) ∧ MedR w' w.heap.size M a k c cs ∧ k ≤ c ∧ Below w.heap.size w w' := by
  have hz := heap_alloc_new w (.cells #[.int .i64 0, .slice none 0 0] 45)
  have hb := ext_alloc w (.cells #[.int .i64 0, .slice none 0 0] 45)
  obtain ⟨⟨V, h1, h2⟩, hok, hp⟩ := h.ext hb
  obtain ⟨r0, r1, r2, r3, r4, r5⟩ := h1.cells
  obtain ⟨bB, hB, _, hlB, hat, hfz⟩ := h1.bay (by have := hok.drives; omega)
  have hmg := RS.tape_dgood hok hv
  rw [hM] at hmg
  have HG : Hid (M.cells.length ≤ 100000 ∧ ∀ x ∈ M.cells, x.data.length ≤ 140737488355328) := Lib.hid ⟨Nat.le_trans hmg.len (by decide), hmg.short⟩
  have H1 := Lib.hid h1
  have H2 := Lib.hid h2
  have HP := Lib.hid hp
  have HOK := Lib.hid hok
  have HB := Lib.hid hB
  have HM := Lib.hid hM
  have HV := Lib.hid hv
  obtain ⟨n, hn, hvn, hn8⟩ : ∃ n, n = S.vols.length ∧ v < n ∧ n ≤ 8 := ⟨_, rfl, hv, hok.vols.2⟩
  have HN := Lib.hid hn
  have e0 : decide ((v : Int) < 0) = false := by simp
  have e1 : decide ((v : Int) ≥ (n : Int)) = false := by simp; omega
  rw [← hn] at r2
  rw [hB] at r3
  clear h h1 h2 hok r0 r1 r4 r5 hp hmg hM hv hn hB
  generalize hwA : w.alloc (.cells #[.int .i64 0, .slice none 0 0] 45) = wA at *
  go_enter Try.func38, Try.ntmps38
  go_wp2_with fail
  clear hwA
  cases hf : findV v S.bays with
  | some i =>
    obtain ⟨b, hbi, hbv, hbl⟩ := findV_some hf
    have hil := (List.getElem?_eq_some_iff.1 hbi).1
    have hbe : S.bays[i] = b := by rw [List.getElem?_eq_getElem hil] at hbi; exact Option.some.inj hbi
    obtain ⟨_, _, c0⟩ := hat i hil
    obtain ⟨y, hy, hyb, c0⟩ := c0 (by rw [hbe, hbv]; omega)
    obtain ⟨aq, kq, cq, csq, hdq⟩ := H1.out.drv i y hy (by rw [hyb, hbe, hbv]; omega)
    have hMb : b.M = M := by
      have := HM.out
      unfold RS.tape at this
      rw [hf] at this
      change (S.bays.getD i ⟨0, 0, ⟨0, []⟩, 0⟩).M = M at this
      rw [getD_of _ hbi] at this
      exact this
    rw [hyb, hbe, hMb] at hdq
    have HD : Hid (DrvP B (fun x => K x ∧ V.ow x = i + 1) wA y.d g M b.at_ s) := Lib.hid ⟨⟨aq, kq, cq, csq, hdq⟩, HP.out⟩
    obtain ⟨d, hd⟩ : ∃ d, d = y.d := ⟨_, rfl⟩
    rw [← hd] at c0 HD
    have HF := Lib.hid hf
    clear hf hdq hMb hyb hy hat hfz hbe hbv hbl hbi hd
    refine (rob_in (v : Int) (some ⟨bB, i * 3, none⟩) bB wA H1.out HOK.out.drives HB.out (by rw [HF.out]; rfl)).mono ?_
    rintro e w2 ⟨rfl, rfl⟩
    go_wp2_with fail
    refine (drv_mediumP wA HD.out HG.out.1 HG.out.2).mono ?_
    rintro e w2 ⟨aX, cX, csX, kX, rfl, hMX, hcX, hbX⟩
    have hz2 := (hbX.block _ (heap_lt hz)).trans hz
    have hg := setRow_heap w2 w.heap.size _ #[.int .i64 M.cap, .slice aX kX cX] _ _ hz2
    have hbF := bsetRow (bthen hb hbX (Nat.le_refl _)) (Nat.le_refl _) #[.int .i64 M.cap, .slice aX kX cX]
    have HM5 := Lib.hid ((hMX.mono hb.size).setRow (new := #[.int .i64 M.cap, .slice aX kX cX]) hz2)
    have HC := Lib.hid hcX
    clear c0 r2 r3 e0 e1 hMX hcX hbX hb
    go_wp2_with (refine wpList_store_row rfl rfl 45 (.tmp 4) (.tmp 30) rfl w.heap.size rfl 45 #[.int .i64 0, .slice none 0 0] #[.int .i64 M.cap, .slice aX kX cX] rfl hz2 rfl (by kernel_rfl) (by simp [Value.oneCell']) ?_)
    exact bodyPost_ret (results_cellm (p := 4) (u := 5) rfl _ _ w.heap.size _ #[.int .i64 M.cap, .slice aX kX cX] _ _ rfl hg Try.underlying45 rfl (by kernel_rfl)) rfl ⟨aX, kX, cX, csX, rfl, HM5.out, HC.out, hbF⟩
  | none =>
    have HF := Lib.hid hf
    clear hf hat hfz
    have hMv : S.vols[v]? = some M := by
      have := HM.out
      unfold RS.tape at this
      rw [HF.out] at this
      change S.vols.getD v ⟨0, []⟩ = M at this
      rw [List.getElem?_eq_getElem HV.out]
      rw [getD_of _ (List.getElem?_eq_getElem HV.out)] at this
      rw [this]
    obtain ⟨nM, ax, kx, cx, usx, hnM, hlM, m0, m1, hMr, hcx⟩ := H1.out.volume hMv
    rw [hnM] at r2
    generalize V.cM = cM at *
    have HTx := Lib.hid hMr
    obtain ⟨capx, hcapx⟩ : ∃ c, c = M.cap := ⟨_, rfl⟩
    rw [← hcapx] at m0
    have Hcap := Lib.hid hcapx
    clear hMr hMv hnM hcx hcapx
    refine (rob_in (v : Int) none bB wA H1.out HOK.out.drives HB.out (by rw [HF.out]; rfl)).mono ?_
    rintro e w2 ⟨rfl, rfl⟩
    go_wp2_with fail
    refine (med_twin capx ax cx kx usx wA HTx.out.mat HTx.out.len.symm (by have := HG.out.1; rw [← HTx.out.pls, pls_length, HTx.out.len] at this; exact this) (HTx.out.short HG.out.2)).mono ?_
    rintro e w2 ⟨aX, cX, csX, rfl, hlX, hoX, hpX, hbX⟩
    have hMX : MedR w2 w.heap.size M aX kx cX csX := ⟨hoX.mono hb.size, hlX, hpX.trans HTx.out.pls⟩
    have hcX : kx ≤ cX := by have := hoX.row.len.1; rw [hlX] at this; exact this
    have hz2 := (hbX.block _ (heap_lt hz)).trans hz
    have hg := setRow_heap w2 w.heap.size _ #[.int .i64 capx, .slice aX kx cX] _ _ hz2
    have hbF := bsetRow (bthen hb hbX (Nat.le_refl _)) (Nat.le_refl _) #[.int .i64 capx, .slice aX kx cX]
    have HM5 := Lib.hid (hMX.setRow (new := #[.int .i64 capx, .slice aX kx cX]) hz2)
    have HC := Lib.hid hcX
    clear m0 m1 r2 r3 e0 e1 hMX hcX hbX hb hlX hoX hpX
    go_wp2_with (refine wpList_store_row rfl rfl 45 (.tmp 4) (.tmp 38) rfl w.heap.size rfl 45 #[.int .i64 0, .slice none 0 0] #[.int .i64 capx, .slice aX kx cX] rfl hz2 rfl (by kernel_rfl) (by simp [Value.oneCell']) ?_)
    exact bodyPost_ret (results_cellm (p := 4) (u := 5) rfl _ _ w.heap.size _ #[.int .i64 capx, .slice aX kx cX] _ _ rfl hg Try.underlying45 rfl (by kernel_rfl)) rfl ⟨aX, kx, cX, csX, by rw [← Hcap.out]; rfl, HM5.out, HC.out, hbF⟩
end Go.Proofs.Ytmaagkdehdmhlaa

/- robot.New. -/
namespace Go.Proofs.Ytmaagkdehdmhlaa
open Go.RowKit

theorem infoMed : (Try.prog.info? 45).map (fun i => (i.zero, i.size, i.bytes)) = some (some (.agg #[.int .i64 0, .slice none 0 0]), 2, 32) := by kernel_rfl
theorem infoBay : (Try.prog.info? 89).map (fun i => (i.zero, i.size, i.bytes)) = some (some (.agg #[.pointer none, .int .i64 0, .int .i64 0]), 3, 24) := by kernel_rfl
def tv0 (size : Int) : TapeV := ⟨⟨size, []⟩, none, 0, 0, []⟩
def bv0 : BayV := ⟨⟨-1, 0, ⟨0, []⟩, 0⟩, 0⟩
theorem flt_rep_succ {α : Type} {f : α → List Value} (k : Nat) (x : α) : flt f (List.replicate (k + 1) x) = flt f (List.replicate k x) ++ f x := by
  rw [List.replicate_succ', flt_snoc]
/-- A new robot on its way. -/
structure RNew (w : World) (W r g : Nat) (size : Int) (k m : Nat) (aM aB : Option Addr) (cM cB : Nat) : Prop where
  obj : w.heap[r]? = some (.cells #[.pointer (some ⟨g, 0, none⟩), .int .i64 size, .slice aM k cM, .slice aB m cB, .int .i64 0, .int .i64 0] 87 (0, 0))
  low : W ≤ r
  rowM : Own w W 45 2 aM k cM (flt TapeV.cells (List.replicate k (tv0 size)))
  rowB : Own w W 89 3 aB m cB (flt BayV.cells (List.replicate m bv0))
theorem RNew.cells {w : World} {W r g : Nat} {size : Int} {k m : Nat} {aM aB : Option Addr} {cM cB : Nat} (h : RNew w W r g size k m aM aB cM cB) : w.cell? ⟨r, 2, none⟩ = some (.slice aM k cM) ∧ w.cell? ⟨r, 3, none⟩ = some (.slice aB m cB) :=
  ⟨cell_of_row _ _ _ _ _ _ h.obj, cell_of_row _ _ _ _ _ _ h.obj⟩
theorem RNew.ext {w w' : World} {W r g : Nat} {size : Int} {k m : Nat} {aM aB : Option Addr} {cM cB : Nat} (h : RNew w W r g size k m aM aB cM cB) (hb : Below w.heap.size w w') : RNew w' W r g size k m aM aB cM cB :=
  ⟨(hb.block r (heap_lt h.obj)).trans h.obj, h.low, h.rowM.ext hb, h.rowB.ext hb⟩
theorem RNew.appM {w w' : World} {W r g : Nat} {size : Int} {k m : Nat} {aM aB : Option Addr} {cM cB : Nat} (h : RNew w W r g size k m aM aB cM cB) {a' : Option Addr} {c' : Nat} (hA : AppR w w' W 45 2 aM k cM a' (k + 1) c' (flt TapeV.cells (List.replicate k (tv0 size)) ++ (tv0 size).cells)) :
    RNew (w'.setCell ⟨r, 2, none⟩ (.slice a' (k + 1) c')) W r g size (k + 1) m a' aB c' cB ∧ (∃ v, w'.cell? ⟨r, 2, none⟩ = some v) ∧ w'.frozen? ⟨r, 2, none⟩ = false ∧ Below W w (w'.setCell ⟨r, 2, none⟩ (.slice a' (k + 1) c')) := by
  have hm : Mod (fun _ T => T = 45) w w' := hA.mod _ fun _ _ _ _ => rfl
  have hobj := hm.keep h.obj (by decide)
  have hm2 : Mod (fun b T => b = r ∧ T = 87) w' (w'.setCell ⟨r, 2, none⟩ (.slice a' (k + 1) c')) := (Mod.refl _ w').setCell hobj ⟨rfl, rfl⟩ _ _
  refine ⟨⟨heap_setCell_same w' r 2 _ _ _ hobj, h.low, ?_, ?_⟩, ⟨_, cell_of_row _ _ 2 _ _ _ hobj⟩, frozen_of_row _ _ _ _ _ hobj, hA.below.setCell (p := ⟨r, 2, none⟩) h.low _⟩
  · rw [flt_rep_succ]
    exact hA.own.mod hm2 fun b _ _ hf => absurd hf.2 (by decide)
  · exact (h.rowB.mod hm fun b _ _ hf => absurd hf (by decide)).mod hm2 fun b _ _ hf => absurd hf.2 (by decide)
theorem RNew.appB {w w' : World} {W r g : Nat} {size : Int} {k m : Nat} {aM aB : Option Addr} {cM cB : Nat} (h : RNew w W r g size k m aM aB cM cB) {a' : Option Addr} {c' : Nat} (hA : AppR w w' W 89 3 aB m cB a' (m + 1) c' (flt BayV.cells (List.replicate m bv0) ++ bv0.cells)) :
    RNew (w'.setCell ⟨r, 3, none⟩ (.slice a' (m + 1) c')) W r g size k (m + 1) aM a' cM c' ∧ (∃ v, w'.cell? ⟨r, 3, none⟩ = some v) ∧ w'.frozen? ⟨r, 3, none⟩ = false ∧ Below W w (w'.setCell ⟨r, 3, none⟩ (.slice a' (m + 1) c')) := by
  have hm : Mod (fun _ T => T = 89) w w' := hA.mod _ fun _ _ _ _ => rfl
  have hobj := hm.keep h.obj (by decide)
  have hm2 : Mod (fun b T => b = r ∧ T = 87) w' (w'.setCell ⟨r, 3, none⟩ (.slice a' (m + 1) c')) := (Mod.refl _ w').setCell hobj ⟨rfl, rfl⟩ _ _
  refine ⟨⟨heap_setCell_same w' r 3 _ _ _ hobj, h.low, ?_, ?_⟩, ⟨_, cell_of_row _ _ 3 _ _ _ hobj⟩, frozen_of_row _ _ _ _ _ hobj, hA.below.setCell (p := ⟨r, 3, none⟩) h.low _⟩
  · exact (h.rowM.mod hm fun b _ _ hf => absurd hf (by decide)).mod hm2 fun b _ _ hf => absurd hf.2 (by decide)
  · rw [flt_rep_succ]
    exact hA.own.mod hm2 fun b _ _ hf => absurd hf.2 (by decide)
theorem rnew_ok (vols size drives : Nat) (hv : 1 ≤ vols ∧ vols ≤ 8) (hs : 1 ≤ size ∧ size ≤ 400) (hd : 1 ≤ drives ∧ drives ≤ 4) : (RS.new vols size drives).ok := by
  refine ⟨by simpa [RS.new] using hv, by simpa [RS.new] using hd, by show 1 ≤ (size : Int) ∧ (size : Int) ≤ 400; omega, ?_, ?_, ?_, ⟨Int.le_refl _, by show (0 : Int) ≤ _; omega⟩, ⟨Int.le_refl _, Int.le_refl _⟩⟩
  · intro m hm
    obtain rfl := List.eq_of_mem_replicate hm
    refine ⟨Med.ok_iff.2 ⟨⟨by show 1 ≤ (size : Int); omega, by show (size : Int) ≤ 400; omega, by show ((0 : Nat) : Int) ≤ size; omega⟩, fun x hx => by cases hx⟩, rfl⟩
  · intro b hb
    obtain rfl := List.eq_of_mem_replicate hb
    exact ⟨⟨Int.le_refl _, by show (-1 : Int) < _; have := hv.1; simp [RS.new]; omega⟩, ⟨Int.le_refl _, Int.le_refl _⟩, fun h => absurd h (by decide)⟩
  · intro i j bi bj hi hj _ h0
    obtain rfl := List.eq_of_mem_replicate (List.mem_of_getElem? hi)
    exact absurd h0 (by decide)
theorem RNew.done {B : Nat} {K : Nat → Prop} {w : World} {W r g : Nat} {size : Nat} {k m : Nat} {aM aB : Option Addr} {cM cB : Nat} (h : RNew w W r g size k m aM aB cM cB) (hB : B ≤ W) (hK : ∀ b, W ≤ b → K b) (D : Nat → Nat) {s : PS} (hp : Pow B w g s) (hv : 1 ≤ k ∧ k ≤ 8) (hs : 1 ≤ size ∧ size ≤ 400) (hd : 1 ≤ m ∧ m ≤ 4) : RobP B K w r g (RS.new k size m) D s := by
  refine ⟨⟨⟨aM, cM, aB, cB, List.replicate k (tv0 size), List.replicate m bv0, fun _ => 0⟩, ⟨Nat.le_trans hB h.low, hK _ h.low, ?_, ?_, ?_, ?_, ?_, ?_, ?_, ?_, ?_⟩, ?_⟩, rnew_ok k size m hv hs hd, hp⟩
  · simp only [RS.new, List.length_replicate]; exact h.obj
  · simp [RS.new, tv0, List.map_replicate]
  · simp [RS.new, bv0, List.map_replicate]
  · simp only [RS.new, List.length_replicate]; exact h.rowM.mono hB
  · simp only [RS.new, List.length_replicate]; exact h.rowB.mono hB
  · simp only [RS.new, List.length_replicate]; exact h.rowM.rowIn fun b hb _ => hK b hb
  · simp only [RS.new, List.length_replicate]; exact h.rowB.rowIn fun b hb _ => hK b hb
  · intro x hx
    obtain rfl := List.eq_of_mem_replicate hx
    exact ⟨⟨OwnM.nil _ _ _, rfl, rfl⟩, Nat.le_refl _, ⟨(fun x hx => .inl ⟨rfl, rfl⟩), (fun x hx => by cases hx)⟩⟩
  · intro i x hx h0
    obtain rfl := List.eq_of_mem_replicate (List.mem_of_getElem? hx)
    exact absurd h0 (by decide)
  · intro i x hx h0
    obtain rfl := List.eq_of_mem_replicate (List.mem_of_getElem? hx)
    exact absurd h0 (by decide)

set_option maxRecDepth 100000 in
set_option maxHeartbeats 4000000 in
theorem rob_new {B : Nat} {K : Nat → Prop} {g : Nat} {s : PS} (D : Nat → Nat) (vols size drives : Nat) (w : World) (hu : Up B K w) (hp : Pow B w g s) (hv : 1 ≤ vols ∧ vols ≤ 8) (hs : 1 ≤ size ∧ size ≤ 400) (hd : 1 ≤ drives ∧ drives ≤ 4) :
    Calls Try.prog 7 #[.pointer (some ⟨g, 0, none⟩), .int .i64 vols, .int .i64 size, .int .i64 drives] w fun e w' => ∃ r, e = .returned (.tuple #[.pointer (some ⟨r, 0, none⟩), .int .i64 0]) ∧ RobP B K w' r g (RS.new vols size drives) D s ∧ Below w.heap.size w w' := by
  obtain ⟨i0, hi, hz0, hz1, hz2⟩ := info_parts infoMed
  obtain ⟨i1, hj, hy0, hy1, hy2⟩ := info_parts infoBay
  have e0 : decide ((vols : Int) < 1) = false := by simp; omega
  have e1 : decide ((vols : Int) > 8) = false := by simp; omega
  have e2 : decide ((size : Int) < 1) = false := by simp; omega
  have e3 : decide ((size : Int) > 400) = false := by simp; omega
  have e4 : decide ((drives : Int) < 1) = false := by simp; omega
  have e5 : decide ((drives : Int) > 4) = false := by simp; omega
  have HU := Lib.hid hu
  have HP := Lib.hid hp
  obtain ⟨W, hW⟩ : ∃ W, W = w.heap.size := ⟨_, rfl⟩
  have h0 : RNew (w.alloc (.cells #[.pointer (some ⟨g, 0, none⟩), .int .i64 size, .slice none 0 0, .slice none 0 0, .int .i64 0, .int .i64 0] 87)) W w.heap.size g size 0 0 none none 0 0 :=
    ⟨heap_alloc_new w _, by omega, Own.nil _ _ _ _ _, Own.nil _ _ _ _ _⟩
  have hb0 := ext_alloc w (.cells #[.pointer (some ⟨g, 0, none⟩), .int .i64 size, .slice none 0 0, .slice none 0 0, .int .i64 0, .int .i64 0] 87)
  obtain ⟨r, hr⟩ : ∃ r, r = w.heap.size := ⟨_, rfl⟩
  rw [← hr] at h0
  rw [← hW] at hb0
  have H0 := Lib.hid h0
  have HB0 := Lib.hid hb0
  have HW := Lib.hid hW
  have Hr := Lib.hid hr
  clear h0 hb0 hu hp hW
  go_enter Try.func7, Try.ntmps7
  go_wp2_with fail
  rw [← Hr.out]
  clear hr
  generalize w.alloc (.cells #[.pointer (some ⟨g, 0, none⟩), .int .i64 size, .slice none 0 0, .slice none 0 0, .int .i64 0, .int .i64 0] 87) = wA at *
  clear e0 e1 e2 e3 e4 e5
  go_loopw [42] (fun i wr => ∃ (k : Nat) (aM : Option Addr) (cM : Nat) (wx : World), wx = wr ∧ k ≤ vols ∧ i = .int .i64 (k : Int) ∧ RNew wx W r g size k 0 aM none cM 0 ∧ Below W w wx) (fun i _ => vols - (intOf i).toNat)
  case atStart => exact ⟨0, none, 0, _, rfl, by omega, rfl, H0.out, HB0.out⟩
  case round =>
    obtain ⟨k, aM, cM, wx, hwx, hk, rfl, hR, hB⟩ := hrel
    subst hwx
    clear H0 HB0
    have HR := Lib.hid hR
    have HB := Lib.hid hB
    obtain ⟨c2, c3⟩ := hR.cells
    clear hR hB
    by_cases hlt : k < vols
    · have hba := ext_alloc wx (.cells #[.int .i64 size, .slice none 0 0] 45)
      have HR1 := Lib.hid (HR.out.ext hba)
      have HB1 := Lib.hid (HB.out.trans (hba.mono (by have := HB.out.size; have := HW.out; omega)))
      have HS1 : W ≤ (wx.alloc (.cells #[.int .i64 size, .slice none 0 0] 45)).heap.size := by have := HB1.out.size; have := HW.out; omega
      have HO := Lib.hid HR1.out.rowM
      have hsrc : Src (wx.alloc (.cells #[.int .i64 size, .slice none 0 0] 45)) (some ⟨wx.heap.size, 0, none⟩) (tv0 size).cells := src_new wx _ _
      clear hba
      go_wp2_with (refine wpList_appm rfl (.tmp 48) (.tmp 51) 70 rfl W 45 i0 (.agg #[.int .i64 0, .slice none 0 0]) 2 32 Try.underlying70 hi hz0 hz1 hz2 rfl (by decide) aM k cM (flt TapeV.cells (List.replicate k (tv0 size))) rfl HO.out (some ⟨wx.heap.size, 0, none⟩) 1 1 (tv0 size).cells rfl rfl hsrc (TapeV.one _) (by unfold maxLen; omega) (by omega) HS1 ?_; intro a4 c4 w4 hA4; obtain ⟨hR5, ⟨v5, c5⟩, f5, hb5⟩ := HR1.out.appM hA4; have HR5 := Lib.hid hR5; have HB5 := Lib.hid (HB1.out.trans hb5); clear hR5 hb5 hA4 hsrc HO HS1)
      go_roundw
      case rel => exact ⟨k + 1, a4, c4, _, rfl, by omega, by go_num, HR5.out, HB5.out⟩
      case measure => simp [intOf]; omega
    · obtain rfl : k = vols := by omega
      clear c2 c3
      go_wp2_with fail
      go_loopw [57] (fun i wr => ∃ (m : Nat) (aB : Option Addr) (cB : Nat) (wx : World), wx = wr ∧ m ≤ drives ∧ i = .int .i64 (m : Int) ∧ RNew wx W r g size k m aM aB cM cB ∧ Below W w wx) (fun i _ => drives - (intOf i).toNat)
      case atStart => exact ⟨0, none, 0, _, rfl, by omega, rfl, HR.out, HB.out⟩
      case round =>
        obtain ⟨m, aB, cB, wy, hwy, hm, rfl, hR, hB⟩ := hrel
        subst hwy
        clear HR HB
        have HR := Lib.hid hR
        have HB := Lib.hid hB
        obtain ⟨c2, c3⟩ := hR.cells
        clear hR hB
        by_cases hlt : m < drives
        · have hba := ext_alloc wy (.cells #[.pointer none, .int .i64 (-1), .int .i64 0] 89)
          have HR1 := Lib.hid (HR.out.ext hba)
          have HB1 := Lib.hid (HB.out.trans (hba.mono (by have := HB.out.size; have := HW.out; omega)))
          have HS1 : W ≤ (wy.alloc (.cells #[.pointer none, .int .i64 (-1), .int .i64 0] 89)).heap.size := by have := HB1.out.size; have := HW.out; omega
          have HO := Lib.hid HR1.out.rowB
          have hsrc : Src (wy.alloc (.cells #[.pointer none, .int .i64 (-1), .int .i64 0] 89)) (some ⟨wy.heap.size, 0, none⟩) bv0.cells := src_new wy _ _
          clear hba
          go_wp2_with (refine wpList_appm rfl (.tmp 63) (.tmp 65) 85 rfl W 89 i1 (.agg #[.pointer none, .int .i64 0, .int .i64 0]) 3 24 Try.underlying85 hj hy0 hy1 hy2 rfl (by decide) aB m cB (flt BayV.cells (List.replicate m bv0)) rfl HO.out (some ⟨wy.heap.size, 0, none⟩) 1 1 bv0.cells rfl rfl hsrc (BayV.one _) (by unfold maxLen; omega) (by omega) HS1 ?_; intro a4 c4 w4 hA4; obtain ⟨hR5, ⟨v5, c5⟩, f5, hb5⟩ := HR1.out.appB hA4; have HR5 := Lib.hid hR5; have HB5 := Lib.hid (HB1.out.trans hb5); clear hR5 hb5 hA4 hsrc HO HS1)
          go_roundw
          case rel => exact ⟨m + 1, a4, c4, _, rfl, by omega, by go_num, HR5.out, HB5.out⟩
          case measure => simp [intOf]; omega
        · obtain rfl : m = drives := by omega
          clear c2 c3
          go_wp2
          go_ret2
          have hb := HB.out
          rw [HW.out] at hb
          exact ⟨r, rfl, HR.out.done (by rw [HW.out]; exact HU.out.le) (fun b hb => HU.out.up b (by rw [← HW.out]; exact hb)) D (HP.out.ext hb) hv hs hd, hb⟩
end Go.Proofs.Ytmaagkdehdmhlaa
