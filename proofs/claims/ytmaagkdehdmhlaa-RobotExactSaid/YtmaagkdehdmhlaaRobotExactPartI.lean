/- Several texts of this claim, one behind the other: PowWakes, Drv, DrvLay, DrvRead. -/
import Derived.Test.YtmaagkdehdmhlaaPow
import Derived.Test.YtmaagkdehdmhlaaRobotExactPartH
import Derived.Test.YtmaagkdehdmhlaaMedTwin
import Derived.Test.YtmaagkdehdmhlaaRegion
import Derived.Test.YtmaagkdehdmhlaaRobotExactPartE
import Derived.StillTailTactics
import Derived.Test.YtmaagkdehdmhlaaRobotExactPartC
/- power: the contracts with their answers as variables. -/
namespace Go.Proofs.Ytmaagkdehdmhlaa
open Go.RowKit

theorem spend_some (L : Int) (K : List Bool) (T n : Int) (k : List Bool) (t : Int) : (PS.mk false L K T (some (n, k, t))).spend = if 1 < n then (true, ⟨false, L, K, T, some (n - 1, k, t)⟩) else (false, ⟨true, L, k, t, none⟩) := rfl
theorem spend_at {B g : Nat} {s s' : PS} {r : Bool} {w : World} (hB : B ≤ w.heap.size) (hp : Pow B w g s) (hs : s.spend = (r, s')) :
    Calls Try.prog 52 #[.pointer (some ⟨g, 0, none⟩)] w fun e w' => e = .returned (.bool r) ∧ Pow B w' g s' ∧ Mod (PF B) w w' := by
  have h := power_spend B g s w hB hp
  rw [hs] at h
  exact h
theorem start_at {B g : Nat} {s s' : PS} {w : World} (hp : Pow B w g s) (hs : s.start = s') (hl0 : 0 ≤ s.life) (hl1 : s.life ≤ 4611686018427387904) :
    Calls Try.prog 20 #[.pointer (some ⟨g, 0, none⟩)] w fun e w' => e = .returned (.tuple #[]) ∧ Pow B w' g s' ∧ Mod (PF B) w w' := by
  subst hs; exact power_start B g s w hp hl0 hl1
theorem arm_nil {B g : Nat} {s s' : PS} {n t : Int} {w : World} (hB : B ≤ w.heap.size) (hp : Pow B w g s) (hs : s.arm n [] t = s') (hn : n ≤ 9223372036854775807) :
    Calls Try.prog 22 #[.pointer (some ⟨g, 0, none⟩), .int .i64 n, .slice none 0 0, .int .i64 t] w fun e w' => e = .returned (.tuple #[]) ∧ Pow B w' g s' ∧ Mod (PF B) w w' := by
  subst hs; exact power_arm B g s none 0 0 [] n t w hB hp (Src.nil _ _) rfl (by omega) hn
theorem cut_nil {B g : Nat} {s s' : PS} {t : Int} {w : World} (hB : B ≤ w.heap.size) (hp : Pow B w g s) (hs : s.cut [] t = s') :
    Calls Try.prog 18 #[.pointer (some ⟨g, 0, none⟩), .slice none 0 0, .int .i64 t] w fun e w' => e = .returned (.tuple #[]) ∧ Pow B w' g s' ∧ Mod (PF B) w w' := by
  subst hs; exact power_cut B g s none 0 0 [] t w hB hp (Src.nil _ _) rfl (by omega)
theorem off_at {B g : Nat} {s : PS} {r : Bool} {w : World} (hp : Pow B w g s) (hs : s.off = r) :
    Calls Try.prog 47 #[.pointer (some ⟨g, 0, none⟩)] w fun e w' => e = .returned (.bool r) ∧ w = w' := by subst hs; exact power_off B g s w hp
theorem torn_at {B g : Nat} {s : PS} {r : Int} {w : World} (hp : Pow B w g s) (hs : s.torn = r) :
    Calls Try.prog 53 #[.pointer (some ⟨g, 0, none⟩)] w fun e w' => e = .returned (.int .i64 r) ∧ w = w' := by subst hs; exact power_torn B g s w hp
end Go.Proofs.Ytmaagkdehdmhlaa

/- drive.Drive as it lies; its tape's small methods. -/
namespace Go.Proofs.Ytmaagkdehdmhlaa
open Go.RowKit

def TT : List TypeId := [61, 42]
/-- What a drive's methods may write. -/
abbrev VF (B : Nat) (K : Nat → Prop) : Nat → TypeId → Prop := fun b T => B ≤ b ∧ (T ∈ PT ∨ (K b ∧ T ∈ TT))
theorem PF.vf {B : Nat} {K : Nat → Prop} {w w' : World} (h : Mod (PF B) w w') : Mod (VF B K) w w' := h.mono fun b T _ hf => ⟨hf.1, .inl hf.2⟩
theorem VF_no_u8 {B : Nat} {K : Nat → Prop} (b : Nat) : ¬ VF B K b 5 := by
  rintro ⟨_, h | ⟨_, h⟩⟩ <;> revert h <;> decide
/-- What a drive's tape's methods may write. -/
abbrev TF (B : Nat) (K : Nat → Prop) : Nat → TypeId → Prop := fun b T => B ≤ b ∧ K b ∧ T ∈ TT
theorem TF.vf {B : Nat} {K : Nat → Prop} {w w' : World} (h : Mod (TF B K) w w') : Mod (VF B K) w w' := h.mono fun b T _ hf => ⟨hf.1, .inr hf.2⟩
theorem TF_d {B g : Nat} {K : Nat → Prop} (h : B ≤ g) (k : K g) : TF B K g 61 := ⟨h, k, by decide⟩
theorem TF_c {B g : Nat} {K : Nat → Prop} (h : B ≤ g) (k : K g) : TF B K g 42 := ⟨h, k, by decide⟩
theorem Pow.tf {B B' : Nat} {K : Nat → Prop} {w w' : World} {g : Nat} {s : PS} (h : Pow B w g s) (hm : Mod (TF B' K) w w') : Pow B w' g s := h.mod hm (by
  rintro b T ⟨_, _, hT⟩
  simp only [TT, List.mem_cons, List.not_mem_nil, or_false] at hT
  rcases hT with rfl | rfl <;> decide)
/-- Of a slice's row: it lies in K, where there is one. -/
def RowIn (K : Nat → Prop) (a : Option Addr) (k c : Nat) : Prop := ∀ x, a = some ⟨x, 0, none⟩ → (k = 0 ∧ c = 0) ∨ K x
theorem Own.rowIn {w : World} {W : Nat} {T : TypeId} {e : Nat} {a : Option Addr} {k c : Nat} {xs : List Value} {K : Nat → Prop} (h : Own w W T e a k c xs) (hK : ∀ b, W ≤ b → b < w.heap.size → K b) : RowIn K a k c := fun x hx => by
  obtain ⟨_, h0 | ⟨g', cur, ha, hg', hh, _⟩⟩ := h
  · exact .inl h0
  · rw [ha] at hx
    simp only [Option.some.injEq, Addr.mk.injEq, and_true] at hx
    subst hx
    exact .inr (hK _ hg' (heap_lt hh))
theorem Own.rowInAnd {w : World} {W : Nat} {T : TypeId} {e : Nat} {a : Option Addr} {k c : Nat} {xs : List Value} {K K' : Nat → Prop} (h : Own w W T e a k c xs) (hr : RowIn K a k c) (hK : ∀ b, W ≤ b → b < w.heap.size → K b → K' b) : RowIn K' a k c := fun x hx => by
  rcases hr x hx with h0 | hk
  · exact .inl h0
  · rcases h.rowIn (K := fun b => W ≤ b ∧ b < w.heap.size) (fun b h1 h2 => ⟨h1, h2⟩) x hx with h0 | h1
    · exact .inl h0
    · exact .inr (hK _ h1.1 h1.2 hk)
/-- New blocks are in K. -/
structure Up (B : Nat) (K : Nat → Prop) (w : World) : Prop where
  le : B ≤ w.heap.size
  up : ∀ b, w.heap.size ≤ b → K b
theorem Up.grow {B : Nat} {K : Nat → Prop} {w w' : World} (h : Up B K w) (hs : w.heap.size ≤ w'.heap.size) : Up B K w' := ⟨Nat.le_trans h.le hs, fun b hb => h.up b (Nat.le_trans hs hb)⟩
abbrev AllK : Nat → Prop := fun _ => True
theorem Up.all {B : Nat} {w : World} (h : B ≤ w.heap.size) : Up B AllK w := ⟨h, fun _ _ => trivial⟩
/-- In block d stands a drive, of the power in block g, with the tape M, all of whose memory lies from B on. -/
structure DrvAt (B : Nat) (K : Nat → Prop) (w : World) (d g : Nat) (M : Med) (at_ : Int) (a : Option Addr) (k c : Nat) (cs : List CellV) : Prop where
  low : B ≤ d
  kd : K d
  obj : w.heap[d]? = some (.cells #[.int .i64 M.cap, .slice a k c, .int .i64 at_, .pointer (some ⟨g, 0, none⟩)] 61 (0, 0))
  r : MedR w B M a k c cs
  cap : k ≤ c
  kr : RowIn K a k c
  du : ∀ x ∈ cs, RowIn K x.d.a x.d.l.length x.d.c
variable {B : Nat} {K : Nat → Prop} {w w' : World} {d g : Nat} {M : Med} {at_ : Int} {a : Option Addr} {k c : Nat} {cs : List CellV}
theorem DrvAt.cells (h : DrvAt B K w d g M at_ a k c cs) : w.cell? ⟨d, 0, none⟩ = some (.int .i64 M.cap) ∧ w.cell? ⟨d, 1, none⟩ = some (.slice a k c) ∧ w.cell? ⟨d, 2, none⟩ = some (.int .i64 at_) ∧ w.cell? ⟨d, 3, none⟩ = some (.pointer (some ⟨g, 0, none⟩)) :=
  ⟨cell_of_row w d 0 _ _ _ h.obj, cell_of_row w d 1 _ _ _ h.obj, cell_of_row w d 2 _ _ _ h.obj, cell_of_row w d 3 _ _ _ h.obj⟩
theorem DrvAt.ext (h : DrvAt B K w d g M at_ a k c cs) (hb : Below w.heap.size w w') : DrvAt B K w' d g M at_ a k c cs := ⟨h.low, h.kd, (hb.block d (heap_lt h.obj)).trans h.obj, h.r.ext hb, h.cap, h.kr, h.du⟩
theorem DrvAt.mod {F : Nat → TypeId → Prop} (h : DrvAt B K w d g M at_ a k c cs) (hm : Mod F w w') (hF : ∀ b T, F b T → T ≠ 61 ∧ T ≠ 42 ∧ T ≠ 5) : DrvAt B K w' d g M at_ a k c cs :=
  ⟨h.low, h.kd, hm.keep h.obj fun hf => (hF _ _ hf).1 rfl, ⟨h.r.own.mod hm fun b T hf => ⟨(hF b T hf).2.1, (hF b T hf).2.2⟩, h.r.len, h.r.pls⟩, h.cap, h.kr, h.du⟩
theorem DrvAt.pf {B' : Nat} (h : DrvAt B K w d g M at_ a k c cs) (hm : Mod (PF B') w w') : DrvAt B K w' d g M at_ a k c cs := h.mod hm (by
  rintro b T ⟨_, hT⟩
  simp only [PT, List.mem_cons, List.not_mem_nil, or_false] at hT
  rcases hT with rfl | rfl <;> decide)
theorem DrvAt.of (h : DrvAt B K w d g M at_ a k c cs) : medOf M.cap cs = M := h.r.of
theorem DrvAt.len63 (h : DrvAt B K w d g M at_ a k c cs) : k ≤ 9223372036854775807 := by
  have h1 := h.r.own.row.len
  rw [h.r.len] at h1
  have h2 := h1.2
  unfold maxLen at h2
  omega
theorem DrvAt.short (h : DrvAt B K w d g M at_ a k c cs) {K : Nat} (hK : ∀ c ∈ M.cells, c.data.length ≤ K) : ∀ x ∈ cs, x.d.l.length ≤ K := short_of h.r.pls hK

theorem drv_place (w : World) (h : DrvAt B K w d g M at_ a k c cs) :
    Calls Try.prog 26 #[.pointer (some ⟨d, 0, none⟩)] w fun e w' => e = .returned (.int .i64 at_) ∧ w = w' := by
  obtain ⟨d0, d1, d2, d3⟩ := h.cells
  clear h
  go_enter Try.func26, Try.ntmps26
  go_wp2
  go_ret
  exact ⟨rfl, rfl⟩
set_option maxRecDepth 100000 in
set_option maxHeartbeats 1000000 in
theorem drv_medium (w : World) (h : DrvAt B K w d g M at_ a k c cs) (hk : k ≤ 100000) (hx : ∀ x ∈ cs, x.d.l.length ≤ 140737488355328) :
    Calls Try.prog 49 #[.pointer (some ⟨d, 0, none⟩)] w fun e w' => ∃ a' c' cs', e = .returned (.agg #[.int .i64 M.cap, .slice a' k c']) ∧ MedR w' w.heap.size M a' k c' cs' ∧ k ≤ c' ∧ Below w.heap.size w w' := by
  have H := Lib.hid h
  have Hx := Lib.hid hx
  have hz := heap_alloc_new w (.cells #[.int .i64 0, .slice none 0 0] 45)
  have hb := ext_alloc w (.cells #[.int .i64 0, .slice none 0 0] 45)
  obtain ⟨d0, d1, d2, d3⟩ := (h.ext hb).cells
  clear h hx d2 d3
  go_enter Try.func49, Try.ntmps49
  go_wp2_with fail
  clear d0 d1
  refine (med_twin M.cap a c k cs _ (H.out.r.mat.ext hb) H.out.r.len.symm hk Hx.out).mono ?_
  rintro e w2 ⟨a2, c2, cs2, rfl, hl2, ho2, hp2, hb2⟩
  have g2 := (hb2.block _ (heap_lt hz)).trans hz
  have hM : MedR w2 w.heap.size M a2 k c2 cs2 := ⟨ho2.mono hb.size, hl2, hp2.trans H.out.r.pls⟩
  have HM := Lib.hid (hM.setRow (new := #[.int .i64 M.cap, .slice a2 k c2]) g2)
  have Hc := Lib.hid (show k ≤ c2 by have := ho2.row.len.1; rw [hl2] at this; exact this)
  have hg := setRow_heap w2 w.heap.size _ #[.int .i64 M.cap, .slice a2 k c2] _ _ g2
  have hbF := bsetRow (bthen hb hb2 (Nat.le_refl _)) (Nat.le_refl _) #[.int .i64 M.cap, .slice a2 k c2]
  clear hM ho2 hp2 hb2
  go_wp2_with (refine wpList_store_row rfl rfl 45 (.tmp 2) (.tmp 7) rfl w.heap.size rfl 45 #[.int .i64 0, .slice none 0 0] #[.int .i64 M.cap, .slice a2 k c2] rfl g2 rfl (by kernel_rfl) (by simp [Value.oneCell']) ?_)
  exact bodyPost_ret (v := .agg _) (results_cell_row (p := 2) rfl _ _ w.heap.size _ #[.int .i64 M.cap, .slice a2 k c2] _ _ rfl hg Try.underlying45 rfl (by kernel_rfl)) rfl
    ⟨a2, c2, cs2, rfl, HM.out, Hc.out, hbF⟩
end Go.Proofs.Ytmaagkdehdmhlaa

/- A drive's tape: lay, end, Load. -/
namespace Go.Proofs.Ytmaagkdehdmhlaa
open Go.RowKit

theorem OwnM.lay {W w' : World} {B p k c c' cd m g : Nat} {a a' ad : Option Addr} {cs : List CellV} {kind : Int} {l : List Byte} {T0 : TypeId} (h : OwnM W B a c cs) (hl : cs.length = k) (hp : p ≤ k)
    (hrow : Own w' B 42 3 a' (p + 1) c' (flt CellV.cells (cs.take p ++ [⟨kind, ⟨ad, cd, l⟩, false⟩]))) (hd : Own w' W.heap.size 5 1 ad m cd (bvs l)) (hm : m = l.length) (hmod : Mod (LF B g T0 a) W w') (hT8 : T0 ≠ 5) (hB : B ≤ W.heap.size) :
    OwnM w' B a' c' (cs.take p ++ [⟨kind, ⟨ad, cd, l⟩, false⟩]) := by
  subst hm
  refine ⟨?_, fun y hy => ?_, Apart.snoc (w := W) (w' := w') (B0 := B) (B := W.heap.size) (h.apart.sublist (List.take_sublist _ _)) (fun y hy => h.dat y (List.mem_of_mem_take hy)) hd (Nat.le_refl _)⟩
  · rw [List.length_append, List.length_take, hl, Nat.min_eq_left hp]
    exact hrow
  · rcases List.mem_append.1 hy with hy | hy
    · refine (h.dat y (List.mem_of_mem_take hy)).mod hmod fun b _ _ hf => ?_
      rcases hf with ⟨_, h⟩ | ⟨h, _⟩
      · exact hT8 h.symm
      · revert h; decide
    · rw [List.mem_singleton.1 hy]
      exact hd.mono hB
variable {B : Nat} {K : Nat → Prop} {w w' : World} {d g : Nat} {M : Med} {at_ : Int} {a : Option Addr} {k c : Nat} {cs : List CellV}

set_option maxRecDepth 100000 in
set_option maxHeartbeats 4000000 in
theorem drv_lay (p : Nat) (kind : Int) (ab : Option Addr) (m cb : Nat) (l : List Byte) (w : World) (h : DrvAt B K w d g M (p : Int) a k c cs) (hB : Up B K w) (hp : p ≤ k) (hk : k ≤ 90000) (hsb : Src w ab (bvs l)) (hm : m = l.length) (hm2 : m ≤ 140737488355328) :
    Calls Try.prog 54 #[.pointer (some ⟨d, 0, none⟩), .int .i64 kind, .slice ab m cb] w fun e w' => e = .returned (.tuple #[]) ∧ ∃ a' c' cs', DrvAt B K w' d g (M.lay p ⟨kind, l, false⟩) (p : Int) a' (p + 1) c' cs' ∧ Mod (TF B K) w w' := by
  have hbd := ext_drewN w 1 w.heap.size
  have H := Lib.hid h
  have H1 := Lib.hid (h.ext hbd)
  have Hsb := Lib.hid (hsb.ext hbd)
  have Hm := Lib.hid hm
  have hlow := h.low
  have hkd := h.kd
  obtain ⟨d0, d1, d2, d3⟩ := h.cells
  clear h hsb hm d0 d1 d3
  go_enter Try.func54, Try.ntmps54
  go_wp2_with fail
  go_still_tail 9, (by kernel_rfl)
  go_wp2_with fail
  refine (lay_any B d 0 p k c a cs _ _ kind ab m cb l (w.drewN 1) H1.out.obj (by decide) (by decide) H1.out.cells.2.1 (by have := H1.out.r.own.row; rw [H1.out.r.len] at this; exact this) H1.out.r.len.symm (by omega) hp Hsb.out Hm.out hm2 (hB.grow hbd.size).le).mono ?_
  rintro e w2 ⟨rfl, a2, c2, ad, cd, hg2, ho2, hd2, hm2', hwh⟩
  have hkr : RowIn K a2 (p + 1) c2 := by
    intro x hx
    rcases hwh with ⟨rfl, hn⟩ | h
    · exact .inr ((H1.out.kr x hx).resolve_left hn)
    · exact .inr ((hB.grow hbd.size).up x (h x hx))
  have hO := H1.out.r.own.lay H1.out.r.len hp ho2 hd2 Hm.out (hm2'.mono fun _ _ _ h => h.1) (by decide) (hB.grow hbd.size).le
  have hcl : p + 1 ≤ c2 := ho2.len.1
  have hdu : ∀ x ∈ cs.take p ++ [⟨kind, ⟨ad, cd, l⟩, false⟩], RowIn K x.d.a x.d.l.length x.d.c := by
    intro x hx
    rcases List.mem_append.1 hx with hx | hx
    · exact H1.out.du x (List.mem_of_mem_take hx)
    · rw [List.mem_singleton.1 hx]
      have := hd2
      rw [Hm.out] at this
      exact this.rowIn fun b h1 _ => (hB.grow hbd.size).up b h1
  have HF : Hid (DrvAt B K w2 d g (M.lay p ⟨kind, l, false⟩) (p : Int) a2 (p + 1) c2 (cs.take p ++ [⟨kind, ⟨ad, cd, l⟩, false⟩])) := Lib.hid ⟨hlow, hkd, hg2, ⟨hO, by rw [List.length_append, List.length_take, H1.out.r.len, Nat.min_eq_left hp]; rfl, by
    have := H1.out.r.pls
    unfold pls at this ⊢
    rw [List.map_append, List.map_take, this]; rfl⟩, hcl, hkr, hdu⟩
  have HM : Hid (Mod (TF B K) w w2) := Lib.hid ((bmod hbd _).trans (hm2'.mono fun b T _ hf => by
    rcases hf with ⟨⟨rfl, rfl⟩ | ⟨rfl, h1, h2⟩, hz⟩
    · exact TF_d hlow hkd
    · exact TF_c h1 ((H1.out.kr b h2).resolve_left (hz rfl))))
  clear hO hg2 ho2 hd2 hm2' d2 hwh hkr hdu
  go_wp2
  go_end0
  exact ⟨rfl, a2, c2, _, HF.out, HM.out⟩

theorem DrvAt.set1 (h : DrvAt B K w d g M at_ a k c cs) {M' : Med} {a' : Option Addr} {k' c' : Nat} {cs' : List CellV} (hr : MedR w B M' a' k' c' cs') (hc : k' ≤ c') (hcap : M'.cap = M.cap) (hkr : RowIn K a' k' c') (hdu : ∀ x ∈ cs', RowIn K x.d.a x.d.l.length x.d.c) : DrvAt B K (w.setCell ⟨d, 1, none⟩ (.slice a' k' c')) d g M' at_ a' k' c' cs' ∧ Mod (TF B K) w (w.setCell ⟨d, 1, none⟩ (.slice a' k' c')) := by
  have hm := (Mod.refl (fun b T => T = 61) w).setCell h.obj rfl 1 (.slice a' k' c')
  refine ⟨⟨h.low, h.kd, ?_, ⟨hr.own.mod hm fun b T hf => ⟨fun h => by subst hf; revert h; decide, fun h => by subst hf; revert h; decide⟩, hr.len, hr.pls⟩, hc, hkr, hdu⟩, (Mod.refl (TF B K) w).setCell h.obj (TF_d h.low h.kd) 1 _⟩
  rw [hcap]
  exact heap_setCell_same w d 1 _ _ (.slice a' k' c') h.obj
theorem DrvAt.set2 (h : DrvAt B K w d g M at_ a k c cs) (q : Int) : DrvAt B K (w.setCell ⟨d, 2, none⟩ (.int .i64 q)) d g M q a k c cs ∧ Mod (TF B K) w (w.setCell ⟨d, 2, none⟩ (.int .i64 q)) := by
  have hm := (Mod.refl (fun b T => T = 61) w).setCell h.obj rfl 2 (.int .i64 q)
  exact ⟨⟨h.low, h.kd, heap_setCell_same w d 2 _ _ (.int .i64 q) h.obj, ⟨h.r.own.mod hm fun b T hf => ⟨fun h => by subst hf; revert h; decide, fun h => by subst hf; revert h; decide⟩, h.r.len, h.r.pls⟩, h.cap, h.kr, h.du⟩, (Mod.refl (TF B K) w).setCell h.obj (TF_d h.low h.kd) 2 _⟩

end Go.Proofs.Ytmaagkdehdmhlaa

/- A drive's tape: read. -/
namespace Go.Proofs.Ytmaagkdehdmhlaa
open Go.RowKit

variable {B : Nat} {K : Nat → Prop} {w w' : World} {d g : Nat} {M : Med} {at_ : Int} {a : Option Addr} {k c : Nat} {cs : List CellV}
theorem Badd.rel : Trel (fun w1 w2 : World => Below w1.heap.size w1 w2) := ⟨fun h k => bthen h k (Nat.le_refl _), fun h => h⟩
theorem look_err (m : Med) (p : Int) : (m.look p).2 = 0 ∨ (m.look p).2 = 6 ∨ (m.look p).2 = 15 ∨ (m.look p).2 = 8 := by
  unfold Med.look
  split
  · exact .inr (.inr (.inr rfl))
  · split
    · exact .inr (.inr (.inr rfl))
    · split
      · exact .inr (.inr (.inl rfl))
      split
      · exact .inr (.inl rfl)
      · exact .inl rfl
set_option maxRecDepth 100000 in
set_option maxHeartbeats 4000000 in
theorem drv_read0 (n : Nat) (l : List Byte) (Er : Int) (w : World) (h : DrvAt B K w d g M at_ a k c cs) (hB : B ≤ w.heap.size) (hx : ∀ x ∈ cs, x.d.l.length ≤ 140737488355328) (hr : M.look at_ = (l, Er)) (hn : n = l.length) (ha0 : -9223372036854775808 ≤ at_) (ha1 : at_ ≤ 9223372036854775806) :
    Calls Try.prog 61 #[.pointer (some ⟨d, 0, none⟩)] w fun e w' => ∃ a' c', e = .returned (.tuple #[.slice a' n c', .int .i64 Er]) ∧ Own w' w.heap.size 5 1 a' n c' (bvs l) ∧ DrvAt B K w' d g M (if Er = 8 then at_ else at_ + 1) a k c cs ∧ Mod (TF B K) w w' := by
  have HD := Lib.hid h
  have Hx := Lib.hid hx
  have HRd : Hid ((medOf M.cap cs).look at_ = (l, Er)) := Lib.hid (by rw [h.of]; exact hr)
  have Hn := Lib.hid hn
  have hk63 := h.len63
  have hdl := heap_lt h.obj
  have hE : Er = 0 ∨ Er = 6 ∨ Er = 15 ∨ Er = 8 := by have := look_err M at_; rw [hr] at this; exact this
  obtain ⟨d0, d1, d2, d3⟩ := h.cells
  clear h hx hr hn d3
  go_enter Try.func61, Try.ntmps61
  go_wp2_with fail
  refine wp_region_chainL (by kernel_rfl) [12, 13] (Badd.rel) [SpT.eq (.pointer (some ⟨d, 0, none⟩)), SpT.eq (.pointer (some ⟨d, 0, none⟩)), SpT.eq (.pointer (some ⟨d, 0, none⟩)), SpT.eq (.agg #[.int .i64 M.cap, .slice a k c]), SpT.eq (.pointer (some ⟨d, 0, none⟩)), SpT.eq (.pointer (some ⟨d, 0, none⟩)), SpT.eq (.pointer (some ⟨d, 2, none⟩)), SpT.eq (.int .i64 at_), ⟨fun w' v => ∃ (a' : Option Addr) (c' : Nat), v = .tuple #[.slice a' n c', .int .i64 Er] ∧ Own w' w.heap.size 5 1 a' n c' (bvs l), fun _ _ _ ⟨a', c', h, ho⟩ hb => ⟨a', c', h, ho.ext hb⟩⟩, ⟨fun w' v => ∃ (a' : Option Addr) (c' : Nat), v = .tuple #[.slice a' n c', .int .i64 Er] ∧ Own w' w.heap.size 5 1 a' n c' (bvs l), fun _ _ _ ⟨a', c', h, ho⟩ hb => ⟨a', c', h, ho.ext hb⟩⟩, ⟨fun w' v => ∃ (a' : Option Addr) (c' : Nat), v = .slice a' n c' ∧ Own w' w.heap.size 5 1 a' n c' (bvs l), fun _ _ _ ⟨a', c', h, ho⟩ hb => ⟨a', c', h, ho.ext hb⟩⟩, SpT.eq (.int .i64 Er), SpT.top, SpT.top] (by kernel_rfl) (by kernel_rfl) (by kernel_rfl) (by kernel_rfl) ?_ ?_
  · refine stepsL_free rfl ?_ (stepsL_free rfl ?_ (stepsL_free rfl ?_ (stepsL_free rfl ?_ (stepsL_free rfl ?_ (stepsL_free rfl ?_ (stepsL_free rfl ?_ (stepsL_free rfl ?_ (stepsL_free rfl ?_ (stepsL_free rfl ?_ (stepsL_free rfl ?_ (stepsL_free rfl ?_ (stepsL_chain rfl (stepsL_chain rfl (stepsL_nil))))))))))))))
    · intro ρ w' E
      have e0 : ρ (.tmp 0) = .pointer (some ⟨d, 0, none⟩) := E.out 0 rfl
      refine step_plain rfl ?_
      exact op_move (.inl rfl) e0 ⟨Below.refl _ _, rfl⟩
    · intro ρ w' E
      have e7 : ρ (.tmp 7) = .pointer (some ⟨d, 0, none⟩) := E.pre 0 rfl rfl
      refine step_plain rfl ?_
      refine op_val (v := .pointer (some ⟨d, 0, none⟩)) (w' := w') ?_ ⟨Below.refl _ _, rfl⟩
      have hcon := E.con
      clear E
      go_simp
    · intro ρ w' E
      have e8 : ρ (.tmp 8) = .pointer (some ⟨d, 0, none⟩) := E.pre 1 rfl rfl
      refine step_plain rfl ?_
      refine op_val (v := .pointer (some ⟨d, 0, none⟩)) (w' := w') ?_ ⟨Below.refl _ _, rfl⟩
      have hcon := E.con
      clear E
      go_simp
    · intro ρ w' E
      have e9 : ρ (.tmp 9) = .pointer (some ⟨d, 0, none⟩) := E.pre 2 rfl rfl
      refine step_plain rfl ?_
      refine op_val (v := .agg #[.int .i64 M.cap, .slice a k c]) (w' := w') ?_ ⟨Below.refl _ _, rfl⟩
      have k0 := (World.cell?_of_block (w := w) (E.t.block _ hdl)).trans d0
      have k1 := (World.cell?_of_block (w := w) (E.t.block _ hdl)).trans d1
      have hcon := E.con
      clear E d0 d1 d2
      go_simp
    · intro ρ w' E
      have e0 : ρ (.tmp 0) = .pointer (some ⟨d, 0, none⟩) := E.out 0 rfl
      refine step_plain rfl ?_
      exact op_move (.inl rfl) e0 ⟨Below.refl _ _, rfl⟩
    · intro ρ w' E
      have e11 : ρ (.tmp 11) = .pointer (some ⟨d, 0, none⟩) := E.pre 4 rfl rfl
      refine step_plain rfl ?_
      refine op_val (v := .pointer (some ⟨d, 0, none⟩)) (w' := w') ?_ ⟨Below.refl _ _, rfl⟩
      have hcon := E.con
      clear E
      go_simp
    · intro ρ w' E
      have e12 : ρ (.tmp 12) = .pointer (some ⟨d, 0, none⟩) := E.pre 5 rfl rfl
      refine step_plain rfl ?_
      refine op_val (v := .pointer (some ⟨d, 2, none⟩)) (w' := w') ?_ ⟨Below.refl _ _, rfl⟩
      have hcon := E.con
      clear E
      go_simp
    · intro ρ w' E
      have e13 : ρ (.tmp 13) = .pointer (some ⟨d, 2, none⟩) := E.pre 6 rfl rfl
      refine step_plain rfl ?_
      refine op_val (v := .int .i64 at_) (w' := w') ?_ ⟨Below.refl _ _, rfl⟩
      have k0 := (World.cell?_of_block (w := w) (E.t.block _ hdl)).trans d2
      have hcon := E.con
      clear E d0 d1 d2
      go_simp
    · intro ρ w' E
      have e10 : ρ (.tmp 10) = .agg #[.int .i64 M.cap, .slice a k c] := E.pre 3 rfl rfl
      have e14 : ρ (.tmp 14) = .int .i64 at_ := E.pre 7 rfl rfl
      refine step_plain rfl ?_
      refine op_call (f := 72) (args := #[.agg #[.int .i64 M.cap, .slice a k c], .int .i64 at_]) (w' := w') (by have hcon := E.con; have hfn := E.fn; clear E d0 d1 d2; go_simp) ?_
      refine (look_any M.cap a c k cs at_ l Er w' (HD.out.r.mat.ext E.t) HD.out.r.len.symm hk63 Hx.out HRd.out).mono ?_
      rintro e wz ⟨a', c', n', rfl, hn', ho', hb'⟩
      obtain rfl : n = n' := Hn.out.trans hn'.symm
      exact ⟨_, rfl, hb', a', c', rfl, ho'.mono E.t.size⟩
    · intro ρ w' E
      have p15 : (fun w' v => ∃ (a' : Option Addr) (c' : Nat), v = .tuple #[.slice a' n c', .int .i64 Er] ∧ Own w' w.heap.size 5 1 a' n c' (bvs l)) w' (ρ (.tmp 15)) := E.pre 8 rfl rfl
      refine step_plain rfl ?_
      exact op_move (.inl rfl) rfl ⟨Below.refl _ _, p15⟩
    · intro ρ w' E
      have p6 : (fun w' v => ∃ (a' : Option Addr) (c' : Nat), v = .tuple #[.slice a' n c', .int .i64 Er] ∧ Own w' w.heap.size 5 1 a' n c' (bvs l)) w' (ρ (.tmp 6)) := E.pre 9 rfl rfl
      refine step_plain rfl ?_
      obtain ⟨a', c', e6, ho⟩ := p6
      refine op_val (v := .slice a' n c') (w' := w') (by have hcon := E.con; clear E d0 d1 d2; go_simp) ⟨Below.refl _ _, a', c', rfl, ho⟩
    · intro ρ w' E
      have p6 : (fun w' v => ∃ (a' : Option Addr) (c' : Nat), v = .tuple #[.slice a' n c', .int .i64 Er] ∧ Own w' w.heap.size 5 1 a' n c' (bvs l)) w' (ρ (.tmp 6)) := E.pre 9 rfl rfl
      refine step_plain rfl ?_
      refine op_val (v := .int .i64 Er) (w' := w') ?_ ⟨Below.refl _ _, rfl⟩
      obtain ⟨a', c', e6, ho⟩ := p6
      have hcon := E.con
      clear E d0 d1 d2
      go_simp
  · intro ρ1 w1c G1 E1
    have p16 : (fun w' v => ∃ (a' : Option Addr) (c' : Nat), v = .slice a' n c' ∧ Own w' w.heap.size 5 1 a' n c' (bvs l)) w1c (ρ1 (.tmp 16)) := E1.pre 10 rfl rfl
    refine step_plain rfl ?_
    obtain ⟨a4, c4, e16, ho4⟩ := p16
    refine op_move (.inr rfl) e16 ⟨Below.refl _ _, ?_⟩
    intro ρ2 w2c G2 E2
    have e17 : ρ2 (.tmp 17) = .int .i64 Er := E2.pre 11 rfl rfl
    refine step_plain rfl ?_
    refine op_move (.inr rfl) e17 ⟨trivial, ?_⟩
    intro σ w2 GF hκ
    have h4 : σ 4 = .slice a4 n c4 := hκ 12 4 rfl rfl
    have h5 : σ 5 = .int .i64 Er := hκ 13 5 rfl rfl
    simp only [upd, updL, dstsOf', elemB, List.filterMap_cons, List.filterMap_nil, Nat.reduceAdd, Nat.reduceBEq, Bool.or_false, Bool.false_or, Bool.or_true, Bool.true_or, cond_true, cond_false, Nat.zero_add, h4, h5]
    have hb := bthen (bthen G1 G2 (Nat.le_refl _)) GF (Nat.le_refl _)
    have ho4 := (ho4.ext G2).ext GF
    have h2 := HD.out.ext hb
    have Hb := Lib.hid hb
    have Ho := Lib.hid ho4
    clear d0 d1 d2 hb ho4 h4 h5 G1 G2 GF hκ E1 E2 e17
    by_cases h8 : Er = 8
    · subst h8
      have H2 := Lib.hid h2
      clear h2 hE
      go_wp2
      go_ret2
      exact ⟨a4, c4, rfl, Ho.out, by first | exact H2.out | (rw [if_pos rfl]; exact H2.out), bmod Hb.out _⟩
    · obtain ⟨hF, hm⟩ := h2.set2 (at_ + 1)
      obtain ⟨d0, d1, d2, d3⟩ := h2.cells
      have hfz := frozen_of_row w2 d 2 _ _ h2.obj
      have H8 := Lib.hid h8
      have HF := Lib.hid hF
      have HM := Lib.hid ((bmod Hb.out (TF B K)).trans hm)
      have Ho2 := Lib.hid (Ho.out.mod ((Mod.refl (fun b T => T = 61) w2).setCell h2.obj rfl 2 (.int .i64 (at_ + 1))) fun _ _ _ hf => absurd (show 5 = 61 from hf) (by decide))
      clear hF hm h2 d0 d1 d3
      rcases hE with rfl | rfl | rfl | rfl
      · clear h8
        go_wp2
        go_ret2
        exact ⟨a4, c4, rfl, Ho2.out, by first | exact HF.out | (rw [if_neg H8.out]; exact HF.out), HM.out⟩
      · clear h8
        go_wp2
        go_ret2
        exact ⟨a4, c4, rfl, Ho2.out, by first | exact HF.out | (rw [if_neg H8.out]; exact HF.out), HM.out⟩
      · clear h8
        go_wp2
        go_ret2
        exact ⟨a4, c4, rfl, Ho2.out, by first | exact HF.out | (rw [if_neg H8.out]; exact HF.out), HM.out⟩
      · exact absurd rfl h8
end Go.Proofs.Ytmaagkdehdmhlaa
