/- Several texts of this claim, one behind the other: PowWakes, Drv, DrvLay. -/
import Derived.Test.YtclkkhpnnbkfmaaPow
import Derived.Test.YtclkkhpnnbkfmaaVolumeBackPartH
import Derived.Test.YtclkkhpnnbkfmaaMedTwin
import Derived.Test.YtclkkhpnnbkfmaaRegion
import Derived.Test.YtclkkhpnnbkfmaaVolumeBackPartE
import Derived.StillTailTactics
/- power: the contracts with their answers as variables. -/
namespace Go.Proofs.Ytclkkhpnnbkfmaa
open Go.RowKit

theorem spend_some (L : Int) (K : List Bool) (T n : Int) (k : List Bool) (t : Int) : (PS.mk false L K T (some (n, k, t))).spend = if 1 < n then (true, ⟨false, L, K, T, some (n - 1, k, t)⟩) else (false, ⟨true, L, k, t, none⟩) := rfl
theorem spend_at {B g : Nat} {s s' : PS} {r : Bool} {w : World} (hB : B ≤ w.heap.size) (hp : Pow B w g s) (hs : s.spend = (r, s')) :
    Calls Try.prog 92 #[.pointer (some ⟨g, 0, none⟩)] w fun e w' => e = .returned (.bool r) ∧ Pow B w' g s' ∧ Mod (PF B) w w' := by
  have h := power_spend B g s w hB hp
  rw [hs] at h
  exact h
theorem start_at {B g : Nat} {s s' : PS} {w : World} (hp : Pow B w g s) (hs : s.start = s') (hl0 : 0 ≤ s.life) (hl1 : s.life ≤ 4611686018427387904) :
    Calls Try.prog 36 #[.pointer (some ⟨g, 0, none⟩)] w fun e w' => e = .returned (.tuple #[]) ∧ Pow B w' g s' ∧ Mod (PF B) w w' := by
  subst hs; exact power_start B g s w hp hl0 hl1
theorem arm_nil {B g : Nat} {s s' : PS} {n t : Int} {w : World} (hB : B ≤ w.heap.size) (hp : Pow B w g s) (hs : s.arm n [] t = s') (hn : n ≤ 9223372036854775807) :
    Calls Try.prog 38 #[.pointer (some ⟨g, 0, none⟩), .int .i64 n, .slice none 0 0, .int .i64 t] w fun e w' => e = .returned (.tuple #[]) ∧ Pow B w' g s' ∧ Mod (PF B) w w' := by
  subst hs; exact power_arm B g s none 0 0 [] n t w hB hp (Src.nil _ _) rfl (by omega) hn
theorem cut_nil {B g : Nat} {s s' : PS} {t : Int} {w : World} (hB : B ≤ w.heap.size) (hp : Pow B w g s) (hs : s.cut [] t = s') :
    Calls Try.prog 34 #[.pointer (some ⟨g, 0, none⟩), .slice none 0 0, .int .i64 t] w fun e w' => e = .returned (.tuple #[]) ∧ Pow B w' g s' ∧ Mod (PF B) w w' := by
  subst hs; exact power_cut B g s none 0 0 [] t w hB hp (Src.nil _ _) rfl (by omega)
theorem off_at {B g : Nat} {s : PS} {r : Bool} {w : World} (hp : Pow B w g s) (hs : s.off = r) :
    Calls Try.prog 89 #[.pointer (some ⟨g, 0, none⟩)] w fun e w' => e = .returned (.bool r) ∧ w = w' := by subst hs; exact power_off B g s w hp
theorem life_at {B g : Nat} {s : PS} {r : Int} {w : World} (hp : Pow B w g s) (hs : s.life = r) :
    Calls Try.prog 103 #[.pointer (some ⟨g, 0, none⟩)] w fun e w' => e = .returned (.int .i64 r) ∧ w = w' := by subst hs; exact power_life B g s w hp
theorem torn_at {B g : Nat} {s : PS} {r : Int} {w : World} (hp : Pow B w g s) (hs : s.torn = r) :
    Calls Try.prog 93 #[.pointer (some ⟨g, 0, none⟩)] w fun e w' => e = .returned (.int .i64 r) ∧ w = w' := by subst hs; exact power_torn B g s w hp
theorem kept_at {B g : Nat} {s : PS} {k : Int} {r : Bool} {w : World} (hp : Pow B w g s) (hs : s.kept k = r) :
    Calls Try.prog 127 #[.pointer (some ⟨g, 0, none⟩), .int .i64 k] w fun e w' => e = .returned (.bool r) ∧ w = w' := by subst hs; exact power_kept B g s k w hp

end Go.Proofs.Ytclkkhpnnbkfmaa

/- drive.Drive as it lies; its tape's small methods. -/
namespace Go.Proofs.Ytclkkhpnnbkfmaa
open Go.RowKit

def TT : List TypeId := [88, 74]
/-- What a drive's methods may write. -/
abbrev VF (B : Nat) (K : Nat → Prop) : Nat → TypeId → Prop := fun b T => B ≤ b ∧ (T ∈ PT ∨ (K b ∧ T ∈ TT))
theorem PF.vf {B : Nat} {K : Nat → Prop} {w w' : World} (h : Mod (PF B) w w') : Mod (VF B K) w w' := h.mono fun b T _ hf => ⟨hf.1, .inl hf.2⟩
theorem VF_no_u8 {B : Nat} {K : Nat → Prop} (b : Nat) : ¬ VF B K b 5 := by
  rintro ⟨_, h | ⟨_, h⟩⟩ <;> revert h <;> decide
/-- What a drive's tape's methods may write. -/
abbrev TF (B : Nat) (K : Nat → Prop) : Nat → TypeId → Prop := fun b T => B ≤ b ∧ K b ∧ T ∈ TT
theorem TF.vf {B : Nat} {K : Nat → Prop} {w w' : World} (h : Mod (TF B K) w w') : Mod (VF B K) w w' := h.mono fun b T _ hf => ⟨hf.1, .inr hf.2⟩
theorem TF_d {B g : Nat} {K : Nat → Prop} (h : B ≤ g) (k : K g) : TF B K g 88 := ⟨h, k, by decide⟩
theorem TF_c {B g : Nat} {K : Nat → Prop} (h : B ≤ g) (k : K g) : TF B K g 74 := ⟨h, k, by decide⟩
theorem Pow.tf {B B' : Nat} {K : Nat → Prop} {w w' : World} {g : Nat} {s : PS} (h : Pow B w g s) (hm : Mod (TF B' K) w w') : Pow B w' g s := h.mod hm (by
  rintro b T ⟨_, _, hT⟩
  simp only [TT, List.mem_cons, List.not_mem_nil, or_false] at hT
  rcases hT with rfl | rfl <;> decide)
/-- Of a slice's row: it lies in K, where there is one. -/
def RowIn (K : Nat → Prop) (a : Option Addr) (k c : Nat) : Prop := ∀ x, a = some ⟨x, 0, none⟩ → (k = 0 ∧ c = 0) ∨ K x
theorem Own.rowIn {w : World} {W : Nat} {T : TypeId} {e : Nat} {a : Option Addr} {k c : Nat} {xs : List Value} {K : Nat → Prop} (h : Own w W T e a k c xs) (hK : ∀ b, W ≤ b → b < w.heap.size → K b) : RowIn K a k c := fun x hx => by
  obtain ⟨_, h0 | ⟨g', cur, ha, hg', hh, _⟩⟩ := h
  · exact .inl h0
  · rw [ha] at hx
    simp only [Option.some.injEq, Addr.mk.injEq, and_true] at hx
    subst hx
    exact .inr (hK _ hg' (heap_lt hh))
theorem Own.rowInAnd {w : World} {W : Nat} {T : TypeId} {e : Nat} {a : Option Addr} {k c : Nat} {xs : List Value} {K K' : Nat → Prop} (h : Own w W T e a k c xs) (hr : RowIn K a k c) (hK : ∀ b, W ≤ b → b < w.heap.size → K b → K' b) : RowIn K' a k c := fun x hx => by
  rcases hr x hx with h0 | hk
  · exact .inl h0
  · rcases h.rowIn (K := fun b => W ≤ b ∧ b < w.heap.size) (fun b h1 h2 => ⟨h1, h2⟩) x hx with h0 | h1
    · exact .inl h0
    · exact .inr (hK _ h1.1 h1.2 hk)
/-- New blocks are in K. -/
structure Up (B : Nat) (K : Nat → Prop) (w : World) : Prop where
  le : B ≤ w.heap.size
  up : ∀ b, w.heap.size ≤ b → K b
theorem Up.grow {B : Nat} {K : Nat → Prop} {w w' : World} (h : Up B K w) (hs : w.heap.size ≤ w'.heap.size) : Up B K w' := ⟨Nat.le_trans h.le hs, fun b hb => h.up b (Nat.le_trans hs hb)⟩
abbrev AllK : Nat → Prop := fun _ => True
theorem Up.all {B : Nat} {w : World} (h : B ≤ w.heap.size) : Up B AllK w := ⟨h, fun _ _ => trivial⟩
/-- In block d stands a drive, of the power in block g, with the tape M, all of whose memory lies from B on. -/
structure DrvAt (B : Nat) (K : Nat → Prop) (w : World) (d g : Nat) (M : Med) (at_ : Int) (a : Option Addr) (k c : Nat) (cs : List CellV) : Prop where
  low : B ≤ d
  kd : K d
  obj : w.heap[d]? = some (.cells #[.int .i64 M.cap, .slice a k c, .int .i64 at_, .pointer (some ⟨g, 0, none⟩)] 88 (0, 0))
  r : MedR w B M a k c cs
  cap : k ≤ c
  kr : RowIn K a k c
  du : ∀ x ∈ cs, RowIn K x.d.a x.d.l.length x.d.c
variable {B : Nat} {K : Nat → Prop} {w w' : World} {d g : Nat} {M : Med} {at_ : Int} {a : Option Addr} {k c : Nat} {cs : List CellV}
theorem DrvAt.cells (h : DrvAt B K w d g M at_ a k c cs) : w.cell? ⟨d, 0, none⟩ = some (.int .i64 M.cap) ∧ w.cell? ⟨d, 1, none⟩ = some (.slice a k c) ∧ w.cell? ⟨d, 2, none⟩ = some (.int .i64 at_) ∧ w.cell? ⟨d, 3, none⟩ = some (.pointer (some ⟨g, 0, none⟩)) :=
  ⟨cell_of_row w d 0 _ _ _ h.obj, cell_of_row w d 1 _ _ _ h.obj, cell_of_row w d 2 _ _ _ h.obj, cell_of_row w d 3 _ _ _ h.obj⟩
theorem DrvAt.ext (h : DrvAt B K w d g M at_ a k c cs) (hb : Below w.heap.size w w') : DrvAt B K w' d g M at_ a k c cs := ⟨h.low, h.kd, (hb.block d (heap_lt h.obj)).trans h.obj, h.r.ext hb, h.cap, h.kr, h.du⟩
theorem DrvAt.mod {F : Nat → TypeId → Prop} (h : DrvAt B K w d g M at_ a k c cs) (hm : Mod F w w') (hF : ∀ b T, F b T → T ≠ 88 ∧ T ≠ 74 ∧ T ≠ 5) : DrvAt B K w' d g M at_ a k c cs :=
  ⟨h.low, h.kd, hm.keep h.obj fun hf => (hF _ _ hf).1 rfl, ⟨h.r.own.mod hm fun b T hf => ⟨(hF b T hf).2.1, (hF b T hf).2.2⟩, h.r.len, h.r.pls⟩, h.cap, h.kr, h.du⟩
theorem DrvAt.pf {B' : Nat} (h : DrvAt B K w d g M at_ a k c cs) (hm : Mod (PF B') w w') : DrvAt B K w' d g M at_ a k c cs := h.mod hm (by
  rintro b T ⟨_, hT⟩
  simp only [PT, List.mem_cons, List.not_mem_nil, or_false] at hT
  rcases hT with rfl | rfl <;> decide)
theorem DrvAt.of (h : DrvAt B K w d g M at_ a k c cs) : medOf M.cap cs = M := h.r.of
theorem DrvAt.len63 (h : DrvAt B K w d g M at_ a k c cs) : k ≤ 9223372036854775807 := by
  have h1 := h.r.own.row.len
  rw [h.r.len] at h1
  have h2 := h1.2
  unfold maxLen at h2
  omega
theorem DrvAt.short (h : DrvAt B K w d g M at_ a k c cs) {K : Nat} (hK : ∀ c ∈ M.cells, c.data.length ≤ K) : ∀ x ∈ cs, x.d.l.length ≤ K := short_of h.r.pls hK

theorem drv_place (w : World) (h : DrvAt B K w d g M at_ a k c cs) :
    Calls Try.prog 42 #[.pointer (some ⟨d, 0, none⟩)] w fun e w' => e = .returned (.int .i64 at_) ∧ w = w' := by
  obtain ⟨d0, d1, d2, d3⟩ := h.cells
  clear h
  go_enter Try.func42, Try.ntmps42
  go_wp2
  go_ret
  exact ⟨rfl, rfl⟩
set_option maxRecDepth 100000 in
set_option maxHeartbeats 1000000 in
theorem drv_medium (w : World) (h : DrvAt B K w d g M at_ a k c cs) (hk : k ≤ 100000) (hx : ∀ x ∈ cs, x.d.l.length ≤ 140737488355328) :
    Calls Try.prog 77 #[.pointer (some ⟨d, 0, none⟩)] w fun e w' => ∃ a' c' cs', e = .returned (.agg #[.int .i64 M.cap, .slice a' k c']) ∧ MedR w' w.heap.size M a' k c' cs' ∧ k ≤ c' ∧ Below w.heap.size w w' := by
  have H := Lib.hid h
  have Hx := Lib.hid hx
  have hz := heap_alloc_new w (.cells #[.int .i64 0, .slice none 0 0] 31)
  have hb := ext_alloc w (.cells #[.int .i64 0, .slice none 0 0] 31)
  obtain ⟨d0, d1, d2, d3⟩ := (h.ext hb).cells
  clear h hx d2 d3
  go_enter Try.func77, Try.ntmps77
  go_wp2_with fail
  clear d0 d1
  refine (med_twin M.cap a c k cs _ (H.out.r.mat.ext hb) H.out.r.len.symm hk Hx.out).mono ?_
  rintro e w2 ⟨a2, c2, cs2, rfl, hl2, ho2, hp2, hb2⟩
  have g2 := (hb2.block _ (heap_lt hz)).trans hz
  have hM : MedR w2 w.heap.size M a2 k c2 cs2 := ⟨ho2.mono hb.size, hl2, hp2.trans H.out.r.pls⟩
  have HM := Lib.hid (hM.setRow (new := #[.int .i64 M.cap, .slice a2 k c2]) g2)
  have Hc := Lib.hid (show k ≤ c2 by have := ho2.row.len.1; rw [hl2] at this; exact this)
  have hg := setRow_heap w2 w.heap.size _ #[.int .i64 M.cap, .slice a2 k c2] _ _ g2
  have hbF := bsetRow (bthen hb hb2 (Nat.le_refl _)) (Nat.le_refl _) #[.int .i64 M.cap, .slice a2 k c2]
  clear hM ho2 hp2 hb2
  go_wp2_with (refine wpList_store_row rfl rfl 31 (.tmp 2) (.tmp 7) rfl w.heap.size rfl 31 #[.int .i64 0, .slice none 0 0] #[.int .i64 M.cap, .slice a2 k c2] rfl g2 rfl (by kernel_rfl) (by simp [Value.oneCell']) ?_)
  exact bodyPost_ret (v := .agg _) (results_cell_row (p := 2) rfl _ _ w.heap.size _ #[.int .i64 M.cap, .slice a2 k c2] _ _ rfl hg Try.underlying31 rfl (by kernel_rfl)) rfl
    ⟨a2, c2, cs2, rfl, HM.out, Hc.out, hbF⟩
end Go.Proofs.Ytclkkhpnnbkfmaa

/- A drive's tape: lay, end, Load. -/
namespace Go.Proofs.Ytclkkhpnnbkfmaa
open Go.RowKit

theorem OwnM.lay {W w' : World} {B p k c c' cd m g : Nat} {a a' ad : Option Addr} {cs : List CellV} {kind : Int} {l : List Byte} {T0 : TypeId} (h : OwnM W B a c cs) (hl : cs.length = k) (hp : p ≤ k)
    (hrow : Own w' B 74 3 a' (p + 1) c' (flt CellV.cells (cs.take p ++ [⟨kind, ⟨ad, cd, l⟩, false⟩]))) (hd : Own w' W.heap.size 5 1 ad m cd (bvs l)) (hm : m = l.length) (hmod : Mod (LF B g T0 a) W w') (hT8 : T0 ≠ 5) (hB : B ≤ W.heap.size) :
    OwnM w' B a' c' (cs.take p ++ [⟨kind, ⟨ad, cd, l⟩, false⟩]) := by
  subst hm
  refine ⟨?_, fun y hy => ?_, Apart.snoc (w := W) (w' := w') (B0 := B) (B := W.heap.size) (h.apart.sublist (List.take_sublist _ _)) (fun y hy => h.dat y (List.mem_of_mem_take hy)) hd (Nat.le_refl _)⟩
  · rw [List.length_append, List.length_take, hl, Nat.min_eq_left hp]
    exact hrow
  · rcases List.mem_append.1 hy with hy | hy
    · refine (h.dat y (List.mem_of_mem_take hy)).mod hmod fun b _ _ hf => ?_
      rcases hf with ⟨_, h⟩ | ⟨h, _⟩
      · exact hT8 h.symm
      · revert h; decide
    · rw [List.mem_singleton.1 hy]
      exact hd.mono hB
variable {B : Nat} {K : Nat → Prop} {w w' : World} {d g : Nat} {M : Med} {at_ : Int} {a : Option Addr} {k c : Nat} {cs : List CellV}

set_option maxRecDepth 100000 in
set_option maxHeartbeats 4000000 in
theorem drv_lay (p : Nat) (kind : Int) (ab : Option Addr) (m cb : Nat) (l : List Byte) (w : World) (h : DrvAt B K w d g M (p : Int) a k c cs) (hB : Up B K w) (hp : p ≤ k) (hk : k ≤ 90000) (hsb : Src w ab (bvs l)) (hm : m = l.length) (hm2 : m ≤ 140737488355328) :
    Calls Try.prog 94 #[.pointer (some ⟨d, 0, none⟩), .int .i64 kind, .slice ab m cb] w fun e w' => e = .returned (.tuple #[]) ∧ ∃ a' c' cs', DrvAt B K w' d g (M.lay p ⟨kind, l, false⟩) (p : Int) a' (p + 1) c' cs' ∧ Mod (TF B K) w w' := by
  have hbd := ext_drewN w 1 w.heap.size
  have H := Lib.hid h
  have H1 := Lib.hid (h.ext hbd)
  have Hsb := Lib.hid (hsb.ext hbd)
  have Hm := Lib.hid hm
  have hlow := h.low
  have hkd := h.kd
  obtain ⟨d0, d1, d2, d3⟩ := h.cells
  clear h hsb hm d0 d1 d3
  go_enter Try.func94, Try.ntmps94
  go_wp2_with fail
  go_still_tail 9, (by kernel_rfl)
  go_wp2_with fail
  refine (lay_any B d 0 p k c a cs _ _ kind ab m cb l (w.drewN 1) H1.out.obj (by decide) (by decide) H1.out.cells.2.1 (by have := H1.out.r.own.row; rw [H1.out.r.len] at this; exact this) H1.out.r.len.symm (by omega) hp Hsb.out Hm.out hm2 (hB.grow hbd.size).le).mono ?_
  rintro e w2 ⟨rfl, a2, c2, ad, cd, hg2, ho2, hd2, hm2', hwh⟩
  have hkr : RowIn K a2 (p + 1) c2 := by
    intro x hx
    rcases hwh with ⟨rfl, hn⟩ | h
    · exact .inr ((H1.out.kr x hx).resolve_left hn)
    · exact .inr ((hB.grow hbd.size).up x (h x hx))
  have hO := H1.out.r.own.lay H1.out.r.len hp ho2 hd2 Hm.out (hm2'.mono fun _ _ _ h => h.1) (by decide) (hB.grow hbd.size).le
  have hcl : p + 1 ≤ c2 := ho2.len.1
  have hdu : ∀ x ∈ cs.take p ++ [⟨kind, ⟨ad, cd, l⟩, false⟩], RowIn K x.d.a x.d.l.length x.d.c := by
    intro x hx
    rcases List.mem_append.1 hx with hx | hx
    · exact H1.out.du x (List.mem_of_mem_take hx)
    · rw [List.mem_singleton.1 hx]
      have := hd2
      rw [Hm.out] at this
      exact this.rowIn fun b h1 _ => (hB.grow hbd.size).up b h1
  have HF : Hid (DrvAt B K w2 d g (M.lay p ⟨kind, l, false⟩) (p : Int) a2 (p + 1) c2 (cs.take p ++ [⟨kind, ⟨ad, cd, l⟩, false⟩])) := Lib.hid ⟨hlow, hkd, hg2, ⟨hO, by rw [List.length_append, List.length_take, H1.out.r.len, Nat.min_eq_left hp]; rfl, by
    have := H1.out.r.pls
    unfold pls at this ⊢
    rw [List.map_append, List.map_take, this]; rfl⟩, hcl, hkr, hdu⟩
  have HM : Hid (Mod (TF B K) w w2) := Lib.hid ((bmod hbd _).trans (hm2'.mono fun b T _ hf => by
    rcases hf with ⟨⟨rfl, rfl⟩ | ⟨rfl, h1, h2⟩, hz⟩
    · exact TF_d hlow hkd
    · exact TF_c h1 ((H1.out.kr b h2).resolve_left (hz rfl))))
  clear hO hg2 ho2 hd2 hm2' d2 hwh hkr hdu
  go_wp2
  go_end0
  exact ⟨rfl, a2, c2, _, HF.out, HM.out⟩

theorem DrvAt.set1 (h : DrvAt B K w d g M at_ a k c cs) {M' : Med} {a' : Option Addr} {k' c' : Nat} {cs' : List CellV} (hr : MedR w B M' a' k' c' cs') (hc : k' ≤ c') (hcap : M'.cap = M.cap) (hkr : RowIn K a' k' c') (hdu : ∀ x ∈ cs', RowIn K x.d.a x.d.l.length x.d.c) : DrvAt B K (w.setCell ⟨d, 1, none⟩ (.slice a' k' c')) d g M' at_ a' k' c' cs' ∧ Mod (TF B K) w (w.setCell ⟨d, 1, none⟩ (.slice a' k' c')) := by
  have hm := (Mod.refl (fun b T => T = 88) w).setCell h.obj rfl 1 (.slice a' k' c')
  refine ⟨⟨h.low, h.kd, ?_, ⟨hr.own.mod hm fun b T hf => ⟨fun h => by subst hf; revert h; decide, fun h => by subst hf; revert h; decide⟩, hr.len, hr.pls⟩, hc, hkr, hdu⟩, (Mod.refl (TF B K) w).setCell h.obj (TF_d h.low h.kd) 1 _⟩
  rw [hcap]
  exact heap_setCell_same w d 1 _ _ (.slice a' k' c') h.obj
theorem DrvAt.set2 (h : DrvAt B K w d g M at_ a k c cs) (q : Int) : DrvAt B K (w.setCell ⟨d, 2, none⟩ (.int .i64 q)) d g M q a k c cs ∧ Mod (TF B K) w (w.setCell ⟨d, 2, none⟩ (.int .i64 q)) := by
  have hm := (Mod.refl (fun b T => T = 88) w).setCell h.obj rfl 2 (.int .i64 q)
  exact ⟨⟨h.low, h.kd, heap_setCell_same w d 2 _ _ (.int .i64 q) h.obj, ⟨h.r.own.mod hm fun b T hf => ⟨fun h => by subst hf; revert h; decide, fun h => by subst hf; revert h; decide⟩, h.r.len, h.r.pls⟩, h.cap, h.kr, h.du⟩, (Mod.refl (TF B K) w).setCell h.obj (TF_d h.low h.kd) 2 _⟩

set_option maxRecDepth 100000 in
set_option maxHeartbeats 4000000 in
theorem drv_end (p : Nat) (w : World) (h : DrvAt B K w d g M (p : Int) a k c cs) (hp : p ≤ k) :
    Calls Try.prog 120 #[.pointer (some ⟨d, 0, none⟩)] w fun e w' => e = .returned (.tuple #[]) ∧ ∃ a' c' cs', DrvAt B K w' d g ⟨M.cap, M.cells.take p⟩ (p : Int) a' p c' cs' ∧ Mod (TF B K) w w' := by
  have H := Lib.hid h
  have hdl := heap_lt h.obj
  have hpc : (p : Int) ≤ (c : Int) := by have := h.cap; omega
  obtain ⟨d0, d1, d2, d3⟩ := h.cells
  clear h d0 d3
  go_enter Try.func120, Try.ntmps120
  go_wp2_with fail
  refine wp_region_last2 _ _ (by simp only [lastSplit, Option.map_some]; rfl) (by kernel_rfl) [Sp.eq (.pointer (some ⟨d, 0, none⟩)), Sp.eq (.pointer (some ⟨d, 0, none⟩)), Sp.eq (.pointer (some ⟨d, 0, none⟩)), Sp.eq (.pointer (some ⟨d, 0, none⟩)), Sp.eq (.pointer (some ⟨d, 1, none⟩)), Sp.eq (.slice a k c), Sp.eq (.pointer (some ⟨d, 0, none⟩)), Sp.eq (.pointer (some ⟨d, 0, none⟩)), Sp.eq (.pointer (some ⟨d, 2, none⟩)), Sp.eq (.int .i64 (p : Int)), Sp.eq (.slice a p c), Sp.eq (.pointer (some ⟨d, 0, none⟩)), Sp.eq (.pointer (some ⟨d, 0, none⟩)), Sp.eq (.pointer (some ⟨d, 1, none⟩))] (by kernel_rfl) (by kernel_rfl) ?_ ?_
  · refine stepsOk_cons ?_ (stepsOk_cons ?_ (stepsOk_cons ?_ (stepsOk_cons ?_ (stepsOk_cons ?_ (stepsOk_cons ?_ (stepsOk_cons ?_ (stepsOk_cons ?_ (stepsOk_cons ?_ (stepsOk_cons ?_ (stepsOk_cons ?_ (stepsOk_cons ?_ (stepsOk_cons ?_ (stepsOk_cons ?_ (stepsOk_nil))))))))))))))
    · intro ρ w' E
      have e0 : ρ (.tmp 0) = .pointer (some ⟨d, 0, none⟩) := E.out 0 rfl
      refine step_plain rfl ?_
      exact op_move (.inl rfl) e0 ⟨Below.refl _ _, rfl⟩
    · intro ρ w' E
      have e0 : ρ (.tmp 0) = .pointer (some ⟨d, 0, none⟩) := E.out 0 rfl
      refine step_plain rfl ?_
      exact op_move (.inl rfl) e0 ⟨Below.refl _ _, rfl⟩
    · intro ρ w' E
      have e3 : ρ (.tmp 3) = .pointer (some ⟨d, 0, none⟩) := E.pre 1 rfl
      refine step_plain rfl ?_
      refine op_val (v := .pointer (some ⟨d, 0, none⟩)) (w' := w') ?_ ⟨Below.refl _ _, rfl⟩
      have hcon := E.con
      clear E
      go_simp
    · intro ρ w' E
      have e4 : ρ (.tmp 4) = .pointer (some ⟨d, 0, none⟩) := E.pre 2 rfl
      refine step_plain rfl ?_
      refine op_val (v := .pointer (some ⟨d, 0, none⟩)) (w' := w') ?_ ⟨Below.refl _ _, rfl⟩
      have hcon := E.con
      clear E
      go_simp
    · intro ρ w' E
      have e5 : ρ (.tmp 5) = .pointer (some ⟨d, 0, none⟩) := E.pre 3 rfl
      refine step_plain rfl ?_
      refine op_val (v := .pointer (some ⟨d, 1, none⟩)) (w' := w') ?_ ⟨Below.refl _ _, rfl⟩
      have hcon := E.con
      clear E
      go_simp
    · intro ρ w' E
      have e6 : ρ (.tmp 6) = .pointer (some ⟨d, 1, none⟩) := E.pre 4 rfl
      refine step_plain rfl ?_
      refine op_val (v := .slice a k c) (w' := w') ?_ ⟨Below.refl _ _, rfl⟩
      have hk := (World.cell?_of_block (w := w) (E.below.block _ hdl)).trans d1
      have hcon := E.con
      clear E d1 d2
      go_simp
    · intro ρ w' E
      have e0 : ρ (.tmp 0) = .pointer (some ⟨d, 0, none⟩) := E.out 0 rfl
      refine step_plain rfl ?_
      exact op_move (.inl rfl) e0 ⟨Below.refl _ _, rfl⟩
    · intro ρ w' E
      have e8 : ρ (.tmp 8) = .pointer (some ⟨d, 0, none⟩) := E.pre 6 rfl
      refine step_plain rfl ?_
      refine op_val (v := .pointer (some ⟨d, 0, none⟩)) (w' := w') ?_ ⟨Below.refl _ _, rfl⟩
      have hcon := E.con
      clear E
      go_simp
    · intro ρ w' E
      have e9 : ρ (.tmp 9) = .pointer (some ⟨d, 0, none⟩) := E.pre 7 rfl
      refine step_plain rfl ?_
      refine op_val (v := .pointer (some ⟨d, 2, none⟩)) (w' := w') ?_ ⟨Below.refl _ _, rfl⟩
      have hcon := E.con
      clear E
      go_simp
    · intro ρ w' E
      have e10 : ρ (.tmp 10) = .pointer (some ⟨d, 2, none⟩) := E.pre 8 rfl
      refine step_plain rfl ?_
      refine op_val (v := .int .i64 (p : Int)) (w' := w') ?_ ⟨Below.refl _ _, rfl⟩
      have hk := (World.cell?_of_block (w := w) (E.below.block _ hdl)).trans d2
      have hcon := E.con
      clear E d1 d2
      go_simp
    · intro ρ w' E
      have e7 : ρ (.tmp 7) = .slice a k c := E.pre 5 rfl
      have e11 : ρ (.tmp 11) = .int .i64 (p : Int) := E.pre 9 rfl
      refine step_plain rfl ?_
      refine op_val (v := .slice a p c) (w' := w') ?_ ⟨Below.refl _ _, rfl⟩
      have hcon := E.con
      clear E d1 d2
      go_simp
    · intro ρ w' E
      have e2 : ρ (.tmp 2) = .pointer (some ⟨d, 0, none⟩) := E.pre 0 rfl
      refine step_plain rfl ?_
      refine op_val (v := .pointer (some ⟨d, 0, none⟩)) (w' := w') ?_ ⟨Below.refl _ _, rfl⟩
      have hcon := E.con
      clear E
      go_simp
    · intro ρ w' E
      have e13 : ρ (.tmp 13) = .pointer (some ⟨d, 0, none⟩) := E.pre 11 rfl
      refine step_plain rfl ?_
      refine op_val (v := .pointer (some ⟨d, 0, none⟩)) (w' := w') ?_ ⟨Below.refl _ _, rfl⟩
      have hcon := E.con
      clear E
      go_simp
    · intro ρ w' E
      have e14 : ρ (.tmp 14) = .pointer (some ⟨d, 0, none⟩) := E.pre 12 rfl
      refine step_plain rfl ?_
      refine op_val (v := .pointer (some ⟨d, 1, none⟩)) (w' := w') ?_ ⟨Below.refl _ _, rfl⟩
      have hcon := E.con
      clear E
      go_simp
  · intro σ w2 hb hall
    obtain ⟨_, _, _, _, _, _, _, _, _, _, h12, _, _, h15, _⟩ := hall
    have h12 : σ 12 = .slice a p c := h12
    have h15 : σ 15 = .pointer (some ⟨d, 1, none⟩) := h15
    simp only [upd, updL, dstsOf', elemB, List.filterMap_cons, List.filterMap_nil, Nat.reduceAdd, Nat.reduceBEq, Bool.or_false, Bool.false_or, Bool.or_true, Bool.true_or, cond_true, cond_false, Nat.zero_add, h12, h15]
    have h2 := H.out.ext hb
    have hr : MedR w2 B ⟨M.cap, M.cells.take p⟩ a p c (cs.take p) := ⟨by
      refine ⟨?_, fun y hy => h2.r.own.dat y (List.mem_of_mem_take hy), h2.r.own.apart.sublist (List.take_sublist _ _)⟩
      rw [List.length_take, h2.r.len, Nat.min_eq_left hp, flt_take CellV.len]
      have := h2.r.own.row
      rw [h2.r.len] at this
      exact this.take p hp, by rw [List.length_take, h2.r.len, Nat.min_eq_left hp], by have := h2.r.pls; unfold pls at this ⊢; rw [List.map_take, this]⟩
    obtain ⟨hF, hm⟩ := h2.set1 hr (by have := h2.cap; omega) rfl (fun x hx => (h2.kr x hx).imp (fun h => by have := h2.cap; omega) id) (fun x hx => h2.du x (List.mem_of_mem_take hx))
    have HF := Lib.hid hF
    have HM := Lib.hid ((bmod hb (TF B K)).trans hm)
    have k1 := h2.cells.2.1
    have hfz := frozen_of_row w2 d 1 _ _ h2.obj
    clear hF hm hr h2 h12 h15 d1 d2 hb
    go_wp2
    go_end0
    exact ⟨rfl, a, c, _, HF.out, HM.out⟩
end Go.Proofs.Ytclkkhpnnbkfmaa
