/- Several texts of this claim, one behind the other: PowWakes, Drv. -/
import Derived.Test.YtjngfkkbfkoedaaPow
import Derived.Test.YtjngfkkbfkoedaaVolumeFormatsPartF
import Derived.Test.YtjngfkkbfkoedaaMedTwin
import Derived.Test.YtjngfkkbfkoedaaRegion
/- power: the contracts with their answers as variables. -/
namespace Go.Proofs.Ytjngfkkbfkoedaa
open Go.RowKit

theorem spend_some (L : Int) (K : List Bool) (T n : Int) (k : List Bool) (t : Int) : (PS.mk false L K T (some (n, k, t))).spend = if 1 < n then (true, ⟨false, L, K, T, some (n - 1, k, t)⟩) else (false, ⟨true, L, k, t, none⟩) := rfl
theorem spend_at {B g : Nat} {s s' : PS} {r : Bool} {w : World} (hB : B ≤ w.heap.size) (hp : Pow B w g s) (hs : s.spend = (r, s')) :
    Calls Try.prog 63 #[.pointer (some ⟨g, 0, none⟩)] w fun e w' => e = .returned (.bool r) ∧ Pow B w' g s' ∧ Mod (PF B) w w' := by
  have h := power_spend B g s w hB hp
  rw [hs] at h
  exact h
theorem start_at {B g : Nat} {s s' : PS} {w : World} (hp : Pow B w g s) (hs : s.start = s') (hl0 : 0 ≤ s.life) (hl1 : s.life ≤ 4611686018427387904) :
    Calls Try.prog 28 #[.pointer (some ⟨g, 0, none⟩)] w fun e w' => e = .returned (.tuple #[]) ∧ Pow B w' g s' ∧ Mod (PF B) w w' := by
  subst hs; exact power_start B g s w hp hl0 hl1
theorem arm_nil {B g : Nat} {s s' : PS} {n t : Int} {w : World} (hB : B ≤ w.heap.size) (hp : Pow B w g s) (hs : s.arm n [] t = s') (hn : n ≤ 9223372036854775807) :
    Calls Try.prog 26 #[.pointer (some ⟨g, 0, none⟩), .int .i64 n, .slice none 0 0, .int .i64 t] w fun e w' => e = .returned (.tuple #[]) ∧ Pow B w' g s' ∧ Mod (PF B) w w' := by
  subst hs; exact power_arm B g s none 0 0 [] n t w hB hp (Src.nil _ _) rfl (by omega) hn
theorem cut_nil {B g : Nat} {s s' : PS} {t : Int} {w : World} (hB : B ≤ w.heap.size) (hp : Pow B w g s) (hs : s.cut [] t = s') :
    Calls Try.prog 83 #[.pointer (some ⟨g, 0, none⟩), .slice none 0 0, .int .i64 t] w fun e w' => e = .returned (.tuple #[]) ∧ Pow B w' g s' ∧ Mod (PF B) w w' := by
  subst hs; exact power_cut B g s none 0 0 [] t w hB hp (Src.nil _ _) rfl (by omega)
theorem off_at {B g : Nat} {s : PS} {r : Bool} {w : World} (hp : Pow B w g s) (hs : s.off = r) :
    Calls Try.prog 27 #[.pointer (some ⟨g, 0, none⟩)] w fun e w' => e = .returned (.bool r) ∧ w = w' := by subst hs; exact power_off B g s w hp
theorem torn_at {B g : Nat} {s : PS} {r : Int} {w : World} (hp : Pow B w g s) (hs : s.torn = r) :
    Calls Try.prog 64 #[.pointer (some ⟨g, 0, none⟩)] w fun e w' => e = .returned (.int .i64 r) ∧ w = w' := by subst hs; exact power_torn B g s w hp
end Go.Proofs.Ytjngfkkbfkoedaa

/- drive.Drive as it lies; its tape's small methods. -/
namespace Go.Proofs.Ytjngfkkbfkoedaa
open Go.RowKit

def TT : List TypeId := [49, 30]
/-- What a drive's methods may write. -/
abbrev VF (B : Nat) (K : Nat → Prop) : Nat → TypeId → Prop := fun b T => B ≤ b ∧ (T ∈ PT ∨ (K b ∧ T ∈ TT))
theorem PF.vf {B : Nat} {K : Nat → Prop} {w w' : World} (h : Mod (PF B) w w') : Mod (VF B K) w w' := h.mono fun b T _ hf => ⟨hf.1, .inl hf.2⟩
theorem VF_no_u8 {B : Nat} {K : Nat → Prop} (b : Nat) : ¬ VF B K b 5 := by
  rintro ⟨_, h | ⟨_, h⟩⟩ <;> revert h <;> decide
/-- What a drive's tape's methods may write. -/
abbrev TF (B : Nat) (K : Nat → Prop) : Nat → TypeId → Prop := fun b T => B ≤ b ∧ K b ∧ T ∈ TT
theorem TF.vf {B : Nat} {K : Nat → Prop} {w w' : World} (h : Mod (TF B K) w w') : Mod (VF B K) w w' := h.mono fun b T _ hf => ⟨hf.1, .inr hf.2⟩
theorem TF_d {B g : Nat} {K : Nat → Prop} (h : B ≤ g) (k : K g) : TF B K g 49 := ⟨h, k, by decide⟩
theorem TF_c {B g : Nat} {K : Nat → Prop} (h : B ≤ g) (k : K g) : TF B K g 30 := ⟨h, k, by decide⟩
theorem Pow.tf {B B' : Nat} {K : Nat → Prop} {w w' : World} {g : Nat} {s : PS} (h : Pow B w g s) (hm : Mod (TF B' K) w w') : Pow B w' g s := h.mod hm (by
  rintro b T ⟨_, _, hT⟩
  simp only [TT, List.mem_cons, List.not_mem_nil, or_false] at hT
  rcases hT with rfl | rfl <;> decide)
/-- Of a slice's row: it lies in K, where there is one. -/
def RowIn (K : Nat → Prop) (a : Option Addr) (k c : Nat) : Prop := ∀ x, a = some ⟨x, 0, none⟩ → (k = 0 ∧ c = 0) ∨ K x
theorem Own.rowIn {w : World} {W : Nat} {T : TypeId} {e : Nat} {a : Option Addr} {k c : Nat} {xs : List Value} {K : Nat → Prop} (h : Own w W T e a k c xs) (hK : ∀ b, W ≤ b → b < w.heap.size → K b) : RowIn K a k c := fun x hx => by
  obtain ⟨_, h0 | ⟨g', cur, ha, hg', hh, _⟩⟩ := h
  · exact .inl h0
  · rw [ha] at hx
    simp only [Option.some.injEq, Addr.mk.injEq, and_true] at hx
    subst hx
    exact .inr (hK _ hg' (heap_lt hh))
theorem Own.rowInAnd {w : World} {W : Nat} {T : TypeId} {e : Nat} {a : Option Addr} {k c : Nat} {xs : List Value} {K K' : Nat → Prop} (h : Own w W T e a k c xs) (hr : RowIn K a k c) (hK : ∀ b, W ≤ b → b < w.heap.size → K b → K' b) : RowIn K' a k c := fun x hx => by
  rcases hr x hx with h0 | hk
  · exact .inl h0
  · rcases h.rowIn (K := fun b => W ≤ b ∧ b < w.heap.size) (fun b h1 h2 => ⟨h1, h2⟩) x hx with h0 | h1
    · exact .inl h0
    · exact .inr (hK _ h1.1 h1.2 hk)
/-- New blocks are in K. -/
structure Up (B : Nat) (K : Nat → Prop) (w : World) : Prop where
  le : B ≤ w.heap.size
  up : ∀ b, w.heap.size ≤ b → K b
theorem Up.grow {B : Nat} {K : Nat → Prop} {w w' : World} (h : Up B K w) (hs : w.heap.size ≤ w'.heap.size) : Up B K w' := ⟨Nat.le_trans h.le hs, fun b hb => h.up b (Nat.le_trans hs hb)⟩
abbrev AllK : Nat → Prop := fun _ => True
theorem Up.all {B : Nat} {w : World} (h : B ≤ w.heap.size) : Up B AllK w := ⟨h, fun _ _ => trivial⟩
/-- In block d stands a drive, of the power in block g, with the tape M, all of whose memory lies from B on. -/
structure DrvAt (B : Nat) (K : Nat → Prop) (w : World) (d g : Nat) (M : Med) (at_ : Int) (a : Option Addr) (k c : Nat) (cs : List CellV) : Prop where
  low : B ≤ d
  kd : K d
  obj : w.heap[d]? = some (.cells #[.int .i64 M.cap, .slice a k c, .int .i64 at_, .pointer (some ⟨g, 0, none⟩)] 49 (0, 0))
  r : MedR w B M a k c cs
  cap : k ≤ c
  kr : RowIn K a k c
  du : ∀ x ∈ cs, RowIn K x.d.a x.d.l.length x.d.c
variable {B : Nat} {K : Nat → Prop} {w w' : World} {d g : Nat} {M : Med} {at_ : Int} {a : Option Addr} {k c : Nat} {cs : List CellV}
theorem DrvAt.cells (h : DrvAt B K w d g M at_ a k c cs) : w.cell? ⟨d, 0, none⟩ = some (.int .i64 M.cap) ∧ w.cell? ⟨d, 1, none⟩ = some (.slice a k c) ∧ w.cell? ⟨d, 2, none⟩ = some (.int .i64 at_) ∧ w.cell? ⟨d, 3, none⟩ = some (.pointer (some ⟨g, 0, none⟩)) :=
  ⟨cell_of_row w d 0 _ _ _ h.obj, cell_of_row w d 1 _ _ _ h.obj, cell_of_row w d 2 _ _ _ h.obj, cell_of_row w d 3 _ _ _ h.obj⟩
theorem DrvAt.ext (h : DrvAt B K w d g M at_ a k c cs) (hb : Below w.heap.size w w') : DrvAt B K w' d g M at_ a k c cs := ⟨h.low, h.kd, (hb.block d (heap_lt h.obj)).trans h.obj, h.r.ext hb, h.cap, h.kr, h.du⟩
theorem DrvAt.mod {F : Nat → TypeId → Prop} (h : DrvAt B K w d g M at_ a k c cs) (hm : Mod F w w') (hF : ∀ b T, F b T → T ≠ 49 ∧ T ≠ 30 ∧ T ≠ 5) : DrvAt B K w' d g M at_ a k c cs :=
  ⟨h.low, h.kd, hm.keep h.obj fun hf => (hF _ _ hf).1 rfl, ⟨h.r.own.mod hm fun b T hf => ⟨(hF b T hf).2.1, (hF b T hf).2.2⟩, h.r.len, h.r.pls⟩, h.cap, h.kr, h.du⟩
theorem DrvAt.pf {B' : Nat} (h : DrvAt B K w d g M at_ a k c cs) (hm : Mod (PF B') w w') : DrvAt B K w' d g M at_ a k c cs := h.mod hm (by
  rintro b T ⟨_, hT⟩
  simp only [PT, List.mem_cons, List.not_mem_nil, or_false] at hT
  rcases hT with rfl | rfl <;> decide)
theorem DrvAt.of (h : DrvAt B K w d g M at_ a k c cs) : medOf M.cap cs = M := h.r.of
theorem DrvAt.len63 (h : DrvAt B K w d g M at_ a k c cs) : k ≤ 9223372036854775807 := by
  have h1 := h.r.own.row.len
  rw [h.r.len] at h1
  have h2 := h1.2
  unfold maxLen at h2
  omega
theorem DrvAt.short (h : DrvAt B K w d g M at_ a k c cs) {K : Nat} (hK : ∀ c ∈ M.cells, c.data.length ≤ K) : ∀ x ∈ cs, x.d.l.length ≤ K := short_of h.r.pls hK

set_option maxRecDepth 100000 in
set_option maxHeartbeats 1000000 in
theorem drv_medium (w : World) (h : DrvAt B K w d g M at_ a k c cs) (hk : k ≤ 100000) (hx : ∀ x ∈ cs, x.d.l.length ≤ 140737488355328) :
    Calls Try.prog 16 #[.pointer (some ⟨d, 0, none⟩)] w fun e w' => ∃ a' c' cs', e = .returned (.agg #[.int .i64 M.cap, .slice a' k c']) ∧ MedR w' w.heap.size M a' k c' cs' ∧ k ≤ c' ∧ Below w.heap.size w w' := by
  have H := Lib.hid h
  have Hx := Lib.hid hx
  have hz := heap_alloc_new w (.cells #[.int .i64 0, .slice none 0 0] 24)
  have hb := ext_alloc w (.cells #[.int .i64 0, .slice none 0 0] 24)
  obtain ⟨d0, d1, d2, d3⟩ := (h.ext hb).cells
  clear h hx d2 d3
  go_enter Try.func16, Try.ntmps16
  go_wp2_with fail
  clear d0 d1
  refine (med_twin M.cap a c k cs _ (H.out.r.mat.ext hb) H.out.r.len.symm hk Hx.out).mono ?_
  rintro e w2 ⟨a2, c2, cs2, rfl, hl2, ho2, hp2, hb2⟩
  have g2 := (hb2.block _ (heap_lt hz)).trans hz
  have hM : MedR w2 w.heap.size M a2 k c2 cs2 := ⟨ho2.mono hb.size, hl2, hp2.trans H.out.r.pls⟩
  have HM := Lib.hid (hM.setRow (new := #[.int .i64 M.cap, .slice a2 k c2]) g2)
  have Hc := Lib.hid (show k ≤ c2 by have := ho2.row.len.1; rw [hl2] at this; exact this)
  have hg := setRow_heap w2 w.heap.size _ #[.int .i64 M.cap, .slice a2 k c2] _ _ g2
  have hbF := bsetRow (bthen hb hb2 (Nat.le_refl _)) (Nat.le_refl _) #[.int .i64 M.cap, .slice a2 k c2]
  clear hM ho2 hp2 hb2
  go_wp2_with (refine wpList_store_row rfl rfl 24 (.tmp 2) (.tmp 7) rfl w.heap.size rfl 24 #[.int .i64 0, .slice none 0 0] #[.int .i64 M.cap, .slice a2 k c2] rfl g2 rfl (by kernel_rfl) (by simp [Value.oneCell']) ?_)
  exact bodyPost_ret (v := .agg _) (results_cell_row (p := 2) rfl _ _ w.heap.size _ #[.int .i64 M.cap, .slice a2 k c2] _ _ rfl hg Try.underlying24 rfl (by kernel_rfl)) rfl
    ⟨a2, c2, cs2, rfl, HM.out, Hc.out, hbF⟩
end Go.Proofs.Ytjngfkkbfkoedaa
