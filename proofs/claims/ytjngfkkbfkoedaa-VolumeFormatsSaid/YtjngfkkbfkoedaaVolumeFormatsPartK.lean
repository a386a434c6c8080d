/- Several texts of this claim, one behind the other: DrvCalls, DrvMono, KeepTwinM, SpoilM, KeepSpoilM, OwnMods. -/
import Derived.Test.YtjngfkkbfkoedaaDrvLocate
import Derived.Test.YtjngfkkbfkoedaaMedTwin
import Derived.Test.YtjngfkkbfkoedaaVolumeFormatsPartB
import Derived.Test.YtjngfkkbfkoedaaVolumeFormatsPartA
import Derived.Test.YtjngfkkbfkoedaaVolumeFormatsPartJ
import Derived.Test.YtjngfkkbfkoedaaVolumeFormatsPartF
/- drive.Drive's Locate, Read; what they leave. -/
namespace Go.Proofs.Ytjngfkkbfkoedaa
open Go.RowKit

variable {B : Nat} {K : Nat → Prop} {w w' : World} {d g : Nat} {M : Med} {at_ : Int}
set_option maxRecDepth 100000 in
set_option maxHeartbeats 2000000 in
theorem drv_locate (n block E at' : Int) (s : PS) (w : World) (hd : DrvP B K w d g M at_ s) (hk : M.cells.length ≤ 90000) (hn1 : n ≤ 9223372036854775807) (hb0 : block ≤ 9223372036854775807) (hr : (if s.off then (5, at_) else M.locate n block at_) = (E, at')) :
    Calls Try.prog 38 #[.pointer (some ⟨d, 0, none⟩), .int .i64 n, .int .i64 block] w fun e w' => e = .returned (.int .i64 E) ∧ DrvP B K w' d g M at' s ∧ Mod (VF B K) w w' := by
  obtain ⟨⟨a, k, c, cs, h⟩, hpw⟩ := hd
  have hk : k ≤ 90000 := by rw [← h.r.size]; exact hk
  have H := Lib.hid h
  have HR := Lib.hid hr
  have HP := Lib.hid hpw
  obtain ⟨d0, d1, d2, d3⟩ := h.cells
  clear h hpw hr d0 d1 d2
  go_enter Try.func38, Try.ntmps38
  go_wp2_with fail
  cases hoff : s.off with
  | true =>
    have hl := HR.out
    rw [if_pos hoff] at hl
    simp only [Prod.mk.injEq] at hl
    obtain ⟨rfl, rfl⟩ := hl
    refine (off_at HP.out hoff).mono ?_
    rintro e w2 ⟨rfl, rfl⟩
    go_wp2
    go_ret
    exact ⟨rfl, ⟨⟨a, k, c, cs, H.out⟩, HP.out⟩, Mod.refl _ _⟩
  | false =>
    have hl := HR.out
    rw [if_neg (by rw [hoff]; decide)] at hl
    have HL := Lib.hid hl
    clear hl HR
    refine (off_at HP.out hoff).mono ?_
    rintro e w2 ⟨rfl, rfl⟩
    clear hoff
    go_wp2_with fail
    refine (drv_locate0 n block E at' w H.out hk hn1 hb0 HL.out).mono ?_
    rintro e w3 ⟨rfl, h3, hm3⟩
    have HF : Hid (DrvP B K w3 d g M at' s) := Lib.hid ⟨⟨_, _, _, _, h3⟩, HP.out.tf hm3⟩
    have HMF := Lib.hid (TF.vf (K := K) hm3)
    clear h3 hm3 d3
    go_wp2
    go_ret
    exact ⟨rfl, HF.out, HMF.out⟩
set_option maxRecDepth 100000 in
set_option maxHeartbeats 2000000 in
theorem drv_read (n : Nat) (l : List Byte) (Er at' : Int) (s : PS) (w : World) (hd : DrvP B K w d g M at_ s) (hB : B ≤ w.heap.size) (hx : ∀ x ∈ M.cells, x.data.length ≤ 140737488355328) (hn : n = l.length) (ha0 : -9223372036854775808 ≤ at_) (ha1 : at_ ≤ 9223372036854775806)
    (hr : (if s.off then (([] : List Byte), (5 : Int), at_) else ((M.look at_).1, (M.look at_).2, if (M.look at_).2 = 8 then at_ else at_ + 1)) = (l, Er, at')) :
    Calls Try.prog 41 #[.pointer (some ⟨d, 0, none⟩)] w fun e w' => ∃ a' c', e = .returned (.tuple #[.slice a' n c', .int .i64 Er]) ∧ Own w' w.heap.size 5 1 a' n c' (bvs l) ∧ DrvP B K w' d g M at' s ∧ Mod (VF B K) w w' := by
  obtain ⟨⟨a, k, c, cs, h⟩, hpw⟩ := hd
  have H := Lib.hid h
  have HR := Lib.hid hr
  have HP := Lib.hid hpw
  have Hn := Lib.hid hn
  have Hx := Lib.hid (h.short hx)
  obtain ⟨d0, d1, d2, d3⟩ := h.cells
  clear h hpw hr hn hx d0 d1 d2
  go_enter Try.func41, Try.ntmps41
  go_wp2_with fail
  cases hoff : s.off with
  | true =>
    have hl := HR.out
    rw [if_pos hoff] at hl
    simp only [Prod.mk.injEq] at hl
    obtain ⟨rfl, rfl, rfl⟩ := hl
    have hn0 : n = 0 := Hn.out
    subst hn0
    refine (off_at HP.out hoff).mono ?_
    rintro e w2 ⟨rfl, rfl⟩
    go_wp2
    go_ret2
    exact ⟨none, 0, rfl, Own.nil _ _ _ _ _, ⟨⟨a, k, c, cs, H.out⟩, HP.out⟩, Mod.refl _ _⟩
  | false =>
    have hl := HR.out
    rw [if_neg (by rw [hoff]; decide)] at hl
    simp only [Prod.mk.injEq] at hl
    obtain ⟨h1, h2, h3⟩ := hl
    have HL : Hid (M.look at_ = (l, Er)) := Lib.hid (by rw [← h1, ← h2])
    have HA : Hid ((if Er = 8 then at_ else at_ + 1) = at') := Lib.hid (by rw [← h2]; exact h3)
    clear h1 h2 h3 HR
    refine (off_at HP.out hoff).mono ?_
    rintro e w2 ⟨rfl, rfl⟩
    clear hoff
    go_wp2_with fail
    refine (drv_read0 n l Er w H.out hB Hx.out HL.out Hn.out ha0 ha1).mono ?_
    rintro e w3 ⟨a3, c3, rfl, ho3, h3, hm3⟩
    rw [HA.out] at h3
    have HO := Lib.hid ho3
    have HF : Hid (DrvP B K w3 d g M at' s) := Lib.hid ⟨⟨_, _, _, _, h3⟩, HP.out.tf hm3⟩
    have HMF := Lib.hid (TF.vf (K := K) hm3)
    clear h3 hm3 d3 ho3
    go_wp2
    go_ret2
    exact ⟨a3, c3, rfl, HO.out, HF.out, HMF.out⟩
theorem drv_mediumP {s : PS} (w : World) (hd : DrvP B K w d g M at_ s) (hk : M.cells.length ≤ 100000) (hx : ∀ x ∈ M.cells, x.data.length ≤ 140737488355328) :
    Calls Try.prog 16 #[.pointer (some ⟨d, 0, none⟩)] w fun e w' => ∃ a' c' cs' k, e = .returned (.agg #[.int .i64 M.cap, .slice a' k c']) ∧ MedR w' w.heap.size M a' k c' cs' ∧ k ≤ c' ∧ Below w.heap.size w w' := by
  obtain ⟨⟨a, k, c, cs, h⟩, _⟩ := hd
  refine (drv_medium w h (by rw [← h.r.size]; exact hk) (h.short hx)).mono ?_
  rintro e w2 ⟨a', c', cs', rfl, h2, hc, hb⟩
  exact ⟨a', c', cs', k, rfl, h2, hc, hb⟩
theorem DrvP.ext {s : PS} (h : DrvP B K w d g M at_ s) (hb : Below w.heap.size w w') : DrvP B K w' d g M at_ s := by
  obtain ⟨⟨a, k, c, cs, h⟩, hp⟩ := h
  exact ⟨⟨a, k, c, cs, h.ext hb⟩, hp.ext hb⟩
end Go.Proofs.Ytjngfkkbfkoedaa

/- A drive, from a lower bound; bytes that stay. -/
namespace Go.Proofs.Ytjngfkkbfkoedaa
open Go.RowKit

variable {B : Nat} {K : Nat → Prop} {w w' : World} {d g : Nat} {M : Med} {at_ : Int}
theorem DrvAt.mono {B' : Nat} {K' : Nat → Prop} {a : Option Addr} {k c : Nat} {cs : List CellV} (h : DrvAt B K w d g M at_ a k c cs) (hB : B' ≤ B) (hK : ∀ b, B ≤ b → K b → K' b) : DrvAt B' K' w d g M at_ a k c cs := by
  have hrw := h.r.own.row
  rw [h.r.len] at hrw
  exact ⟨Nat.le_trans hB h.low, hK _ h.low h.kd, h.obj, h.r.mono hB, h.cap, hrw.rowInAnd h.kr fun b h1 _ => hK b h1, fun x hx => (h.r.own.dat x hx).rowInAnd (h.du x hx) fun b h1 _ => hK b h1⟩
/-- Bytes in a block of bytes stay, whatever drives do. -/
theorem src_vf {x : Nat} {l : List Byte} {m : Nat × Nat} (hg : w.heap[x]? = some (.cells (bvs l).toArray 5 m)) : ∀ w', Mod (VF B K) w w' → Src w' (some ⟨x, 0, none⟩) (bvs l) := fun w' hm =>
  Or.inr ⟨x, 0, _, _, _, rfl, hm.keep hg (VF_no_u8 x), by rw [List.drop_zero]; exact List.take_length⟩
end Go.Proofs.Ytjngfkkbfkoedaa

/- cellarerkeep.TwinMedium. -/
namespace Go.Proofs.Ytjngfkkbfkoedaa
open Go.RowKit

end Go.Proofs.Ytjngfkkbfkoedaa

/- cellarerkeep.SpoilBytes, with a frame by blocks: one block of bytes alone is written. -/
namespace Go.Proofs.Ytjngfkkbfkoedaa
open Go.RowKit

/-- The one block of a slice of bytes. -/
abbrev UF (a : Option Addr) : Nat → TypeId → Prop := fun b T => a = some ⟨b, 0, none⟩ ∧ T = 5
theorem UF_no (a : Option Addr) {T' : TypeId} (hT : T' ≠ 5) : ∀ b T, UF a b T → T ≠ T' := by
  rintro b T ⟨_, rfl⟩ h; exact hT h.symm
end Go.Proofs.Ytjngfkkbfkoedaa

/- cellarerkeep.SpoilMedium. -/
namespace Go.Proofs.Ytjngfkkbfkoedaa
open Go.RowKit

end Go.Proofs.Ytjngfkkbfkoedaa

/- What stays of rows of one's own when blocks of a range are written. -/
namespace Go.Proofs.Ytjngfkkbfkoedaa
open Go.RowKit

theorem Own.bnd {w : World} {B : Nat} {e : TypeId} {k n c : Nat} {a : Option Addr} {xs : List Value} (h : Own w B e k a n c xs) : ∀ g, a = some ⟨g, 0, none⟩ → (n ≠ 0 ∨ c ≠ 0) → g < w.heap.size := by
  intro g hg hn
  obtain ⟨_, ⟨h1, h2⟩ | ⟨g', cur, ha, _, hh, _⟩⟩ := h
  · omega
  · rw [ha] at hg
    simp only [Option.some.injEq, Addr.mk.injEq, and_true] at hg
    rw [← hg]
    exact heap_lt hh
theorem Own.modI {F : Nat → TypeId → Prop} {w w' : World} {B N : Nat} {e : TypeId} {k n c : Nat} {a : Option Addr} {xs : List Value} (h : Own w B e k a n c xs) (hm : Mod F w w') (hN : ∀ g, a = some ⟨g, 0, none⟩ → (n ≠ 0 ∨ c ≠ 0) → g < N) (hF : ∀ g, B ≤ g → g < N → ¬ F g e) : Own w' B e k a n c xs := by
  obtain ⟨hl, h0 | ⟨g, cur, ha, hb, hh, hn, hr⟩⟩ := h
  · exact ⟨hl, .inl h0⟩
  · by_cases hz : n = 0 ∧ c = 0
    · exact ⟨hl, .inl hz⟩
    · exact ⟨hl, .inr ⟨g, cur, ha, hb, hm.keep hh (hF g hb (hN g ha (by omega))), hn, hr⟩⟩
theorem Own.modB {F : Nat → TypeId → Prop} {w w' : World} {B : Nat} {e : TypeId} {k n c : Nat} {a : Option Addr} {xs : List Value} (h : Own w B e k a n c xs) (hm : Mod F w w') (hF : ∀ g, B ≤ g → ¬ F g e) : Own w' B e k a n c xs :=
  h.modI hm h.bnd fun g hg _ => hF g hg
theorem OwnM.modB {F : Nat → TypeId → Prop} {w w' : World} {B c : Nat} {a : Option Addr} {cs : List CellV} (h : OwnM w B a c cs) (hm : Mod F w w') (hF : ∀ g T, B ≤ g → ¬ F g T) : OwnM w' B a c cs :=
  ⟨h.row.modB hm fun g hg => hF g _ hg, fun x hx => (h.dat x hx).modB hm fun g hg => hF g _ hg, h.apart⟩
theorem OwnM.bnd {w : World} {B c n : Nat} {a : Option Addr} {cs : List CellV} (h : OwnM w B a c cs) (hn : cs.length = n) : (∀ x, a = some ⟨x, 0, none⟩ → n ≠ 0 → x < w.heap.size) ∧ ∀ y ∈ cs, y.d.l ≠ [] → ∀ x, y.d.a = some ⟨x, 0, none⟩ → x < w.heap.size := by
  refine ⟨fun x hx h0 => h.row.bnd x hx (.inl (by omega)), fun y hy h0 x hx => (h.dat y hy).bnd x hx (.inl fun e => h0 (List.eq_nil_of_length_eq_zero e))⟩
/-- A tape of one's own stored into a new variable. -/
theorem TapeO.new {w : World} {B : Nat} {M : Med} {a : Option Addr} {k c : Nat} {cs : List CellV} (cp : Int) (hcp : M.cap = cp) (h : MedR w B M a k c cs) (hc : k ≤ c) : TapeO ((w.alloc (.cells #[.int .i64 0, .slice none 0 0] 24)).setRow w.heap.size #[.int .i64 cp, .slice a k c]) B w.heap.size M a k c cs ∧
    Below w.heap.size w ((w.alloc (.cells #[.int .i64 0, .slice none 0 0] 24)).setRow w.heap.size #[.int .i64 cp, .slice a k c]) :=
  ⟨TapeO.put cp hcp (h.ext (ext_alloc w _)) hc (heap_alloc_new w _), bsetRow (ext_alloc w _) (Nat.le_refl _) _⟩
theorem Med.write_no {m : Med} (h : m.ok = false) (p : Int) (b : List Byte) : m.write p b = (Med.none, 1) := by unfold Med.write; rw [if_pos h]
theorem Med.tear_no {m : Med} (h : m.ok = false) (p : Int) (b : List Byte) (k : Int) : m.tear p b k = (Med.none, 1) := by unfold Med.tear; rw [if_pos h]
theorem Med.mark_no {m : Med} (h : m.ok = false) (p : Int) : m.mark p = (Med.none, 1) := by unfold Med.mark; rw [if_pos h]
theorem Med.end_no {m : Med} (h : m.ok = false) (p : Int) : m.end_ p = (Med.none, 1) := by unfold Med.end_; rw [if_pos (.inl h)]
theorem Med.read_no {m : Med} (h : m.ok = false) (p : Int) : m.read p = ([], 1) := by unfold Med.read; rw [if_pos h]
theorem Med.file_no {m : Med} (h : m.ok = false) (p : Int) : m.file p = (0, 1) := by unfold Med.file; rw [if_pos h]
theorem Med.file_behind {m : Med} (h : m.ok = true) (p : Int) : m.file p = m.behind p := by unfold Med.file; rw [if_neg (by rw [h]; decide)]
theorem Med.files_no {m : Med} (h : m.ok = false) : m.files = 0 := by unfold Med.files; rw [if_pos h]
theorem Med.spoil_no {m : Med} (h : m.ok = false) (p : Int) : m.spoil p = (Med.none, 1) := by unfold Med.spoil; rw [if_pos h]
theorem Med.flip_no {m : Med} (h : m.ok = false) (p b : Int) : m.flip p b = (Med.none, 1) := by unfold Med.flip; rw [if_pos h]
theorem Med.write_bound {m T : Med} {E p : Int} {b : List Byte} (h : m.write p b = (T, E)) {n K : Nat} (hn : m.cells.length ≤ n) (hs : ∀ c ∈ m.cells, c.data.length ≤ K) (hb : b.length ≤ K) : T.cells.length ≤ n + 1 ∧ ∀ c ∈ T.cells, c.data.length ≤ K := by
  have h0 : T = (m.write p b).1 := by rw [h]
  subst h0
  unfold Med.write
  split
  · exact ⟨Nat.zero_le _, by simp [Med.none]⟩
  split
  · exact ⟨Nat.zero_le _, by simp [Med.none]⟩
  · refine ⟨?_, fun c hc => ?_⟩
    · show (m.cells.take p.toNat ++ [_]).length ≤ n + 1
      rw [List.length_append, List.length_take]
      show min p.toNat m.cells.length + 1 ≤ n + 1
      omega
    · rcases List.mem_append.1 (show c ∈ m.cells.take p.toNat ++ [_] from hc) with h | h
      · exact hs c (List.mem_of_mem_take h)
      · rw [List.mem_singleton.1 h]
        exact hb
theorem Med.spoil_bound {m T : Med} {E p : Int} (h : m.spoil p = (T, E)) {n K : Nat} (hn : m.cells.length ≤ n) (hs : ∀ c ∈ m.cells, c.data.length ≤ K) : T.cells.length ≤ n ∧ ∀ c ∈ T.cells, c.data.length ≤ K := by
  have h0 : T = (m.spoil p).1 := by rw [h]
  subst h0
  unfold Med.spoil
  split
  · exact ⟨Nat.zero_le _, by simp [Med.none]⟩
  split
  · exact ⟨Nat.zero_le _, by simp [Med.none]⟩
  split
  · exact ⟨Nat.zero_le _, by simp [Med.none]⟩
  · rename_i c0 hc0
    refine ⟨by show (m.cells.set _ _).length ≤ n; rw [List.length_set]; exact hn, fun c hc => ?_⟩
    rcases List.mem_or_eq_of_mem_set (show c ∈ m.cells.set _ _ from hc) with h | rfl
    · exact hs c h
    · exact hs c0 (List.mem_of_getElem? hc0)
theorem MedR.len63 {w : World} {B : Nat} {M : Med} {a : Option Addr} {k c : Nat} {cs : List CellV} (h : MedR w B M a k c cs) : k ≤ 9223372036854775807 := by
  have h1 := h.own.row.len
  rw [h.len] at h1
  have h2 := h1.2
  unfold maxLen at h2
  omega
end Go.Proofs.Ytjngfkkbfkoedaa
