/- store.Open. -/
import Derived.Test.YtogcejmnhiphgaaStoreRead
import Derived.Test.YtogcejmnhiphgaaDisk
namespace Go.Proofs.Ytogcejmnhiphgaa
open Go.RowKit

/-- The object in block gs is a store of the disk in block g. -/
structure StA (B : Nat) (w : World) (gs g : Nat) (s : List Byte) (cnt : Nat) : Prop where
  obj : ∃ a c, w.heap[gs]? = some (.cells #[.pointer (some ⟨g, 0, none⟩), .slice a s.length c, .int .i64 (cnt : Int)] 103 (0, 0)) ∧ Own w B 5 1 a s.length c (bvs s)
  base : B ≤ gs
  len : s.length ≤ 30000
theorem StA.mod {F : Nat → TypeId → Prop} {B : Nat} {w w' : World} {gs g : Nat} {s : List Byte} {cnt : Nat} (h : StA B w gs g s cnt) (hm : Mod F w w') (hF : ∀ b T, F b T → T ≠ 103) (hU : ∀ b, B ≤ b → b < w.heap.size → ¬ F b 5) : StA B w' gs g s cnt := by
  obtain ⟨⟨a, c, hh, ho⟩, hb, hl⟩ := h
  refine ⟨⟨a, c, hm.keep hh fun hf => hF _ _ hf rfl, ?_⟩, hb, hl⟩
  obtain ⟨hl, h0 | ⟨g', cur, ha, hb', hx, rest⟩⟩ := ho
  · exact ⟨hl, .inl h0⟩
  · exact ⟨hl, .inr ⟨g', cur, ha, hb', hm.keep hx (hU g' hb' (heap_lt hx)), rest⟩⟩
theorem StA.df {B B' : Nat} {w w' : World} {gs g : Nat} {s : List Byte} {cnt : Nat} (h : StA B w gs g s cnt) (hm : Mod (DF B') w w') : StA B w' gs g s cnt :=
  h.mod hm (fun b T hf => by rintro rfl; have := hf.2; revert this; decide) fun b _ _ => DF_no_u8 b
theorem StA.ext {B : Nat} {w w' : World} {gs g : Nat} {s : List Byte} {cnt : Nat} (h : StA B w gs g s cnt) (hb : Below w.heap.size w w') : StA B w' gs g s cnt :=
  h.mod (bmod hb fun _ _ => False) (fun _ _ h => h.elim) fun _ _ _ h => h
theorem StA.mono {B B' : Nat} {w : World} {gs g : Nat} {s : List Byte} {cnt : Nat} (h : StA B w gs g s cnt) (hB : B' ≤ B) : StA B' w gs g s cnt := by
  obtain ⟨⟨a, c, hh, ho⟩, hb, hl⟩ := h
  exact ⟨⟨a, c, hh, ho.mono hB⟩, Nat.le_trans hB hb, hl⟩
/-- Writes to an object of another type leave a disk. -/
theorem DW.other {K : Nat → Prop} {B : Nat} {w w' : World} {g pg n : Nat} {d : DS} {p : PS} {m : Nat} {F : Nat → TypeId → Prop} (h : DW K B w g pg n d p m) (hm : Mod F w w') (hF : ∀ b T, F b T → T = 103) : DW K B w' g pg n d p m :=
  ⟨h.disk.mod hm (fun b T hf => by rw [hF b T hf]; decide) (fun b _ _ hf => absurd (hF b _ hf) (by decide)), h.pow.mod hm (fun b T hf => by rw [hF b T hf]; decide), h.ok, Nat.le_trans h.base hm.size, h.pend⟩
def opStep (d : DS) (p : PS) (st : List Byte × Nat) (i : Nat) : List Byte × Nat :=
  if (markedP d p (i : Int)).1 ≤ st.2 ∨ 30000 < (markedP d p (i : Int)).2 then st
  else if (rdP d p (placeN (markedP d p (i : Int)).1) (markedP d p (i : Int)).2).2 = true then ((rdP d p (placeN (markedP d p (i : Int)).1) (markedP d p (i : Int)).2).1, (markedP d p (i : Int)).1) else st
def opP (d : DS) (p : PS) : Nat → List Byte × Nat
  | 0 => ([], 0)
  | k + 1 => opStep d p (opP d p k) k
theorem placeN_le (n : Nat) : placeN n ≤ 120 := by unfold placeN; omega
theorem opStep_no {d : DS} {p : PS} {st : List Byte × Nat} {i N L : Nat} (hm : markedP d p (i : Int) = (N, L)) (h : N ≤ st.2 ∨ 30000 < L) : opStep d p st i = st := by
  unfold opStep
  rw [hm, if_pos h]
theorem opStep_rd {d : DS} {p : PS} {st : List Byte × Nat} {i N L : Nat} {b : List Byte} {r : Bool} (hm : markedP d p (i : Int) = (N, L)) (h : ¬ (N ≤ st.2 ∨ 30000 < L)) (hr : rdP d p (placeN N) L = (b, r)) : opStep d p st i = if r = true then (b, N) else st := by
  unfold opStep
  rw [hm, if_neg h]
  dsimp only
  rw [hr]
theorem rdP_len {d : DS} {p : PS} {a L : Nat} {b : List Byte} {r : Bool} (hr : rdP d p a L = (b, r)) : b.length ≤ L := by
  unfold rdP at hr
  split at hr
  · simp only [Prod.mk.injEq] at hr
    rw [← hr.1, List.length_take]
    omega
  · simp only [Prod.mk.injEq] at hr
    rw [← hr.1]
    simp

theorem sopen_nil (w : World) :
    Calls Try.prog 30 #[.pointer none] w fun e w' => e = .returned (.tuple #[.pointer none, .int .i64 1]) ∧ w = w' := by
  go_enter Try.func30, Try.ntmps30
  go_wp2
  go_ret2
  exact ⟨rfl, rfl⟩

set_option maxRecDepth 100000 in
set_option maxHeartbeats 1000000 in
theorem sopen_few {K : Nat → Prop} {B : Nat} {w : World} {g pg n : Nat} {d : DS} {p : PS} {m : Nat} (h : DW K B w g pg n d p m) (hn : n < 300) :
    Calls Try.prog 30 #[.pointer (some ⟨g, 0, none⟩)] w fun e w' => e = .returned (.tuple #[.pointer none, .int .i64 7]) ∧ w = w' := by
  have hn1 : (n : Int) < 300 := by omega
  go_enter Try.func30, Try.ntmps30
  go_wp2_with fail
  refine (disk_sectors K B g pg n d w h.disk h.ok).mono ?_
  rintro e w1 ⟨rfl, rfl⟩
  go_wp2
  go_ret2
  exact ⟨rfl, rfl⟩

set_option maxRecDepth 100000 in
set_option maxHeartbeats 1000000 in
theorem sopen_off {K : Nat → Prop} {B : Nat} {w : World} {g pg n : Nat} {d : DS} {p : PS} {m : Nat} (h : DW K B w g pg n d p m) (hn : 300 ≤ n) (hn2 : n ≤ 100000) (hm : m ≤ 100000) (hp : p.off = true) :
    Calls Try.prog 30 #[.pointer (some ⟨g, 0, none⟩)] w fun e w' => e = .returned (.tuple #[.pointer none, .int .i64 5]) ∧ DW K B w' g pg n (d.wake p) p m ∧ Mod (DF B) w w' := by
  have hn1 : ¬ (n : Int) < 300 := by omega
  go_enter Try.func30, Try.ntmps30
  go_wp2_with fail
  refine (disk_sectors K B g pg n d w h.disk h.ok).mono ?_
  rintro e w1 ⟨rfl, rfl⟩
  go_wp2_with fail
  refine (soff_any h hn2 (by omega) hm hp).mono ?_
  rintro e w1 ⟨rfl, hd, hM⟩
  have HD := Lib.hid hd
  have HM := Lib.hid hM
  clear hd hM h
  go_wp2
  go_ret2
  exact ⟨rfl, HD.out, HM.out⟩

set_option maxRecDepth 100000 in
set_option maxHeartbeats 4000000 in
theorem sopen_on {K : Nat → Prop} {B : Nat} {w : World} {g pg n : Nat} {d : DS} {p : PS} {m : Nat} (h : DW K B w g pg n d p m) (hn : 300 ≤ n) (hn2 : n ≤ 100000) (hm : m ≤ 100000) (hp : p.off = false) {s : List Byte} {cnt : Nat} (hr : opP (d.wake p) p 2 = (s, cnt)) :
    Calls Try.prog 30 #[.pointer (some ⟨g, 0, none⟩)] w fun e w' => ∃ gs, e = .returned (.tuple #[.pointer (some ⟨gs, 0, none⟩), .int .i64 0]) ∧ StA w.heap.size w' gs g s cnt ∧ DW K B w' g pg n (d.wake p) p m ∧ Mod (DF B) w w' := by
  have hn1 : ¬ (n : Int) < 300 := by omega
  have Hr := Lib.hid hr
  have H := Lib.hid h
  have H0 : Hid (DW (fun b => K b ∧ b < w.heap.size) B w g pg n d p m) := Lib.hid (h.mono (fun b hb hk => ⟨hk, hb⟩) (Nat.le_refl _))
  have Hp := Lib.hid hp
  have hBw := h.base
  clear h hr hp
  go_enter Try.func30, Try.ntmps30
  go_wp2_with fail
  refine (disk_sectors K B g pg n d w H.out.disk H.out.ok).mono ?_
  rintro e w1 ⟨rfl, rfl⟩
  go_wp2_with fail
  refine (soff_any H0.out hn2 (by omega) hm Hp.out).mono ?_
  rintro e w1 ⟨rfl, hd, hM⟩
  have hww := DS.wake_wake d p
  obtain ⟨D, hD⟩ : ∃ D, D = d.wake p := ⟨_, rfl⟩
  rw [← hD] at hd hww Hr
  have Hw := Lib.hid hww
  have HDe := Lib.hid hD
  have hba := ext_alloc w1 (.cells #[.pointer (some ⟨g, 0, none⟩), .slice none 0 0, .int .i64 0] 103)
  have HDa := Lib.hid (hd.ext hba)
  have HMa := Lib.hid (hM.ext hba)
  have HSa : Hid (StA w.heap.size (w1.alloc (.cells #[.pointer (some ⟨g, 0, none⟩), .slice none 0 0, .int .i64 0] 103)) w1.heap.size g [] 0) := Lib.hid ⟨⟨none, 0, heap_alloc_at w1 _, Own.nil _ _ _ _ _⟩, hM.size, by simp⟩
  clear hww hba hd hM hD H H0
  go_wp2_with fail
  go_loopw [23] (fun i wx => ∃ (k : Nat) (wr : World), wr = wx ∧ k ≤ 2 ∧ i = .int .i64 (k : Int) ∧ StA w.heap.size wr w1.heap.size g (opP D p k).1 (opP D p k).2 ∧ DW (fun b => K b ∧ b < w.heap.size) B wr g pg n D p m ∧ Mod (DF B) w wr) (fun i _ => 2 - (intOf i).toNat)
  case atStart => exact ⟨0, _, rfl, by omega, rfl, HSa.out, HDa.out, HMa.out⟩
  case round =>
    obtain ⟨k, wr, hwr, hk, rfl, hS, hD, hM⟩ := hrel
    subst hwr
    have HS := Lib.hid hS
    have HD := Lib.hid hD
    have HM := Lib.hid hM
    clear hS hD hM HSa HDa HMa
    by_cases hk2 : k < 2
    · obtain ⟨⟨N, L⟩, hmk⟩ : ∃ x, x = markedP D p (k : Int) := ⟨_, rfl⟩
      have HMk := Lib.hid hmk.symm
      clear hmk
      obtain ⟨⟨s0, c0⟩, hst⟩ : ∃ x, x = opP D p k := ⟨_, rfl⟩
      rw [← hst] at HS
      have Hst := Lib.hid hst.symm
      clear hst
      go_wp2_with fail
      refine (smarked_any HD.out hn2 (by omega) hm (k : Int) HMk.out).mono ?_
      rintro e w2 ⟨rfl, hd2, hM2⟩
      rw [Hw.out] at hd2
      have HD2 := Lib.hid hd2
      have HS2 := Lib.hid (HS.out.df hM2)
      have HM2 := Lib.hid (HM.out.trans hM2)
      clear hd2 hM2 HD HS HM
      have hS2 : StA w.heap.size w2 w1.heap.size g s0 c0 := HS2.out
      obtain ⟨⟨sa, sc, hh, hso⟩, hsb, hsl⟩ := hS2
      have q0 := cell_of_row w2 w1.heap.size 0 _ _ _ hh
      have q1 := cell_of_row w2 w1.heap.size 1 _ _ _ hh
      have q2 := cell_of_row w2 w1.heap.size 2 _ _ _ hh
      have hfz : ∀ j, w2.frozen? ⟨w1.heap.size, j, none⟩ = false := fun j => frozen_of_row w2 w1.heap.size j _ _ hh
      have hlt := heap_lt hh
      have Hh := Lib.hid hh
      have Hsb := Lib.hid hsb
      clear hh hso hsl hsb
      by_cases hA : N ≤ c0
      · have hA' : (N : Int) ≤ (c0 : Int) := by omega
        have Hnx : Hid (opP D p (k + 1) = (s0, c0)) := Lib.hid (by rw [opP, Hst.out]; exact opStep_no HMk.out (.inl hA))
        clear hA
        go_wp2_with fail
        go_roundw
        case rel => exact ⟨k + 1, _, rfl, by omega, by go_num, by rw [Hnx.out]; exact HS2.out, HD2.out, HM2.out⟩
        case measure => simp [intOf]; omega
      · have hA' : ¬ (N : Int) ≤ (c0 : Int) := by omega
        by_cases hL : 30000 < L
        · have hL' : (30000 : Int) < (L : Int) := by omega
          have Hnx : Hid (opP D p (k + 1) = (s0, c0)) := Lib.hid (by rw [opP, Hst.out]; exact opStep_no HMk.out (.inr hL))
          clear hA hL
          go_wp2_with fail
          go_roundw
          case rel => exact ⟨k + 1, _, rfl, by omega, by go_num, by rw [Hnx.out]; exact HS2.out, HD2.out, HM2.out⟩
          case measure => simp [intOf]; omega
        · have hL' : ¬ (30000 : Int) < (L : Int) := by omega
          obtain ⟨⟨b, r⟩, hrd⟩ : ∃ x, x = rdP D p (placeN N) L := ⟨_, rfl⟩
          have Hrd := Lib.hid hrd.symm
          have Hnx : Hid (opP D p (k + 1) = if r = true then (b, N) else (s0, c0)) := Lib.hid (by rw [opP, Hst.out]; exact opStep_rd HMk.out (by show ¬ (N ≤ c0 ∨ 30000 < L); omega) Hrd.out)
          have Hbl := Lib.hid (rdP_len Hrd.out)
          have HLl : Hid (L ≤ 30000) := Lib.hid (by omega)
          clear hrd hA hL
          go_wp2_with fail
          refine (place_any N (N : Int) w2 rfl).mono ?_
          rintro e w3 ⟨rfl, rfl⟩
          go_wp2_with fail
          refine (sread_any HD2.out Hw.out hn2 (by omega) hm (placeN N) L _ _ rfl rfl (by have := placeN_le N; omega) HLl.out Hrd.out).mono ?_
          rintro e w3 ⟨a3, k3, c3, rfl, hk3, ho3, hd3, hM3⟩
          have HD3 := Lib.hid hd3
          have HS3 := Lib.hid (HS2.out.df hM3)
          have HM3 := Lib.hid (HM2.out.trans hM3)
          have HO3 := Lib.hid (ho3.mono HM2.out.size)
          have Hk3 := Lib.hid hk3
          have hh3 : w3.heap[w1.heap.size]? = _ := hM3.keep Hh.out (fun hf => by have := hf.2; revert this; decide)
          have q0 := cell_of_row w3 w1.heap.size 0 _ _ _ hh3
          have q1 := cell_of_row w3 w1.heap.size 1 _ _ _ hh3
          have q2 := cell_of_row w3 w1.heap.size 2 _ _ _ hh3
          have hfz : ∀ j, w3.frozen? ⟨w1.heap.size, j, none⟩ = false := fun j => frozen_of_row w3 w1.heap.size j _ _ hh3
          have hlt := heap_lt hh3
          have Hh3 := Lib.hid hh3
          clear ho3 hd3 hM3 hk3 HD2 HS2 HM2 Hh hh3
          cases r with
          | false =>
            have Hnx2 : Hid (opP D p (k + 1) = (s0, c0)) := Lib.hid (by rw [Hnx.out, if_neg (by decide)])
            go_wp2_with fail
            go_roundw
            case rel => exact ⟨k + 1, _, rfl, by omega, by go_num, by rw [Hnx2.out]; exact HS3.out, HD3.out, HM3.out⟩
            case measure => simp [intOf]; omega
          | true =>
            have Hnx2 : Hid (opP D p (k + 1) = (b, N)) := Lib.hid (by rw [Hnx.out, if_pos rfl])
            have hg4 := heap_setCell_same w3 w1.heap.size 2 _ _ (.int .i64 (N : Int)) Hh3.out
            have hm4 := (Mod.refl (fun b T => b = w1.heap.size ∧ T = 103) w3).setCell Hh3.out ⟨rfl, rfl⟩ 2 (.int .i64 (N : Int))
            have hg5 := heap_setCell_same _ w1.heap.size 1 _ _ (.slice a3 k3 c3) hg4
            have hm5 := hm4.setCell hg4 ⟨rfl, rfl⟩ 1 (.slice a3 k3 c3)
            have HD5 := Lib.hid (HD3.out.other hm5 fun b T hf => hf.2)
            have HM5 := Lib.hid (HM3.out.andThen hm5 fun b T hb hf => by have := hf.1; have := Hsb.out; omega)
            have HS5 : Hid (StA w.heap.size _ w1.heap.size g b N) := Lib.hid ⟨⟨a3, c3, by rw [← Hk3.out]; exact hg5, by rw [← Hk3.out]; exact HO3.out.mod hm5 fun _ _ _ hf => absurd hf.2 (by decide)⟩, Hsb.out, Nat.le_trans Hbl.out HLl.out⟩
            clear hg4 hm4 hg5 hm5
            go_wp2_with fail
            go_roundw
            case rel => exact ⟨k + 1, _, rfl, by omega, by go_num, by rw [Hnx2.out]; exact HS5.out, HD5.out, HM5.out⟩
            case measure => simp [intOf]; omega
    · obtain rfl : k = 2 := by omega
      have hS2 := HS.out
      rw [Hr.out] at hS2
      have HS2 := Lib.hid hS2
      have HDK : Hid (DW K B wr g pg n (d.wake p) p m) := Lib.hid (by rw [← HDe.out]; exact HD.out.mono (fun b _ hk => hk.1) (Nat.le_refl _))
      clear hS2 HS HD
      go_wp2
      go_ret2
      exact ⟨w1.heap.size, rfl, HS2.out, HDK.out, HM.out⟩
end Go.Proofs.Ytogcejmnhiphgaa
