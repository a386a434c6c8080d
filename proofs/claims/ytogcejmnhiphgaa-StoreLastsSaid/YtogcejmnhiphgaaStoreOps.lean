/- The store's small functions: place, sector, mark, off, marked. -/
import Derived.Test.YtogcejmnhiphgaaDiskDW
import Derived.Test.YtogcejmnhiphgaaBin
namespace Go.Proofs.Ytogcejmnhiphgaa
open Go.RowKit

theorem DS.wake_wake (d : DS) (p : PS) : (d.wake p).wake p = d.wake p := by
  unfold DS.wake
  by_cases h : p.off = true ∨ d.life = p.life
  · rw [if_pos h, if_pos h]
  · rw [if_neg h]
    rw [if_pos (.inr rfl)]
theorem DS.read_wake (d : DS) (p : PS) (i : Int) : (d.wake p).read p i = d.read p i := by
  unfold DS.read
  rw [DS.wake_wake]
/-- Where an area begins. -/
def placeN (n : Nat) : Nat := 2 + n % 2 * 118
/-- The bytes of a mark. -/
def markB (n len : Nat) : List Byte := pad ([83#8] ++ be n 7 ++ be len 4)
/-- What the bytes of a mark say. -/
def saidB (b : List Byte) : Nat × Nat := if b.getD 0 0#8 = 83#8 then (numOf ((b.drop 1).take 7), numOf ((b.drop 8).take 4)) else (0, 0)
def markedP (d : DS) (p : PS) (i : Int) : Nat × Nat := if (d.read p i).2 = 0 then saidB (d.read p i).1 else (0, 0)

theorem place_any (n : Nat) (N : Int) (w : World) (hN : N = (n : Int)) :
    Calls Try.prog 59 #[.int .i64 N] w fun e w' => e = .returned (.int .i64 ((placeN n : Nat) : Int)) ∧ w = w' := by
  have h1 : N.tmod 2 = ((n % 2 : Nat) : Int) := by rw [hN, Int.tmod_eq_emod_of_nonneg (by omega)]; omega
  have h2 : ((n % 2 : Nat) : Int) < 2 := by omega
  have hw1 : IntKind.i64.wrap (((n % 2 : Nat) : Int) * 118) = ((n % 2 * 118 : Nat) : Int) := by rw [IntKind.wrap_i64]; omega
  have hw2 : IntKind.i64.wrap (2 + ((n % 2 * 118 : Nat) : Int)) = ((placeN n : Nat) : Int) := by rw [IntKind.wrap_i64]; unfold placeN; omega
  clear hN
  go_enter Try.func59, Try.ntmps59
  go_wp2
  go_ret
  exact ⟨by simp_all; unfold placeN; omega, rfl⟩

set_option maxRecDepth 100000 in
set_option maxHeartbeats 1000000 in
theorem ssector_any (a : Option Addr) (c n : Nat) (l : List Byte) (w : World) (hs : Src w a (bvs l)) (hn : n = l.length) (hl : n ≤ 140737488355328) :
    Calls Try.prog 60 #[.slice a n c] w fun e w' => ∃ a' c', e = .returned (.slice a' 256 c') ∧ Own w' w.heap.size 5 1 a' 256 c' (bvs (pad l)) ∧ Below w.heap.size w w' := by
  obtain ⟨i0, hi, hz0, hz1, hz2⟩ := info_parts info8
  have Hn := Lib.hid hn
  clear hn
  go_enter Try.func60, Try.ntmps60
  go_wp2_with (first
    | (refine wpList_make8 rfl _ _ 34 rfl 5 i0 Try.underlying34 hi hz0 hz1 hz2 256 rfl rfl (by decide) ?_
       intro w2 ho2 hb2
       have hs2 := hs.ext hb2)
    | (refine wpList_copyx rfl (.tmp 5) (.tmp 6) 34 rfl _ 5 Try.underlying34 (by rw [hi]; simp [hz1]) _ _ _ _ rfl ho2 a n c (bvs l) rfl hs2 (by rw [bvs_length]; exact Hn.out.symm) (bvs_one _) ?_
       intro w3 ho3 hb3 hz3 hf3))
  have hfin : (bvs l).take 256 ++ (bvs (zb 256)).drop n = bvs (pad l) := by
    rw [pad, bvs_append, bvs_take, bvs_drop, Hn.out]
  rw [hfin] at ho3
  have hbA := hb2.trans (hb3.mono (by simp))
  have Ho3 := Lib.hid ho3
  clear hfin ho3 hf3 hs2
  go_wp2
  go_ret
  exact ⟨_, _, rfl, Ho3.out.mono (by simp), hbA⟩

set_option maxRecDepth 100000 in
set_option maxHeartbeats 1000000 in
theorem smark_any (n len : Nat) (N L : Int) (w : World) (hN : N = (n : Int)) (hL : L = (len : Int)) (hn : n < 256 ^ 7) (hl : len < 256 ^ 4) :
    Calls Try.prog 62 #[.int .i64 N, .int .i64 L] w fun e w' => ∃ a' c', e = .returned (.slice a' 256 c') ∧ Own w' w.heap.size 5 1 a' 256 c' (bvs (markB n len)) ∧ Below w.heap.size w w' := by
  have hba := ext_alloc w (.cells #[.int .u8 83] 5)
  have hs0 : Src (w.alloc (.cells #[.int .u8 83] 5)) (some ⟨w.heap.size, 0, none⟩) (bvs [83#8]) := src_new w [.int .u8 83] 5
  have HP := Lib.hid (put_ok (some ⟨w.heap.size, 0, none⟩) 1 1 [83#8] n 7 N 7 _ hs0 rfl hN rfl (by decide) (by decide) (by decide) hn)
  have HB := Lib.hid hba
  have HL := Lib.hid hL
  have Hl := Lib.hid hl
  clear hba hs0 hN hL hn hl
  go_enter Try.func62, Try.ntmps62
  go_wp2_with fail
  refine HP.out.mono ?_
  rintro e w2 ⟨a2, c2, rfl, ho2, hb2⟩
  have HB2 := Lib.hid (bthen HB.out hb2 (Nat.le_refl _))
  have HS2 := Lib.hid ho2.src
  clear ho2 hb2 HP HB
  go_wp2_with fail
  refine (put_ok a2 c2 8 ([83#8] ++ be n 7) len 4 L 4 w2 HS2.out (by rw [List.length_append, be_length]; rfl) HL.out rfl (by decide) (by decide) (by decide) Hl.out).mono ?_
  rintro e w3 ⟨a3, c3, rfl, ho3, hb3⟩
  have HB3 := Lib.hid (bthen HB2.out hb3 (Nat.le_refl _))
  have HS3 := Lib.hid ho3.src
  clear ho3 hb3 HS2 HB2
  go_wp2_with fail
  refine (ssector_any a3 c3 12 ([83#8] ++ be n 7 ++ be len 4) w3 HS3.out (by rw [List.length_append, List.length_append, be_length, be_length]; rfl) (by decide)).mono ?_
  rintro e w4 ⟨a4, c4, rfl, ho4, hb4⟩
  have HB4 := Lib.hid (bthen HB3.out hb4 (Nat.le_refl _))
  have HO4 := Lib.hid (ho4.mono HB3.out.size)
  clear ho4 hb4
  go_wp2
  go_ret
  exact ⟨a4, c4, rfl, HO4.out, HB4.out⟩

set_option maxRecDepth 100000 in
set_option maxHeartbeats 1000000 in
theorem soff_any {K : Nat → Prop} {B : Nat} {w : World} {g pg n : Nat} {d : DS} {p : PS} {m : Nat} (h : DW K B w g pg n d p m) (hn : n ≤ 100000) (hn0 : 0 < n) (hm : m ≤ 100000) {r : Bool} (hr : p.off = r) :
    Calls Try.prog 56 #[.pointer (some ⟨g, 0, none⟩)] w fun e w' => e = .returned (.bool r) ∧ DW K B w' g pg n (d.wake p) p m ∧ Mod (DF B) w w' := by
  obtain ⟨⟨b, E⟩, hR⟩ : ∃ x, x = d.read p 0 := ⟨_, rfl⟩
  have hE : decide (E = 5) = r := by
    unfold DS.read DS.get at hR
    cases hp : p.off with
    | true => rw [hp] at hR hr; simp at hR; rw [hR.2, ← hr]; rfl
    | false =>
      rw [hp] at hR hr
      rw [← hr]
      simp only [Bool.false_eq_true, if_false] at hR
      split at hR
      · split at hR <;> (simp only [Prod.mk.injEq] at hR; rw [hR.2]; rfl)
      · simp only [Prod.mk.injEq] at hR; rw [hR.2]; rfl
  have H := Lib.hid h
  have HR := Lib.hid hR.symm
  have hE1 : ((E : Int) == 5) = r := hE
  clear h hR hr hE
  go_enter Try.func56, Try.ntmps56
  go_wp2_with fail
  refine (H.out.read hn hn0 hm 0 HR.out).mono ?_
  rintro e w2 ⟨a2, c2, k2, rfl, _, _, hd, hM⟩
  have HD := Lib.hid hd
  have HM := Lib.hid hM
  clear hd hM
  go_wp2
  go_ret
  exact ⟨by first | rfl | (rw [hE1]), HD.out, HM.out⟩

set_option maxRecDepth 100000 in
set_option maxHeartbeats 2000000 in
theorem smarked_any {K : Nat → Prop} {B : Nat} {w : World} {g pg n : Nat} {d : DS} {p : PS} {m : Nat} (h : DW K B w g pg n d p m) (hn : n ≤ 100000) (hn0 : 0 < n) (hm : m ≤ 100000) (i : Int) {N L : Nat} (hr : markedP d p i = (N, L)) :
    Calls Try.prog 57 #[.pointer (some ⟨g, 0, none⟩), .int .i64 i] w fun e w' => e = .returned (.tuple #[.int .i64 (N : Int), .int .i64 (L : Int)]) ∧ DW K B w' g pg n (d.wake p) p m ∧ Mod (DF B) w w' := by
  obtain ⟨⟨b, E⟩, hR⟩ : ∃ x, x = d.read p i := ⟨_, rfl⟩
  have hlen : E = 0 → b.length = 256 := by
    intro h0
    have hok := h.ok.wake p
    unfold DS.read DS.get at hR
    split at hR
    · simp only [Prod.mk.injEq] at hR; omega
    · split at hR
      · split at hR
        · simp only [Prod.mk.injEq] at hR; omega
        · simp only [Prod.mk.injEq] at hR
          rw [hR.1]
          unfold Sec.bytes
          split
          · simp [zeros256]
          · rename_i hin _ hne
            have hi2 : i.toNat < (d.wake p).now.length := by unfold DS.inB at hin; simp at hin; omega
            rw [List.getD_eq_getElem?_getD, List.getElem?_eq_getElem hi2] at hne ⊢
            exact (hok.bytes _ (List.mem_append_right _ (List.getElem_mem hi2))).resolve_left hne
      · simp only [Prod.mk.injEq] at hR; omega
  unfold markedP at hr
  rw [← hR] at hr
  have H := Lib.hid h
  have HR := Lib.hid hR.symm
  have Hr := Lib.hid hr
  have Hlen := Lib.hid hlen
  clear h hR hr hlen
  go_enter Try.func57, Try.ntmps57
  go_wp2_with fail
  refine (H.out.read hn hn0 hm i HR.out).mono ?_
  rintro e w2 ⟨a2, c2, k2, rfl, hk2, ho2, hd, hM⟩
  have HD := Lib.hid hd
  have HM := Lib.hid hM
  have HO := Lib.hid ho2
  have HK := Lib.hid hk2
  clear hd hM ho2 hk2
  by_cases hE : E = 0
  · subst hE
    have hb := Hlen.out rfl
    obtain rfl : k2 = 256 := HK.out.trans hb
    have hb0 : 0 < b.length := by omega
    obtain ⟨x2, o2, rfl, hlx, hat⟩ := src_bytes_at HO.out.src hb0
    have q0 := hat 0 hb0
    rw [Nat.add_zero] at q0
    have hg0 : b.getD 0 0#8 = b[0] := by simp [List.getD, List.getElem?_eq_getElem hb0]
    have Hg0 := Lib.hid hg0
    have Hb := Lib.hid hb
    have hcc := HO.out.len.1
    clear hat hg0 hb Hlen
    generalize b[0] = x at *
    have hr := Hr.out
    try dsimp only at hr
    rw [if_pos rfl] at hr
    unfold saidB at hr
    rw [Hg0.out] at hr
    by_cases hx : x = 83#8
    · rw [if_pos hx] at hr
      simp only [Prod.mk.injEq] at hr
      obtain ⟨h1, h2⟩ := hr
      subst hx
      rw [show ((83#8 : Byte).toNat : Int) = 83 from rfl] at q0
      have H1 := Lib.hid h1
      have H2 := Lib.hid h2
      clear h1 h2 Hg0 Hr
      go_wp2_with fail
      refine (get_ok _ c2 256 b 1 7 1 7 w2 HO.out.src Hb.out.symm rfl rfl (by decide) hcc (by decide) (by decide) (by decide)).mono ?_
      rintro e w3 ⟨rfl, rfl⟩
      rw [H1.out]
      go_wp2_with fail
      refine (get_ok _ c2 256 b 8 4 8 4 w2 HO.out.src Hb.out.symm rfl rfl (by decide) hcc (by decide) (by decide) (by decide)).mono ?_
      rintro e w3 ⟨rfl, rfl⟩
      rw [H2.out]
      go_wp2
      go_ret2
      exact ⟨rfl, HD.out, HM.out⟩
    · rw [if_neg hx] at hr
      simp only [Prod.mk.injEq] at hr
      obtain ⟨rfl, rfl⟩ := hr
      have hx2 : ((x.toNat : Int) != 83) = true := by
        simp
        intro h
        apply hx
        apply BitVec.eq_of_toNat_eq
        simpa using (by omega : x.toNat = 83)
      clear Hg0 Hr hx
      go_wp2
      go_ret2
      exact ⟨rfl, HD.out, HM.out⟩
  · have hE' : (E != 0) = true := by simpa using hE
    have hr := Hr.out
    try dsimp only at hr
    rw [if_neg hE] at hr
    simp only [Prod.mk.injEq] at hr
    obtain ⟨rfl, rfl⟩ := hr
    clear Hr Hlen HK
    go_wp2
    go_ret2
    exact ⟨rfl, HD.out, HM.out⟩
end Go.Proofs.Ytogcejmnhiphgaa
