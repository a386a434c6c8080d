/- Aggregates' blocks: plain. -/
import Derived.Test.YtogcejmnhiphgaaAggrPack
namespace Go.Proofs.Ytogcejmnhiphgaa
open Go.RowKit

theorem rowC_join (l : List Byte) (n : Nat) (hn : 1 ≤ n) : ∀ k, ((List.range k).map (rowC l n)).flatten = l.take (k * n) := by
  intro k
  induction k with
  | zero => simp
  | succ k ih =>
    rw [List.range_succ, List.map_append, List.flatten_append, ih]
    simp only [List.map_cons, List.map_nil, List.flatten_cons, List.flatten_nil, List.append_nil, rowC]
    rw [Nat.add_mul, Nat.one_mul, List.take_add]
theorem rowsC_flat (l : List Byte) {n : Nat} (hn : 1 ≤ n) : (rowsC l n).flatten = l := by
  unfold rowsC
  rw [rowC_join l n hn, List.take_of_length_le]
  have := Nat.div_add_mod (l.length + n - 1) n
  have h2 := Nat.mod_lt (l.length + n - 1) (show 0 < n by omega)
  rw [Nat.mul_comm] at this
  omega
theorem rowsC_len (l : List Byte) (n : Nat) : (rowsC l n).length = (l.length + n - 1) / n := by simp [rowsC]
theorem rowC_le (l : List Byte) (n k : Nat) : (rowC l n k).length ≤ n := by unfold rowC; rw [List.length_take]; omega
/-- What Pack told, as flat bytes. -/
theorem PackR.flat {w' : World} {B : Nat} {rows : List (List Byte)} {of : List Int} {aB : Option Addr} {m cB : Nat} {aO : Option Addr} {no cO : Nat} {bs : List Bsl} (h : PackR w' B rows of aB m cB aO no cO bs) : flat bs = rows.flatten := by
  unfold Go.Proofs.Ytogcejmnhiphgaa.flat
  rw [h.rows]
theorem PackR.len {w' : World} {B : Nat} {rows : List (List Byte)} {of : List Int} {aB : Option Addr} {m cB : Nat} {aO : Option Addr} {no cO : Nat} {bs : List Bsl} (h : PackR w' B rows of aB m cB aO no cO bs) : m = bs.length ∧ m = rows.length ∧ no = of.length ∧ m ≤ cB ∧ no ≤ cO := by
  have h1 := h.own.1
  rw [List.length_map] at h1
  have h2 := h.offs.1
  rw [ivs_length] at h2
  have h3 : rows.length = bs.length := by rw [← h.rows, List.length_map]
  exact ⟨by omega, by omega, by omega, h.own.len.1, h.offs.len.1⟩
theorem PackR.mat {w' : World} {B : Nat} {rows : List (List Byte)} {of : List Int} {aB : Option Addr} {m cB : Nat} {aO : Option Addr} {no cO : Nat} {bs : List Bsl} (h : PackR w' B rows of aB m cB aO no cO bs) : Mat w' aB bs :=
  ⟨h.own.src, fun p hp => ⟨(h.dat p hp).src, by have := (h.dat p hp).len; unfold maxLen at this; omega⟩⟩
theorem PackR.ext {w' w2 : World} {B : Nat} {rows : List (List Byte)} {of : List Int} {aB : Option Addr} {m cB : Nat} {aO : Option Addr} {no cO : Nat} {bs : List Bsl} (h : PackR w' B rows of aB m cB aO no cO bs) (hb : Below w'.heap.size w' w2) : PackR w2 B rows of aB m cB aO no cO bs :=
  ⟨h.own.ext hb, h.rows, fun p hp => (h.dat p hp).ext hb, h.offs.ext hb⟩
theorem packP_no {size : Int} {l : List Rec} {rows : List (List Byte)} {of : List Int} {E : Int} (h : packP size l = (rows, of, E)) : E = (wholeP size l).2 ∧ (E ≠ 0 → rows = [] ∧ of = []) ∧ (E = 0 → rows = rowsC (wholeP size l).1 size.toNat ∧ of = offsP l) := by
  unfold packP at h
  split at h
  · rename_i hE
    simp only [Prod.mk.injEq] at h
    obtain ⟨rfl, rfl, rfl⟩ := h
    exact ⟨rfl, fun _ => ⟨rfl, rfl⟩, fun h => absurd h hE⟩
  · rename_i hE
    simp only [Prod.mk.injEq] at h
    obtain ⟨rfl, rfl, rfl⟩ := h
    exact ⟨by simpa using Eq.symm (by simpa using hE), fun h => absurd rfl h, fun _ => ⟨rfl, rfl⟩⟩
/-- How many blocks Need tells: as many as Pack makes. -/
theorem needP_pack {size : Int} {l : List Rec} (h : (wholeP size l).2 = 0) : needP size l = (((rowsC (wholeP size l).1 size.toNat).length : Int), 0) := by
  obtain ⟨h1, _⟩ := wholeP_ok h
  unfold needP
  rw [if_neg (by simpa using h), rowsC_len]
  obtain ⟨sz, hsz⟩ := Int.eq_ofNat_of_zero_le (show 0 ≤ size by omega)
  rw [hsz, Int.toNat_natCast, Int.tdiv_eq_ediv_of_nonneg (by omega)]
  congr 1
  rw [Int.natCast_ediv]
  congr 1
  omega
theorem needP_no {size : Int} {l : List Rec} (h : (wholeP size l).2 ≠ 0) : needP size l = (0, (wholeP size l).2) := by
  unfold needP
  rw [if_pos h]
theorem wholeP_flat {size : Int} {l : List Rec} (h : (wholeP size l).2 = 0) : (rowsC (wholeP size l).1 size.toNat).flatten = joinB (aggrL l) := by
  obtain ⟨h1, _, _, _, h5⟩ := wholeP_ok h
  rw [rowsC_flat _ (by omega), h5]
end Go.Proofs.Ytogcejmnhiphgaa
