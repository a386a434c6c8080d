/- From a walk that returns true and writes nothing that was there to the row: for every law of this seat; and how arguments are opened. -/
import Derived.Test.YtclkkhpnnbkfmaaBase
import Derived.ProofKit
import Derived.OpenShut
import Derived.Deep.Slices
namespace Go.Proofs.Ytclkkhpnnbkfmaa
open Go.ChangeShapes Go.WideShapes Go.ChangeAt Go.RowKit

section
variable {H : Type} {enc : TypeId × Value → H} {P : Program}

/-- The arguments read as they did. -/
theorem args_back (hl : laidOutB P = true) {W W' : World} (hb : Below W.heap.size W W') : ∀ (ts : List TypeId) (vs : List Value) (ds : List (DataW H)) (ps : List MemPlace),
    (∀ t ∈ ts, P.readableRec t = true ∧ t < P.types.size) → DataW.TrodAll enc P W 0 (fun _ => true) true ts vs ds ps → DataW.TrodAll enc P W' 0 (fun b => decide (b < W.heap.size)) true ts vs ds ps
  | [], vs, ds, ps, _, h => by
    cases vs <;> cases ds <;> simp [DataW.TrodAll] at h ⊢
    exact h
  | t :: ts, vs, ds, ps, hr, h => by
    obtain ⟨v, vs', d, ds', p, q, rfl, rfl, rfl, h1, h2⟩ := trodAll_cons h
    have lt0 : ∀ x ∈ p, x.block < W.heap.size := by obtain ⟨m, hm⟩ := h1; exact DataW.trod_lt m _ _ _ hm
    exact trodAll_cons_mk (Below.trod hl (hr t (by simp)).1 (hr t (by simp)).2 h1 hb lt0) (args_back hl hb ts vs' ds' q (fun t ht => hr t (by simp [ht])) h2)

theorem law_post {f : Func} {s : ChangeSpec} {apart fresh handsOn : Bool} {W W' : World} {args : Array Value} {ds gs : List (DataW H)} {before : List MemPlace} {tb : TypeId}
    (hl : laidOutB P = true) (hW : DataW.Whole enc P f.params.toList s.vars apart W args.toList ds gs before) (hv : s.vars = [])
    (hr1 : (s.fn H ds).results = [.lit (.bool true)]) (hr2 : (s.fn H ds).args = ds) (hr3 : (s.fn H ds).vars = []) (hres : f.resultTypes = #[tb]) (htb : P.underlying tb = some .bool)
    (hread0 : (f.params.toList.all fun t => P.readableRec t && decide (t < P.types.size)) = true) (hb : Below W.heap.size W W') :
    s.post enc P f apart fresh handsOn false W args (.bool true) W' := by
  have hread : ∀ t ∈ f.params.toList, P.readableRec t = true ∧ t < P.types.size := fun t ht => by simpa using List.all_eq_true.1 hread0 t ht
  have hW' := hW
  obtain ⟨p, q, hA, hV, rfl, hfz, hnd⟩ := hW
  rw [hv] at hV
  obtain ⟨rfl, rfl⟩ := trodVars_none hV
  refine ⟨ds, [], _, [], p, [], hW', ?_, ?_, ?_, hb.frame _, fun h => by cases h⟩
  · rw [List.append_nil, hr1, hres]
    exact trodAll_cons_mk (shut_bool htb _) trodAll_mk0
  · rw [List.append_nil, hr2]
    exact args_back hl hb _ _ _ _ hread hA
  · rw [List.append_nil, hr3, hv]
    rfl

/-! ### arguments opened -/
theorem src_of_cells {w : World} {a : Addr} {xs : List Value} (h : ∀ i (hi : i < xs.length), w.cell? (a.add i) = some xs[i]) : Src w (some a) xs := by
  cases hx : xs with
  | nil => exact Src.nil _ _
  | cons x xs' =>
    have h0 := h 0 (by rw [hx]; simp)
    obtain ⟨b, o, spot⟩ := a
    have hsp : spot = none := by simpa [Addr.add] using World.cell?_spot h0
    subst hsp
    have hadd : ∀ i, (⟨b, o, none⟩ : Addr).add i = ⟨b, o + i, none⟩ := fun i => by unfold Addr.add; split <;> simp_all
    rw [hadd] at h0
    rw [← hx]
    cases hh : w.heap[b]? with
    | none => simp [World.cell?, hh] at h0
    | some ob =>
      cases ob with
      | cells cs T m =>
        refine Or.inr ⟨b, o, cs, T, m, rfl, hh, ?_⟩
        apply List.ext_getElem?
        intro i
        by_cases hi : i < xs.length
        · have := h i hi
          rw [hadd, cell_of_row w b (o + i) cs T m hh] at this
          rw [List.getElem?_take, if_pos hi, List.getElem?_drop, List.getElem?_eq_getElem hi]
          simpa using this
        · rw [List.getElem?_eq_none (by simp; omega), List.getElem?_eq_none (by omega)]
      | _ => simp [World.cell?, hh] at h0

def byteOf (z : Int) : Byte := BitVec.ofInt 8 z
theorem byteOf_val {z : Int} (h : (Lit.int .u8 z).wf = true) : u8v (byteOf z) = .int .u8 z := by
  have hx : 0 ≤ z ∧ z ≤ 255 := by simpa [Lit.wf, IntKind.min, IntKind.max, IntKind.signed, IntKind.bits] using h
  simp only [u8v, byteOf, Value.int.injEq, true_and, BitVec.toNat_ofInt]
  omega

/-- '[]byte'. -/
theorem open_bytes {t e : TypeId} {w : World} {base : Nat} {spare : Nat → Bool} {held : Bool} {fuel : Nat} {v : Value} {x : DataW H × List MemPlace} (ht : P.underlying t = some (.slice e)) (he : P.underlying e = some (.int .u8)) (hc : P.cellsOf e = 1)
    (h : DataW.trod enc P w base spare held fuel t [v] = some x) : ∃ a c l, v = .slice a l.length c ∧ Src w a (bvs l) ∧ l.length ≤ 9223372036854775807 ∧ l.length ≤ c := by
  rcases open_ints ht he hc h with ⟨hcs, _⟩ | ⟨a, len, cap, zs, hcs, _, hl, hm, hz, _, hcell, hwz⟩
  · simp at hcs
    exact ⟨none, 0, [], hcs, Src.nil _ _, by simp, by simp⟩
  · simp at hcs
    have hlz : len ≤ zs.length := by rw [hz]; split <;> omega
    refine ⟨some a, cap, (zs.take len).map byteOf, by rw [hcs]; simp [Nat.min_eq_left hlz], src_of_cells fun i hi => ?_, by simp [maxLen] at hm ⊢; omega, by simp; omega⟩
    simp at hi
    rw [hcell i (by omega)]
    have hg : zs.getD i 0 = zs[i]'(by omega) := by simp [show i < zs.length by omega]
    rw [hg]
    have := byteOf_val (hwz (zs[i]'(by omega)) (List.getElem_mem _))
    simp only [bvs, List.getElem_map, List.getElem_take]
    rw [this]

/-- '[][]byte'. -/
theorem open_rows {t e e' : TypeId} {w : World} {base : Nat} {spare : Nat → Bool} {held : Bool} {fuel : Nat} {v : Value} {x : DataW H × List MemPlace} (ht : P.underlying t = some (.slice e)) (hc : P.cellsOf e = 1) (he : P.underlying e = some (.slice e'))
    (he' : P.underlying e' = some (.int .u8)) (hc' : P.cellsOf e' = 1)
    (h : DataW.trod enc P w base spare held fuel t [v] = some x) : ∃ a c ps, v = .slice a ps.length c ∧ Mat w a ps ∧ ps.length ≤ 9223372036854775807 := by
  rcases Go.Deep.open_slice1 ht hc h with ⟨hcs, _⟩ | ⟨a, len, cap, m, n, V, D, Pl, hcs, _, hl, hm, hmm, _, hx⟩
  · simp at hcs
    exact ⟨none, 0, [], hcs, ⟨Src.nil _ _, by simp⟩, by simp⟩
  · simp at hcs
    have hlm : len ≤ m := by rw [hmm]; split <;> omega
    have key : ∀ i, i < m → ∃ p : Bsl, V i = p.val ∧ p.ok w := by
      intro i hi
      obtain ⟨a1, c1, l1, e1, hs, hl1, _⟩ := open_bytes he he' hc' (hx i hi).2
      exact ⟨⟨a1, c1, l1⟩, e1, hs, hl1⟩
    have : ∀ n, n ≤ m → ∃ ps : List Bsl, ps.length = n ∧ (∀ i (hi : i < ps.length), V i = ps[i].val) ∧ ∀ p ∈ ps, p.ok w := by
      intro n
      induction n with
      | zero => intro _; exact ⟨[], rfl, by simp, by simp⟩
      | succ n ih =>
        intro hn
        obtain ⟨ps, h1, h2, h3⟩ := ih (by omega)
        obtain ⟨p, hp1, hp2⟩ := key n (by omega)
        refine ⟨ps ++ [p], by simp [h1], fun i hi => ?_, fun q hq => ?_⟩
        · by_cases hi' : i < ps.length
          · rw [List.getElem_append_left hi']; exact h2 i hi'
          · have : i = ps.length := by simp at hi; omega
            subst this
            simp [h1, hp1]
        · rcases List.mem_append.1 hq with h | h
          · exact h3 q h
          · simp at h; subst h; exact hp2
    obtain ⟨ps, h1, h2, h3⟩ := this len hlm
    refine ⟨some a, cap, ps, by rw [hcs, h1], ⟨src_of_cells fun i hi => ?_, h3⟩, by rw [h1]; simp [maxLen] at hm; omega⟩
    simp at hi
    rw [(hx i (by omega)).1, List.getElem_map, h2 i hi]

end
end Go.Proofs.Ytclkkhpnnbkfmaa
