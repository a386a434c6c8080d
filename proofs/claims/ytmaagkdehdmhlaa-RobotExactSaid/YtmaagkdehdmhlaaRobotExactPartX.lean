/- Several texts of this claim, one behind the other: Law, LawInts, LawFlt, LawAct5. -/
import Derived.Test.YtmaagkdehdmhlaaBase
import Derived.ProofKit
import Derived.OpenShut
import Derived.Deep.Slices
import Derived.Test.YtmaagkdehdmhlaaRobotExactPartH
import Derived.Deep.Grids
import Derived.Test.YtmaagkdehdmhlaaRobotExactPartB
import Derived.Deep.SlicePairs
import Derived.Deep.Strs
import Derived.Lib.SmallJoins
import Derived.Test.YtmaagkdehdmhlaaRobotExactPartW
/- From a walk that returns true and writes nothing that was there to the row: for every law of this seat; and how arguments are opened. -/
namespace Go.Proofs.Ytmaagkdehdmhlaa
open Go.ChangeShapes Go.WideShapes Go.ChangeAt Go.RowKit

section
variable {H : Type} {enc : TypeId × Value → H} {P : Program}

/-- The arguments read as they did. -/
theorem args_back (hl : laidOutB P = true) {W W' : World} (hb : Below W.heap.size W W') : ∀ (ts : List TypeId) (vs : List Value) (ds : List (DataW H)) (ps : List MemPlace),
    (∀ t ∈ ts, P.readableRec t = true ∧ t < P.types.size) → DataW.TrodAll enc P W 0 (fun _ => true) true ts vs ds ps → DataW.TrodAll enc P W' 0 (fun b => decide (b < W.heap.size)) true ts vs ds ps
  | [], vs, ds, ps, _, h => by
    cases vs <;> cases ds <;> simp [DataW.TrodAll] at h ⊢
    exact h
  | t :: ts, vs, ds, ps, hr, h => by
    obtain ⟨v, vs', d, ds', p, q, rfl, rfl, rfl, h1, h2⟩ := trodAll_cons h
    have lt0 : ∀ x ∈ p, x.block < W.heap.size := by obtain ⟨m, hm⟩ := h1; exact DataW.trod_lt m _ _ _ hm
    exact trodAll_cons_mk (Below.trod hl (hr t (by simp)).1 (hr t (by simp)).2 h1 hb lt0) (args_back hl hb ts vs' ds' q (fun t ht => hr t (by simp [ht])) h2)

theorem law_post {f : Func} {s : ChangeSpec} {apart fresh handsOn : Bool} {W W' : World} {args : Array Value} {ds gs : List (DataW H)} {before : List MemPlace} {tb : TypeId}
    (hl : laidOutB P = true) (hW : DataW.Whole enc P f.params.toList s.vars apart W args.toList ds gs before) (hv : s.vars = [])
    (hr1 : (s.fn H ds).results = [.lit (.bool true)]) (hr2 : (s.fn H ds).args = ds) (hr3 : (s.fn H ds).vars = []) (hres : f.resultTypes = #[tb]) (htb : P.underlying tb = some .bool)
    (hread0 : (f.params.toList.all fun t => P.readableRec t && decide (t < P.types.size)) = true) (hb : Below W.heap.size W W') :
    s.post enc P f apart fresh handsOn false W args (.bool true) W' := by
  have hread : ∀ t ∈ f.params.toList, P.readableRec t = true ∧ t < P.types.size := fun t ht => by simpa using List.all_eq_true.1 hread0 t ht
  have hW' := hW
  obtain ⟨p, q, hA, hV, rfl, hfz, hnd⟩ := hW
  rw [hv] at hV
  obtain ⟨rfl, rfl⟩ := trodVars_none hV
  refine ⟨ds, [], _, [], p, [], hW', ?_, ?_, ?_, hb.frame _, fun h => by cases h⟩
  · rw [List.append_nil, hr1, hres]
    exact trodAll_cons_mk (shut_bool htb _) trodAll_mk0
  · rw [List.append_nil, hr2]
    exact args_back hl hb _ _ _ _ hread hA
  · rw [List.append_nil, hr3, hv]
    rfl

/-! ### arguments opened -/
theorem src_of_cells {w : World} {a : Addr} {xs : List Value} (h : ∀ i (hi : i < xs.length), w.cell? (a.add i) = some xs[i]) : Src w (some a) xs := by
  cases hx : xs with
  | nil => exact Src.nil _ _
  | cons x xs' =>
    have h0 := h 0 (by rw [hx]; simp)
    obtain ⟨b, o, spot⟩ := a
    have hsp : spot = none := by simpa [Addr.add] using World.cell?_spot h0
    subst hsp
    have hadd : ∀ i, (⟨b, o, none⟩ : Addr).add i = ⟨b, o + i, none⟩ := fun i => by unfold Addr.add; split <;> simp_all
    rw [hadd] at h0
    rw [← hx]
    cases hh : w.heap[b]? with
    | none => simp [World.cell?, hh] at h0
    | some ob =>
      cases ob with
      | cells cs T m =>
        refine Or.inr ⟨b, o, cs, T, m, rfl, hh, ?_⟩
        apply List.ext_getElem?
        intro i
        by_cases hi : i < xs.length
        · have := h i hi
          rw [hadd, cell_of_row w b (o + i) cs T m hh] at this
          rw [List.getElem?_take, if_pos hi, List.getElem?_drop, List.getElem?_eq_getElem hi]
          simpa using this
        · rw [List.getElem?_eq_none (by simp; omega), List.getElem?_eq_none (by omega)]
      | _ => simp [World.cell?, hh] at h0

def byteOf (z : Int) : Byte := BitVec.ofInt 8 z
theorem byteOf_val {z : Int} (h : (Lit.int .u8 z).wf = true) : u8v (byteOf z) = .int .u8 z := by
  have hx : 0 ≤ z ∧ z ≤ 255 := by simpa [Lit.wf, IntKind.min, IntKind.max, IntKind.signed, IntKind.bits] using h
  simp only [u8v, byteOf, Value.int.injEq, true_and, BitVec.toNat_ofInt]
  omega

/-- '[]byte'. -/
theorem open_bytes {t e : TypeId} {w : World} {base : Nat} {spare : Nat → Bool} {held : Bool} {fuel : Nat} {v : Value} {x : DataW H × List MemPlace} (ht : P.underlying t = some (.slice e)) (he : P.underlying e = some (.int .u8)) (hc : P.cellsOf e = 1)
    (h : DataW.trod enc P w base spare held fuel t [v] = some x) : ∃ a c l, v = .slice a l.length c ∧ Src w a (bvs l) ∧ l.length ≤ 9223372036854775807 ∧ l.length ≤ c := by
  rcases open_ints ht he hc h with ⟨hcs, _⟩ | ⟨a, len, cap, zs, hcs, _, hl, hm, hz, _, hcell, hwz⟩
  · simp at hcs
    exact ⟨none, 0, [], hcs, Src.nil _ _, by simp, by simp⟩
  · simp at hcs
    have hlz : len ≤ zs.length := by rw [hz]; split <;> omega
    refine ⟨some a, cap, (zs.take len).map byteOf, by rw [hcs]; simp [Nat.min_eq_left hlz], src_of_cells fun i hi => ?_, by simp [maxLen] at hm ⊢; omega, by simp; omega⟩
    simp at hi
    rw [hcell i (by omega)]
    have hg : zs.getD i 0 = zs[i]'(by omega) := by simp [show i < zs.length by omega]
    rw [hg]
    have := byteOf_val (hwz (zs[i]'(by omega)) (List.getElem_mem _))
    simp only [bvs, List.getElem_map, List.getElem_take]
    rw [this]

/-- '[][]byte'. -/
theorem open_rows {t e e' : TypeId} {w : World} {base : Nat} {spare : Nat → Bool} {held : Bool} {fuel : Nat} {v : Value} {x : DataW H × List MemPlace} (ht : P.underlying t = some (.slice e)) (hc : P.cellsOf e = 1) (he : P.underlying e = some (.slice e'))
    (he' : P.underlying e' = some (.int .u8)) (hc' : P.cellsOf e' = 1)
    (h : DataW.trod enc P w base spare held fuel t [v] = some x) : ∃ a c ps, v = .slice a ps.length c ∧ Mat w a ps ∧ ps.length ≤ 9223372036854775807 := by
  rcases Go.Deep.open_slice1 ht hc h with ⟨hcs, _⟩ | ⟨a, len, cap, m, n, V, D, Pl, hcs, _, hl, hm, hmm, _, hx⟩
  · simp at hcs
    exact ⟨none, 0, [], hcs, ⟨Src.nil _ _, by simp⟩, by simp⟩
  · simp at hcs
    have hlm : len ≤ m := by rw [hmm]; split <;> omega
    have key : ∀ i, i < m → ∃ p : Bsl, V i = p.val ∧ p.ok w := by
      intro i hi
      obtain ⟨a1, c1, l1, e1, hs, hl1, _⟩ := open_bytes he he' hc' (hx i hi).2
      exact ⟨⟨a1, c1, l1⟩, e1, hs, hl1⟩
    have : ∀ n, n ≤ m → ∃ ps : List Bsl, ps.length = n ∧ (∀ i (hi : i < ps.length), V i = ps[i].val) ∧ ∀ p ∈ ps, p.ok w := by
      intro n
      induction n with
      | zero => intro _; exact ⟨[], rfl, by simp, by simp⟩
      | succ n ih =>
        intro hn
        obtain ⟨ps, h1, h2, h3⟩ := ih (by omega)
        obtain ⟨p, hp1, hp2⟩ := key n (by omega)
        refine ⟨ps ++ [p], by simp [h1], fun i hi => ?_, fun q hq => ?_⟩
        · by_cases hi' : i < ps.length
          · rw [List.getElem_append_left hi']; exact h2 i hi'
          · have : i = ps.length := by simp at hi; omega
            subst this
            simp [h1, hp1]
        · rcases List.mem_append.1 hq with h | h
          · exact h3 q h
          · simp at h; subst h; exact hp2
    obtain ⟨ps, h1, h2, h3⟩ := this len hlm
    refine ⟨some a, cap, ps, by rw [hcs, h1], ⟨src_of_cells fun i hi => ?_, h3⟩, by rw [h1]; simp [maxLen] at hm; omega⟩
    simp at hi
    rw [(hx i (by omega)).1, List.getElem_map, h2 i hi]

end
end Go.Proofs.Ytmaagkdehdmhlaa

/- How lists of numbers and of booleans are opened. -/
namespace Go.Proofs.Ytmaagkdehdmhlaa
open Go.ChangeShapes Go.WideShapes Go.ChangeAt Go.RowKit

section
variable {H : Type} {enc : TypeId × Value → H} {P : Program}
/-- '[]int'. -/
theorem open_intsv {t e : TypeId} {w : World} {base : Nat} {spare : Nat → Bool} {held : Bool} {fuel : Nat} {v : Value} {x : DataW H × List MemPlace} (ht : P.underlying t = some (.slice e)) (he : P.underlying e = some (.int .i64)) (hc : P.cellsOf e = 1)
    (h : DataW.trod enc P w base spare held fuel t [v] = some x) : ∃ a c zs, v = .slice a zs.length c ∧ Src w a (ivs zs) ∧ zs.length ≤ 9223372036854775807 ∧ ∀ z ∈ zs, (Lit.int .i64 z).wf = true := by
  rcases open_ints ht he hc h with ⟨hcs, _⟩ | ⟨a, len, cap, zs, hcs, _, hl, hm, hz, _, hcell, hwz⟩
  · simp at hcs
    exact ⟨none, 0, [], hcs, Src.nil _ _, by simp, by simp⟩
  · simp at hcs
    have hlz : len ≤ zs.length := by rw [hz]; split <;> omega
    refine ⟨some a, cap, zs.take len, by rw [hcs]; simp [Nat.min_eq_left hlz], src_of_cells fun i hi => ?_, by simp [maxLen] at hm ⊢; omega, fun z hz => hwz z (List.mem_of_mem_take hz)⟩
    simp [ivs] at hi
    rw [hcell i (by omega)]
    have hg : zs.getD i 0 = zs[i]'(by omega) := by simp [show i < zs.length by omega]
    rw [hg]
    simp [ivs]

/-- '[]bool'. -/
theorem open_boolsv {t e : TypeId} {w : World} {base : Nat} {held : Bool} {fuel : Nat} {v : Value} {x : DataW H × List MemPlace} (ht : P.underlying t = some (.slice e)) (he : P.underlying e = some .bool) (hc : P.cellsOf e = 1)
    (h : DataW.trod enc P w base (fun _ => true) held fuel t [v] = some x) : ∃ a c zs, v = .slice a zs.length c ∧ Src w a (bovs zs) ∧ zs.length ≤ 9223372036854775807 := by
  rcases Go.Deep.open_bools ht he hc h with ⟨hcs, _⟩ | ⟨a, len, cap, B, hcs, _, hl, hm, _, hcell⟩
  · simp at hcs
    exact ⟨none, 0, [], hcs, Src.nil _ _, by simp⟩
  · simp at hcs
    refine ⟨some a, cap, (List.range len).map B, by rw [hcs]; simp, src_of_cells fun i hi => ?_, by simp [maxLen] at hm ⊢; omega⟩
    simp [bovs] at hi
    rw [hcell i (by omega)]
    simp [bovs]
end
end Go.Proofs.Ytmaagkdehdmhlaa

/- Slices of structs of one-cell fields, as arguments. -/
namespace Go.Proofs.Ytmaagkdehdmhlaa
open Go.ChangeShapes Go.WideShapes Go.ChangeAt Go.RowKit

section
variable {H : Type} {enc : TypeId × Value → H} {P : Program} {w : World} {base : Nat} {spare : Nat → Bool} {held : Bool}

/-- The cells of a struct, each read by its field. -/
theorem struct_cells {e : TypeId} {fs : Array Field} {n : Nat} {cs : List Value} {x : DataW H × List MemPlace} (he : P.underlying e = some (.struct fs)) (hone : Go.Deep.oneCellFields P fs = true) (ce : P.cellsOf e = fs.size)
    (h : DataW.trod enc P w base spare held n e cs = some x) : cs.length = fs.size ∧ ∀ (i : Nat) (f : Field) (c : Value), fs[i]? = some f → cs[i]? = some c → ∃ m y, DataW.trod enc P w base spare held m f.type [c] = some y := by
  obtain ⟨xs, m, _, _, hl, hlen, hf⟩ := DataW.trod_struct he h
  refine ⟨hl.trans ce, fun i f c hi hc => ?_⟩
  obtain ⟨ho, h1⟩ := Go.Deep.hone_of hone i f hi
  have h2 := hf i f hi
  have hil := (List.getElem?_eq_some_iff.1 hc).1
  have e1 : (cs.drop f.offset).take (P.cellsOf f.type) = [c] := by
    rw [ho, h1, List.drop_eq_getElem_cons hil, List.take_succ_cons, List.take_zero, ← Option.some.inj ((List.getElem?_eq_getElem hil).symm.trans hc)]
  rw [e1] at h2
  have hix : i < xs.length := by rw [hlen]; exact (Array.getElem?_eq_some_iff.1 hi).1
  rw [List.getElem?_eq_getElem hix] at h2
  exact ⟨m, _, h2⟩

/-- A slice of such elements: 'dec' reads one. -/
theorem open_flt {α : Type} (f : α → List Value) (ok : α → Prop) {k : Nat} (hf : ∀ y, (f y).length = k) (hk : 0 < k) {t e : TypeId} {fuel : Nat} {v : Value} {x : DataW H × List MemPlace} (ht : P.underlying t = some (.slice e)) (ce : P.cellsOf e = k)
    (dec : ∀ n cs y, DataW.trod enc P w base spare held n e cs = some y → ∃ y : α, cs = f y ∧ ok y)
    (h : DataW.trod enc P w base spare held fuel t [v] = some x) : ∃ a c l, v = .slice a l.length c ∧ Src w a (flt f l) ∧ (∀ y ∈ l, ok y) ∧ l.length ≤ 9223372036854775807 ∧ l.length ≤ c := by
  rcases Go.Deep.open_slice ht h with ⟨hcs, _⟩ | ⟨a, len, cap, m, n, D, Pl, hcs, _, hl, hm, hmm, _, hx⟩
  · simp at hcs
    exact ⟨none, 0, [], hcs, Src.nil _ _, by simp, by simp, by simp⟩
  · simp at hcs
    have hlm : len ≤ m := by rw [hmm]; split <;> omega
    have key : ∀ i, i < m → ∃ y : α, (∀ j c, (f y)[j]? = some c → w.cell? (a.add (i * k + j)) = some c) ∧ ok y := by
      intro i hi
      obtain ⟨cs', h1, h2⟩ := hx i hi
      rw [ce] at h1
      obtain ⟨_, hlen, hcell⟩ := World.cells?_some h1
      obtain ⟨y, rfl, hok⟩ := dec _ _ _ h2
      refine ⟨y, fun j c hj => ?_, hok⟩
      have hjl := (List.getElem?_eq_some_iff.1 hj).1
      have e0 := hcell j (by omega)
      rw [Go.Deep.add_add] at e0
      rw [e0, ← hj, List.getElem?_eq_getElem hjl]
    have : ∀ n, n ≤ m → ∃ l : List α, l.length = n ∧ (∀ i (hi : i < l.length) j c, (f l[i])[j]? = some c → w.cell? (a.add (i * k + j)) = some c) ∧ ∀ y ∈ l, ok y := by
      intro n
      induction n with
      | zero => intro _; exact ⟨[], rfl, by simp, by simp⟩
      | succ n ih =>
        intro hn
        obtain ⟨l, h1, h2, h3⟩ := ih (by omega)
        obtain ⟨y, hy, hok⟩ := key n (by omega)
        refine ⟨l ++ [y], by simp [h1], fun i hi j c hj => ?_, fun q hq => ?_⟩
        · by_cases hi' : i < l.length
          · rw [List.getElem_append_left hi'] at hj; exact h2 i hi' j c hj
          · have hil : i = l.length := by simp at hi; omega
            subst hil
            simp only [List.getElem_concat_length] at hj
            rw [h1]
            exact hy j c hj
        · rcases List.mem_append.1 hq with h | h
          · exact h3 q h
          · simp at h; subst h; exact hok
    obtain ⟨l, h1, h2, h3⟩ := this len hlm
    refine ⟨some a, cap, l, by rw [hcs, h1], src_of_cells fun i hi => ?_, h3, by rw [h1]; simp [maxLen] at hm; omega, by omega⟩
    have hlf := flt_length hf l
    have hq : i / k < l.length := Nat.div_lt_of_lt_mul (by rw [Nat.mul_comm]; omega)
    have hg := flt_get hf l (i / k) hq (i % k) (Nat.mod_lt _ hk)
    have hik : i / k * k + i % k = i := by rw [Nat.mul_comm]; exact Nat.div_add_mod i k
    rw [hik, List.getElem?_eq_getElem hi] at hg
    have := h2 (i / k) hq (i % k) _ hg.symm
    rw [hik] at this
    exact this
theorem trod_intv {n : Nat} {t : TypeId} {k : IntKind} {v : Value} {y : DataW H × List MemPlace} (ht : P.underlying t = some (.int k)) (h : DataW.trod enc P w base spare held n t [v] = some y) : ∃ z, v = .int k z ∧ (Lit.int k z).wf = true := by
  obtain ⟨z, hz, _, hw⟩ := DataW.trod_int ht h
  simp at hz
  exact ⟨z, hz, hw⟩
theorem trod_boolv {n : Nat} {t : TypeId} {v : Value} {y : DataW H × List MemPlace} (ht : P.underlying t = some .bool) (h : DataW.trod enc P w base spare held n t [v] = some y) : ∃ z, v = .bool z := by
  obtain ⟨z, hz, _⟩ := DataW.trod_bool ht h
  simp at hz
  exact ⟨z, hz⟩
end
end Go.Proofs.Ytmaagkdehdmhlaa

/- Slices of such acts as arguments. -/
namespace Go.Proofs.Ytmaagkdehdmhlaa
open Go.ChangeShapes Go.WideShapes Go.ChangeAt Go.RowKit
section
variable {H : Type} {enc : TypeId × Value → H} {P : Program} {w : World} {base : Nat} {held : Bool}
theorem act5_dec {e u : TypeId} {f0 f1 f2 f3 f4 : Field} {n : Nat} {cs : List Value} {x : DataW H × List MemPlace} (he : P.underlying e = some (.struct #[f0, f1, f2, f3, f4])) (hone : Go.Deep.oneCellFields P #[f0, f1, f2, f3, f4] = true) (ce : P.cellsOf e = 5)
    (u0 : P.underlying f0.type = some (.int .i64)) (u1 : P.underlying f1.type = some (.int .i64)) (u2 : P.underlying f2.type = some (.int .i64)) (u3 : P.underlying f3.type = some (.slice u)) (u4 : P.underlying f4.type = some (.int .i64))
    (uu : P.underlying u = some (.int .u8)) (cu : P.cellsOf u = 1)
    (h : DataW.trod enc P w base (fun _ => true) held n e cs = some x) : ∃ y : Act5, cs = y.cells ∧ y.ok w := by
  obtain ⟨hl, hf⟩ := struct_cells he hone ce h
  match cs, hl with
  | [c0, c1, c2, c3, c4], _ =>
    obtain ⟨_, _, h0⟩ := hf 0 f0 c0 rfl rfl
    obtain ⟨_, _, h1⟩ := hf 1 f1 c1 rfl rfl
    obtain ⟨_, _, h2⟩ := hf 2 f2 c2 rfl rfl
    obtain ⟨_, _, h3⟩ := hf 3 f3 c3 rfl rfl
    obtain ⟨_, _, h4⟩ := hf 4 f4 c4 rfl rfl
    obtain ⟨z0, rfl, w0⟩ := trod_intv u0 h0
    obtain ⟨z1, rfl, w1⟩ := trod_intv u1 h1
    obtain ⟨z2, rfl, w2⟩ := trod_intv u2 h2
    obtain ⟨a3, n3, l3, rfl, s3, b3, k3⟩ := open_bytes u3 uu cu h3
    obtain ⟨z4, rfl, w4⟩ := trod_intv u4 h4
    exact ⟨⟨z0, z1, z2, ⟨a3, n3, l3⟩, z4⟩, rfl, ⟨s3, b3⟩, k3, w1, w2, w4⟩
end
end Go.Proofs.Ytmaagkdehdmhlaa
