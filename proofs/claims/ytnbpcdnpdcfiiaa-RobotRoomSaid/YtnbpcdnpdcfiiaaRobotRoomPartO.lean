/- Several texts of this claim, one behind the other: Make, Law, LawInts. -/
import Derived.Test.YtnbpcdnpdcfiiaaRobotRoomPartB
import Derived.Test.YtnbpcdnpdcfiiaaRegion
import Derived.OwnWalk
import Derived.Test.YtnbpcdnpdcfiiaaBase
import Derived.ProofKit
import Derived.OpenShut
import Derived.Deep.Slices
import Derived.Test.YtnbpcdnpdcfiiaaRobotRoomPartF
import Derived.Deep.Grids
/- 'make' of a row of any elements, 'copy' into a row of one's own, as steps of a walk and as operations of a region. -/
namespace Go.Proofs.Ytnbpcdnpdcfiiaa
open Go.RowKit

theorem made_flt {α : Type} {f : α → List Value} {k : Nat} (hf : ∀ x, (f x).length = k) (hk : 0 < k) (z : Array Value) (y : α) (hz : z.toList = f y) (n : Nat) : (madeCells z (n * k)).toList = flt f (List.replicate n y) := by
  have hzs : z.size = k := by rw [← hf y, ← hz, Array.length_toList]
  apply List.ext_getElem?
  intro t
  by_cases ht : t < n * k
  · have h1 : (flt f (List.replicate n y))[t]? = (f y)[t % k]? := by
      have hq : t / k < n := Nat.div_lt_of_lt_mul (by rw [Nat.mul_comm]; exact ht)
      have := flt_get hf (List.replicate n y) (t / k) (by simpa using hq) (t % k) (Nat.mod_lt _ hk)
      rw [Nat.mul_comm, Nat.div_add_mod] at this
      rw [this, List.getElem_replicate]
    rw [h1, ← hz]
    have hm : t % k < z.size := by rw [hzs]; exact Nat.mod_lt _ hk
    simp [madeCells, ht, hzs, getElem!_pos z (t % k) hm, Array.getElem?_eq_getElem hm]
  · rw [List.getElem?_eq_none (by simp [madeCells]; omega), List.getElem?_eq_none (by rw [flt_length hf]; simp; omega)]

theorem run_makeF {P : Program} (w : World) (t e : TypeId) (i : TypeInfo) (z : Value) {α : Type} (f : α → List Value) (k : Nat) (hf : ∀ x, (f x).length = k) (hk : 0 < k) (y : α) (hzy : z.cells.toList = f y)
    (h1 : P.underlying t = some (.slice e)) (h2 : P.info? e = some i) (h3 : i.zero = some z) (h4 : i.size = k) (n : Nat) (b2 : i.bytes * n ≤ 281474976710656) (b3 : n ≤ maxLen) :
    ∃ w', (Instr.makeSlice t (.int .i64 (n : Int)) (.int .i64 (n : Int))).run P w = .ok (.slice (some ⟨w.heap.size, 0, none⟩) n n) w' ∧ Own w' w.heap.size e k (some ⟨w.heap.size, 0, none⟩) n n (flt f (List.replicate n y)) ∧ Below w.heap.size w w' := by
  obtain ⟨w', hr, ho, hg⟩ := run_make_full (P := P) w w.heap.size t e i z k h1 h2 h3 h4 .i64 .i64 n b2 b3 (Nat.le_refl _)
  rw [made_flt hf hk z.cells y hzy] at ho
  exact ⟨w', hr, own_of_row ho, (Below.refl w.heap.size w).grown hg (Nat.le_refl _) (by simp)⟩

theorem wpList_makeF {P : Program} {w : World} {ops : Array Oper} {rest : List Oper} {o : Oper} {ac : Act} {Q : Exit → Act → World → Prop} (hgd : o.guard = none) (l c : Operand) (t : TypeId) (ho : o.op = .makeSlice t l c)
    (e : TypeId) (i : TypeInfo) (z : Value) {α : Type} (f : α → List Value) (k : Nat) (hf : ∀ x, (f x).length = k) (hk : 0 < k) (y : α) (hzy : z.cells.toList = f y)
    (h1 : P.underlying t = some (.slice e)) (h2 : P.info? e = some i) (h3 : i.zero = some z) (h4 : i.size = k) (n : Nat) (hl : ac.eval l = .int .i64 (n : Int)) (hc : ac.eval c = .int .i64 (n : Int)) (b2 : i.bytes * n ≤ 281474976710656) (b3 : n ≤ maxLen)
    (h : ∀ w', Own w' w.heap.size e k (some ⟨w.heap.size, 0, none⟩) n n (flt f (List.replicate n y)) → Below w.heap.size w w' → wpList P ops Q rest (ac.put o.dst (.slice (some ⟨w.heap.size, 0, none⟩) n n)) w') : wpList P ops Q (o :: rest) ac w := by
  obtain ⟨w', hr, hw, hb⟩ := run_makeF (P := P) w t e i z f k hf hk y hzy h1 h2 h3 h4 n b2 b3
  refine wpList_plain hgd fun K hK => ?_
  unfold Oper.wp
  simp [execOp, ho, hl, hc, hr, Result.andThen]
  exact hK _ _ (h w' hw hb)
theorem op_makeF {P : Program} {w : World} {ρ : Operand → Value} {R : Value → World → Prop} {o : Oper} {l c : Operand} {t : TypeId} (ho : o.op = .makeSlice t l c)
    (e : TypeId) (i : TypeInfo) (z : Value) {α : Type} (f : α → List Value) (k : Nat) (hf : ∀ x, (f x).length = k) (hk : 0 < k) (y : α) (hzy : z.cells.toList = f y)
    (h1 : P.underlying t = some (.slice e)) (h2 : P.info? e = some i) (h3 : i.zero = some z) (h4 : i.size = k) (n : Nat) (hl : ρ l = .int .i64 (n : Int)) (hc : ρ c = .int .i64 (n : Int)) (b2 : i.bytes * n ≤ 281474976710656) (b3 : n ≤ maxLen)
    (h : ∀ w', Own w' w.heap.size e k (some ⟨w.heap.size, 0, none⟩) n n (flt f (List.replicate n y)) → Below w.heap.size w w' → R (.slice (some ⟨w.heap.size, 0, none⟩) n n) w') : OpOk P o ρ w R := by
  obtain ⟨w', hr, hw, hb⟩ := run_makeF (P := P) w t e i z f k hf hk y hzy h1 h2 h3 h4 n b2 b3
  refine op_val (v := .slice (some ⟨w.heap.size, 0, none⟩) n n) (w' := w') ?_ (h w' hw hb)
  simp [execOp, ho, hl, hc, hr, Result.andThen]

/-- Noughts. -/
def zb (n : Nat) : List Byte := List.replicate n 0#8
theorem zb_length (n : Nat) : (zb n).length = n := by simp [zb]
def u8c (b : Byte) : List Value := [u8v b]
theorem flt_u8 (l : List Byte) : flt u8c l = bvs l := by
  induction l with
  | nil => rfl
  | cons b l ih => rw [flt_cons, ih]; rfl
/-- 'make([]byte, n)'. -/
theorem wpList_make8 {P : Program} {w : World} {ops : Array Oper} {rest : List Oper} {o : Oper} {ac : Act} {Q : Exit → Act → World → Prop} (hgd : o.guard = none) (l c : Operand) (t : TypeId) (ho : o.op = .makeSlice t l c)
    (e : TypeId) (i : TypeInfo) (h1 : P.underlying t = some (.slice e)) (h2 : P.info? e = some i) (h3 : i.zero = some (.int .u8 0)) (h4 : i.size = 1) (h5 : i.bytes = 1) (n : Nat) (hl : ac.eval l = .int .i64 (n : Int)) (hc : ac.eval c = .int .i64 (n : Int)) (b2 : n ≤ 281474976710656)
    (h : ∀ w', Own w' w.heap.size e 1 (some ⟨w.heap.size, 0, none⟩) n n (bvs (zb n)) → Below w.heap.size w w' → wpList P ops Q rest (ac.put o.dst (.slice (some ⟨w.heap.size, 0, none⟩) n n)) w') : wpList P ops Q (o :: rest) ac w :=
  wpList_makeF hgd l c t ho e i (.int .u8 0) u8c 1 (fun _ => rfl) (by decide) 0#8 rfl h1 h2 h3 h4 n hl hc (by rw [h5]; omega) (by unfold maxLen; omega) fun w' ho hb => h w' (by rw [← flt_u8]; exact ho) hb

/-- 'copy' into a row of one's own. -/
theorem wpList_copyx {P : Program} {w : World} {ops : Array Oper} {rest : List Oper} {o : Oper} {ac : Act} {Q : Exit → Act → World → Prop} (hgd : o.guard = none) (d s : Operand) (t : TypeId)
    (ho : o.op = .call { callee := .builtin .copy, args := #[d, s], argTypes := #[t, t] }) (base : Nat) (e : TypeId) (hu : P.underlying t = some (.slice e)) (hsz : (P.info? e).map (·.size) = some 1)
    (a : Option Addr) (n c : Nat) (ys : List Value) (hd : ac.eval d = .slice a n c) (hown : Own w base e 1 a n c ys) (a2 : Option Addr) (m c2 : Nat) (xs : List Value) (hs : ac.eval s = .slice a2 m c2) (hsrc : Src w a2 xs) (hm : xs.length = m) (h1 : ∀ u ∈ xs, u.oneCell' = true)
    (h : ∀ w', Own w' base e 1 a n c (xs.take n ++ ys.drop m) → Below base w w' → w'.heap.size = w.heap.size → (∀ b, b < w.heap.size → (∀ o, a ≠ some ⟨b, o, none⟩) → w'.heap[b]? = w.heap[b]?) → wpList P ops Q rest (ac.put o.dst (goInt ((min m n : Nat) : Int))) w') : wpList P ops Q (o :: rest) ac w := by
  have hyl : ys.length = n := by simpa using hown.1
  by_cases h0 : min m n = 0
  · refine wpList_copy_nothing hgd d s t t ho e hu hsz a a2 n c m c2 hd hs h0 ?_
    have hx : xs.take n ++ ys.drop m = ys := by
      rcases Nat.eq_zero_or_pos m with rfl | hmp
      · have : xs = [] := List.eq_nil_of_length_eq_zero hm
        simp [this]
      · have hn0 : n = 0 := by omega
        have : ys = [] := List.eq_nil_of_length_eq_zero (by omega)
        simp [this, hn0]
    have := h w (by rw [hx]; exact hown) (Below.refl _ _) rfl (fun _ _ _ => rfl)
    rw [h0] at this
    exact this
  · obtain ⟨hl, ⟨rfl, rfl⟩ | ⟨g, cur, rfl, hbg, hh, hn, hcm, hcs, ht⟩⟩ := hown
    · simp at h0
    · have hmp : 0 < xs.length := by omega
      obtain ⟨b, off, rfl, hlt, hat⟩ := hsrc.at hmp
      have hcl : (xs.take n).length = min m n := by rw [List.length_take, hm, Nat.min_comm]
      refine wpList_copy_own hgd d s t t ho e hu hsz g 0 n c ⟨b, off, none⟩ m c2 hd hs cur e hh (xs.take n) hcl (fun j v hj => ?_) (by rw [hcl, hcs]; omega) (fun v hv => h1 v (List.mem_of_mem_take hv)) ?_
      · rw [List.getElem?_take] at hj
        split at hj
        · have hjl := (List.getElem?_eq_some_iff.1 hj).1
          have := hat j hjl
          rw [Option.some.inj (hj.symm.trans (List.getElem?_eq_getElem hjl)), ← this]
          congr 1
          unfold Addr.add; split <;> simp_all
        · cases hj
      · rw [hcl]
        simp only [Nat.zero_add, List.take_zero, List.nil_append]
        refine h _ ⟨?_, .inr ⟨g, _, rfl, hbg, setRow_heap w g _ _ _ _ hh, hn, hcm, ?_, ?_⟩⟩ (bsetRow (Below.refl _ _) hbg _) (by simp) (fun b' _ hb' => setRow_other w g b' _ (fun e => hb' 0 (by rw [e])))
        · simp [hyl, hm]; omega
        · have : cur.toList.length = c := by simpa using hcs
          simp [hm]; omega
        · have hcl2 : cur.toList.length = c := by simpa using hcs
          rw [← ht, List.take_append, List.take_of_length_le (by rw [hcl]; omega), hcl, List.drop_take]
          congr 1
          by_cases hmn : m ≤ n
          · rw [Nat.min_eq_left hmn]
          · rw [Nat.min_eq_right (by omega), show n * 1 - m = 0 by omega, show n * 1 - n = 0 by omega]; simp
end Go.Proofs.Ytnbpcdnpdcfiiaa

/- From a walk that returns true and writes nothing that was there to the row: for every law of this seat; and how arguments are opened. -/
namespace Go.Proofs.Ytnbpcdnpdcfiiaa
open Go.ChangeShapes Go.WideShapes Go.ChangeAt Go.RowKit

section
variable {H : Type} {enc : TypeId × Value → H} {P : Program}

/-- The arguments read as they did. -/
theorem args_back (hl : laidOutB P = true) {W W' : World} (hb : Below W.heap.size W W') : ∀ (ts : List TypeId) (vs : List Value) (ds : List (DataW H)) (ps : List MemPlace),
    (∀ t ∈ ts, P.readableRec t = true ∧ t < P.types.size) → DataW.TrodAll enc P W 0 (fun _ => true) true ts vs ds ps → DataW.TrodAll enc P W' 0 (fun b => decide (b < W.heap.size)) true ts vs ds ps
  | [], vs, ds, ps, _, h => by
    cases vs <;> cases ds <;> simp [DataW.TrodAll] at h ⊢
    exact h
  | t :: ts, vs, ds, ps, hr, h => by
    obtain ⟨v, vs', d, ds', p, q, rfl, rfl, rfl, h1, h2⟩ := trodAll_cons h
    have lt0 : ∀ x ∈ p, x.block < W.heap.size := by obtain ⟨m, hm⟩ := h1; exact DataW.trod_lt m _ _ _ hm
    exact trodAll_cons_mk (Below.trod hl (hr t (by simp)).1 (hr t (by simp)).2 h1 hb lt0) (args_back hl hb ts vs' ds' q (fun t ht => hr t (by simp [ht])) h2)

theorem law_post {f : Func} {s : ChangeSpec} {apart fresh handsOn : Bool} {W W' : World} {args : Array Value} {ds gs : List (DataW H)} {before : List MemPlace} {tb : TypeId}
    (hl : laidOutB P = true) (hW : DataW.Whole enc P f.params.toList s.vars apart W args.toList ds gs before) (hv : s.vars = [])
    (hr1 : (s.fn H ds).results = [.lit (.bool true)]) (hr2 : (s.fn H ds).args = ds) (hr3 : (s.fn H ds).vars = []) (hres : f.resultTypes = #[tb]) (htb : P.underlying tb = some .bool)
    (hread0 : (f.params.toList.all fun t => P.readableRec t && decide (t < P.types.size)) = true) (hb : Below W.heap.size W W') :
    s.post enc P f apart fresh handsOn false W args (.bool true) W' := by
  have hread : ∀ t ∈ f.params.toList, P.readableRec t = true ∧ t < P.types.size := fun t ht => by simpa using List.all_eq_true.1 hread0 t ht
  have hW' := hW
  obtain ⟨p, q, hA, hV, rfl, hfz, hnd⟩ := hW
  rw [hv] at hV
  obtain ⟨rfl, rfl⟩ := trodVars_none hV
  refine ⟨ds, [], _, [], p, [], hW', ?_, ?_, ?_, hb.frame _, fun h => by cases h⟩
  · rw [List.append_nil, hr1, hres]
    exact trodAll_cons_mk (shut_bool htb _) trodAll_mk0
  · rw [List.append_nil, hr2]
    exact args_back hl hb _ _ _ _ hread hA
  · rw [List.append_nil, hr3, hv]
    rfl

/-! ### arguments opened -/
theorem src_of_cells {w : World} {a : Addr} {xs : List Value} (h : ∀ i (hi : i < xs.length), w.cell? (a.add i) = some xs[i]) : Src w (some a) xs := by
  cases hx : xs with
  | nil => exact Src.nil _ _
  | cons x xs' =>
    have h0 := h 0 (by rw [hx]; simp)
    obtain ⟨b, o, spot⟩ := a
    have hsp : spot = none := by simpa [Addr.add] using World.cell?_spot h0
    subst hsp
    have hadd : ∀ i, (⟨b, o, none⟩ : Addr).add i = ⟨b, o + i, none⟩ := fun i => by unfold Addr.add; split <;> simp_all
    rw [hadd] at h0
    rw [← hx]
    cases hh : w.heap[b]? with
    | none => simp [World.cell?, hh] at h0
    | some ob =>
      cases ob with
      | cells cs T m =>
        refine Or.inr ⟨b, o, cs, T, m, rfl, hh, ?_⟩
        apply List.ext_getElem?
        intro i
        by_cases hi : i < xs.length
        · have := h i hi
          rw [hadd, cell_of_row w b (o + i) cs T m hh] at this
          rw [List.getElem?_take, if_pos hi, List.getElem?_drop, List.getElem?_eq_getElem hi]
          simpa using this
        · rw [List.getElem?_eq_none (by simp; omega), List.getElem?_eq_none (by omega)]
      | _ => simp [World.cell?, hh] at h0

def byteOf (z : Int) : Byte := BitVec.ofInt 8 z
theorem byteOf_val {z : Int} (h : (Lit.int .u8 z).wf = true) : u8v (byteOf z) = .int .u8 z := by
  have hx : 0 ≤ z ∧ z ≤ 255 := by simpa [Lit.wf, IntKind.min, IntKind.max, IntKind.signed, IntKind.bits] using h
  simp only [u8v, byteOf, Value.int.injEq, true_and, BitVec.toNat_ofInt]
  omega

/-- '[]byte'. -/
theorem open_bytes {t e : TypeId} {w : World} {base : Nat} {spare : Nat → Bool} {held : Bool} {fuel : Nat} {v : Value} {x : DataW H × List MemPlace} (ht : P.underlying t = some (.slice e)) (he : P.underlying e = some (.int .u8)) (hc : P.cellsOf e = 1)
    (h : DataW.trod enc P w base spare held fuel t [v] = some x) : ∃ a c l, v = .slice a l.length c ∧ Src w a (bvs l) ∧ l.length ≤ 9223372036854775807 ∧ l.length ≤ c := by
  rcases open_ints ht he hc h with ⟨hcs, _⟩ | ⟨a, len, cap, zs, hcs, _, hl, hm, hz, _, hcell, hwz⟩
  · simp at hcs
    exact ⟨none, 0, [], hcs, Src.nil _ _, by simp, by simp⟩
  · simp at hcs
    have hlz : len ≤ zs.length := by rw [hz]; split <;> omega
    refine ⟨some a, cap, (zs.take len).map byteOf, by rw [hcs]; simp [Nat.min_eq_left hlz], src_of_cells fun i hi => ?_, by simp [maxLen] at hm ⊢; omega, by simp; omega⟩
    simp at hi
    rw [hcell i (by omega)]
    have hg : zs.getD i 0 = zs[i]'(by omega) := by simp [show i < zs.length by omega]
    rw [hg]
    have := byteOf_val (hwz (zs[i]'(by omega)) (List.getElem_mem _))
    simp only [bvs, List.getElem_map, List.getElem_take]
    rw [this]

/-- '[][]byte'. -/
theorem open_rows {t e e' : TypeId} {w : World} {base : Nat} {spare : Nat → Bool} {held : Bool} {fuel : Nat} {v : Value} {x : DataW H × List MemPlace} (ht : P.underlying t = some (.slice e)) (hc : P.cellsOf e = 1) (he : P.underlying e = some (.slice e'))
    (he' : P.underlying e' = some (.int .u8)) (hc' : P.cellsOf e' = 1)
    (h : DataW.trod enc P w base spare held fuel t [v] = some x) : ∃ a c ps, v = .slice a ps.length c ∧ Mat w a ps ∧ ps.length ≤ 9223372036854775807 := by
  rcases Go.Deep.open_slice1 ht hc h with ⟨hcs, _⟩ | ⟨a, len, cap, m, n, V, D, Pl, hcs, _, hl, hm, hmm, _, hx⟩
  · simp at hcs
    exact ⟨none, 0, [], hcs, ⟨Src.nil _ _, by simp⟩, by simp⟩
  · simp at hcs
    have hlm : len ≤ m := by rw [hmm]; split <;> omega
    have key : ∀ i, i < m → ∃ p : Bsl, V i = p.val ∧ p.ok w := by
      intro i hi
      obtain ⟨a1, c1, l1, e1, hs, hl1, _⟩ := open_bytes he he' hc' (hx i hi).2
      exact ⟨⟨a1, c1, l1⟩, e1, hs, hl1⟩
    have : ∀ n, n ≤ m → ∃ ps : List Bsl, ps.length = n ∧ (∀ i (hi : i < ps.length), V i = ps[i].val) ∧ ∀ p ∈ ps, p.ok w := by
      intro n
      induction n with
      | zero => intro _; exact ⟨[], rfl, by simp, by simp⟩
      | succ n ih =>
        intro hn
        obtain ⟨ps, h1, h2, h3⟩ := ih (by omega)
        obtain ⟨p, hp1, hp2⟩ := key n (by omega)
        refine ⟨ps ++ [p], by simp [h1], fun i hi => ?_, fun q hq => ?_⟩
        · by_cases hi' : i < ps.length
          · rw [List.getElem_append_left hi']; exact h2 i hi'
          · have : i = ps.length := by simp at hi; omega
            subst this
            simp [h1, hp1]
        · rcases List.mem_append.1 hq with h | h
          · exact h3 q h
          · simp at h; subst h; exact hp2
    obtain ⟨ps, h1, h2, h3⟩ := this len hlm
    refine ⟨some a, cap, ps, by rw [hcs, h1], ⟨src_of_cells fun i hi => ?_, h3⟩, by rw [h1]; simp [maxLen] at hm; omega⟩
    simp at hi
    rw [(hx i (by omega)).1, List.getElem_map, h2 i hi]

end
end Go.Proofs.Ytnbpcdnpdcfiiaa

/- How lists of numbers and of booleans are opened. -/
namespace Go.Proofs.Ytnbpcdnpdcfiiaa
open Go.ChangeShapes Go.WideShapes Go.ChangeAt Go.RowKit

section
variable {H : Type} {enc : TypeId × Value → H} {P : Program}
/-- '[]int'. -/
theorem open_intsv {t e : TypeId} {w : World} {base : Nat} {spare : Nat → Bool} {held : Bool} {fuel : Nat} {v : Value} {x : DataW H × List MemPlace} (ht : P.underlying t = some (.slice e)) (he : P.underlying e = some (.int .i64)) (hc : P.cellsOf e = 1)
    (h : DataW.trod enc P w base spare held fuel t [v] = some x) : ∃ a c zs, v = .slice a zs.length c ∧ Src w a (ivs zs) ∧ zs.length ≤ 9223372036854775807 ∧ ∀ z ∈ zs, (Lit.int .i64 z).wf = true := by
  rcases open_ints ht he hc h with ⟨hcs, _⟩ | ⟨a, len, cap, zs, hcs, _, hl, hm, hz, _, hcell, hwz⟩
  · simp at hcs
    exact ⟨none, 0, [], hcs, Src.nil _ _, by simp, by simp⟩
  · simp at hcs
    have hlz : len ≤ zs.length := by rw [hz]; split <;> omega
    refine ⟨some a, cap, zs.take len, by rw [hcs]; simp [Nat.min_eq_left hlz], src_of_cells fun i hi => ?_, by simp [maxLen] at hm ⊢; omega, fun z hz => hwz z (List.mem_of_mem_take hz)⟩
    simp [ivs] at hi
    rw [hcell i (by omega)]
    have hg : zs.getD i 0 = zs[i]'(by omega) := by simp [show i < zs.length by omega]
    rw [hg]
    simp [ivs]

/-- '[]bool'. -/
theorem open_boolsv {t e : TypeId} {w : World} {base : Nat} {held : Bool} {fuel : Nat} {v : Value} {x : DataW H × List MemPlace} (ht : P.underlying t = some (.slice e)) (he : P.underlying e = some .bool) (hc : P.cellsOf e = 1)
    (h : DataW.trod enc P w base (fun _ => true) held fuel t [v] = some x) : ∃ a c zs, v = .slice a zs.length c ∧ Src w a (bovs zs) ∧ zs.length ≤ 9223372036854775807 := by
  rcases Go.Deep.open_bools ht he hc h with ⟨hcs, _⟩ | ⟨a, len, cap, B, hcs, _, hl, hm, _, hcell⟩
  · simp at hcs
    exact ⟨none, 0, [], hcs, Src.nil _ _, by simp⟩
  · simp at hcs
    refine ⟨some a, cap, (List.range len).map B, by rw [hcs]; simp, src_of_cells fun i hi => ?_, by simp [maxLen] at hm ⊢; omega⟩
    simp [bovs] at hi
    rw [hcell i (by omega)]
    simp [bovs]
end
end Go.Proofs.Ytnbpcdnpdcfiiaa
