/- 'make' of a row of any elements, 'copy' into a row of one's own, as steps of a walk and as operations of a region. -/
import Derived.Test.YtclkkhpnnbkfmaaFlt
import Derived.Test.YtclkkhpnnbkfmaaRegion
import Derived.OwnWalk
namespace Go.Proofs.Ytclkkhpnnbkfmaa
open Go.RowKit

theorem made_flt {α : Type} {f : α → List Value} {k : Nat} (hf : ∀ x, (f x).length = k) (hk : 0 < k) (z : Array Value) (y : α) (hz : z.toList = f y) (n : Nat) : (madeCells z (n * k)).toList = flt f (List.replicate n y) := by
  have hzs : z.size = k := by rw [← hf y, ← hz, Array.length_toList]
  apply List.ext_getElem?
  intro t
  by_cases ht : t < n * k
  · have h1 : (flt f (List.replicate n y))[t]? = (f y)[t % k]? := by
      have hq : t / k < n := Nat.div_lt_of_lt_mul (by rw [Nat.mul_comm]; exact ht)
      have := flt_get hf (List.replicate n y) (t / k) (by simpa using hq) (t % k) (Nat.mod_lt _ hk)
      rw [Nat.mul_comm, Nat.div_add_mod] at this
      rw [this, List.getElem_replicate]
    rw [h1, ← hz]
    have hm : t % k < z.size := by rw [hzs]; exact Nat.mod_lt _ hk
    simp [madeCells, ht, hzs, getElem!_pos z (t % k) hm, Array.getElem?_eq_getElem hm]
  · rw [List.getElem?_eq_none (by simp [madeCells]; omega), List.getElem?_eq_none (by rw [flt_length hf]; simp; omega)]

theorem run_makeF {P : Program} (w : World) (t e : TypeId) (i : TypeInfo) (z : Value) {α : Type} (f : α → List Value) (k : Nat) (hf : ∀ x, (f x).length = k) (hk : 0 < k) (y : α) (hzy : z.cells.toList = f y)
    (h1 : P.underlying t = some (.slice e)) (h2 : P.info? e = some i) (h3 : i.zero = some z) (h4 : i.size = k) (n : Nat) (b2 : i.bytes * n ≤ 281474976710656) (b3 : n ≤ maxLen) :
    ∃ w', (Instr.makeSlice t (.int .i64 (n : Int)) (.int .i64 (n : Int))).run P w = .ok (.slice (some ⟨w.heap.size, 0, none⟩) n n) w' ∧ Own w' w.heap.size e k (some ⟨w.heap.size, 0, none⟩) n n (flt f (List.replicate n y)) ∧ Below w.heap.size w w' := by
  obtain ⟨w', hr, ho, hg⟩ := run_make_full (P := P) w w.heap.size t e i z k h1 h2 h3 h4 .i64 .i64 n b2 b3 (Nat.le_refl _)
  rw [made_flt hf hk z.cells y hzy] at ho
  exact ⟨w', hr, own_of_row ho, (Below.refl w.heap.size w).grown hg (Nat.le_refl _) (by simp)⟩

theorem wpList_makeF {P : Program} {w : World} {ops : Array Oper} {rest : List Oper} {o : Oper} {ac : Act} {Q : Exit → Act → World → Prop} (hgd : o.guard = none) (l c : Operand) (t : TypeId) (ho : o.op = .makeSlice t l c)
    (e : TypeId) (i : TypeInfo) (z : Value) {α : Type} (f : α → List Value) (k : Nat) (hf : ∀ x, (f x).length = k) (hk : 0 < k) (y : α) (hzy : z.cells.toList = f y)
    (h1 : P.underlying t = some (.slice e)) (h2 : P.info? e = some i) (h3 : i.zero = some z) (h4 : i.size = k) (n : Nat) (hl : ac.eval l = .int .i64 (n : Int)) (hc : ac.eval c = .int .i64 (n : Int)) (b2 : i.bytes * n ≤ 281474976710656) (b3 : n ≤ maxLen)
    (h : ∀ w', Own w' w.heap.size e k (some ⟨w.heap.size, 0, none⟩) n n (flt f (List.replicate n y)) → Below w.heap.size w w' → wpList P ops Q rest (ac.put o.dst (.slice (some ⟨w.heap.size, 0, none⟩) n n)) w') : wpList P ops Q (o :: rest) ac w := by
  obtain ⟨w', hr, hw, hb⟩ := run_makeF (P := P) w t e i z f k hf hk y hzy h1 h2 h3 h4 n b2 b3
  refine wpList_plain hgd fun K hK => ?_
  unfold Oper.wp
  simp [execOp, ho, hl, hc, hr, Result.andThen]
  exact hK _ _ (h w' hw hb)
theorem op_makeF {P : Program} {w : World} {ρ : Operand → Value} {R : Value → World → Prop} {o : Oper} {l c : Operand} {t : TypeId} (ho : o.op = .makeSlice t l c)
    (e : TypeId) (i : TypeInfo) (z : Value) {α : Type} (f : α → List Value) (k : Nat) (hf : ∀ x, (f x).length = k) (hk : 0 < k) (y : α) (hzy : z.cells.toList = f y)
    (h1 : P.underlying t = some (.slice e)) (h2 : P.info? e = some i) (h3 : i.zero = some z) (h4 : i.size = k) (n : Nat) (hl : ρ l = .int .i64 (n : Int)) (hc : ρ c = .int .i64 (n : Int)) (b2 : i.bytes * n ≤ 281474976710656) (b3 : n ≤ maxLen)
    (h : ∀ w', Own w' w.heap.size e k (some ⟨w.heap.size, 0, none⟩) n n (flt f (List.replicate n y)) → Below w.heap.size w w' → R (.slice (some ⟨w.heap.size, 0, none⟩) n n) w') : OpOk P o ρ w R := by
  obtain ⟨w', hr, hw, hb⟩ := run_makeF (P := P) w t e i z f k hf hk y hzy h1 h2 h3 h4 n b2 b3
  refine op_val (v := .slice (some ⟨w.heap.size, 0, none⟩) n n) (w' := w') ?_ (h w' hw hb)
  simp [execOp, ho, hl, hc, hr, Result.andThen]

/-- Noughts. -/
def zb (n : Nat) : List Byte := List.replicate n 0#8
theorem zb_length (n : Nat) : (zb n).length = n := by simp [zb]
def u8c (b : Byte) : List Value := [u8v b]
theorem flt_u8 (l : List Byte) : flt u8c l = bvs l := by
  induction l with
  | nil => rfl
  | cons b l ih => rw [flt_cons, ih]; rfl
/-- 'make([]byte, n)'. -/
theorem wpList_make8 {P : Program} {w : World} {ops : Array Oper} {rest : List Oper} {o : Oper} {ac : Act} {Q : Exit → Act → World → Prop} (hgd : o.guard = none) (l c : Operand) (t : TypeId) (ho : o.op = .makeSlice t l c)
    (e : TypeId) (i : TypeInfo) (h1 : P.underlying t = some (.slice e)) (h2 : P.info? e = some i) (h3 : i.zero = some (.int .u8 0)) (h4 : i.size = 1) (h5 : i.bytes = 1) (n : Nat) (hl : ac.eval l = .int .i64 (n : Int)) (hc : ac.eval c = .int .i64 (n : Int)) (b2 : n ≤ 281474976710656)
    (h : ∀ w', Own w' w.heap.size e 1 (some ⟨w.heap.size, 0, none⟩) n n (bvs (zb n)) → Below w.heap.size w w' → wpList P ops Q rest (ac.put o.dst (.slice (some ⟨w.heap.size, 0, none⟩) n n)) w') : wpList P ops Q (o :: rest) ac w :=
  wpList_makeF hgd l c t ho e i (.int .u8 0) u8c 1 (fun _ => rfl) (by decide) 0#8 rfl h1 h2 h3 h4 n hl hc (by rw [h5]; omega) (by unfold maxLen; omega) fun w' ho hb => h w' (by rw [← flt_u8]; exact ho) hb

/-- 'copy' into a row of one's own. -/
theorem wpList_copyx {P : Program} {w : World} {ops : Array Oper} {rest : List Oper} {o : Oper} {ac : Act} {Q : Exit → Act → World → Prop} (hgd : o.guard = none) (d s : Operand) (t : TypeId)
    (ho : o.op = .call { callee := .builtin .copy, args := #[d, s], argTypes := #[t, t] }) (base : Nat) (e : TypeId) (hu : P.underlying t = some (.slice e)) (hsz : (P.info? e).map (·.size) = some 1)
    (a : Option Addr) (n c : Nat) (ys : List Value) (hd : ac.eval d = .slice a n c) (hown : Own w base e 1 a n c ys) (a2 : Option Addr) (m c2 : Nat) (xs : List Value) (hs : ac.eval s = .slice a2 m c2) (hsrc : Src w a2 xs) (hm : xs.length = m) (h1 : ∀ u ∈ xs, u.oneCell' = true)
    (h : ∀ w', Own w' base e 1 a n c (xs.take n ++ ys.drop m) → Below base w w' → w'.heap.size = w.heap.size → (∀ b, b < w.heap.size → (∀ o, a ≠ some ⟨b, o, none⟩) → w'.heap[b]? = w.heap[b]?) → wpList P ops Q rest (ac.put o.dst (goInt ((min m n : Nat) : Int))) w') : wpList P ops Q (o :: rest) ac w := by
  have hyl : ys.length = n := by simpa using hown.1
  by_cases h0 : min m n = 0
  · refine wpList_copy_nothing hgd d s t t ho e hu hsz a a2 n c m c2 hd hs h0 ?_
    have hx : xs.take n ++ ys.drop m = ys := by
      rcases Nat.eq_zero_or_pos m with rfl | hmp
      · have : xs = [] := List.eq_nil_of_length_eq_zero hm
        simp [this]
      · have hn0 : n = 0 := by omega
        have : ys = [] := List.eq_nil_of_length_eq_zero (by omega)
        simp [this, hn0]
    have := h w (by rw [hx]; exact hown) (Below.refl _ _) rfl (fun _ _ _ => rfl)
    rw [h0] at this
    exact this
  · obtain ⟨hl, ⟨rfl, rfl⟩ | ⟨g, cur, rfl, hbg, hh, hn, hcm, hcs, ht⟩⟩ := hown
    · simp at h0
    · have hmp : 0 < xs.length := by omega
      obtain ⟨b, off, rfl, hlt, hat⟩ := hsrc.at hmp
      have hcl : (xs.take n).length = min m n := by rw [List.length_take, hm, Nat.min_comm]
      refine wpList_copy_own hgd d s t t ho e hu hsz g 0 n c ⟨b, off, none⟩ m c2 hd hs cur e hh (xs.take n) hcl (fun j v hj => ?_) (by rw [hcl, hcs]; omega) (fun v hv => h1 v (List.mem_of_mem_take hv)) ?_
      · rw [List.getElem?_take] at hj
        split at hj
        · have hjl := (List.getElem?_eq_some_iff.1 hj).1
          have := hat j hjl
          rw [Option.some.inj (hj.symm.trans (List.getElem?_eq_getElem hjl)), ← this]
          congr 1
          unfold Addr.add; split <;> simp_all
        · cases hj
      · rw [hcl]
        simp only [Nat.zero_add, List.take_zero, List.nil_append]
        refine h _ ⟨?_, .inr ⟨g, _, rfl, hbg, setRow_heap w g _ _ _ _ hh, hn, hcm, ?_, ?_⟩⟩ (bsetRow (Below.refl _ _) hbg _) (by simp) (fun b' _ hb' => setRow_other w g b' _ (fun e => hb' 0 (by rw [e])))
        · simp [hyl, hm]; omega
        · have : cur.toList.length = c := by simpa using hcs
          simp [hm]; omega
        · have hcl2 : cur.toList.length = c := by simpa using hcs
          rw [← ht, List.take_append, List.take_of_length_le (by rw [hcl]; omega), hcl, List.drop_take]
          congr 1
          by_cases hmn : m ≤ n
          · rw [Nat.min_eq_left hmn]
          · rw [Nat.min_eq_right (by omega), show n * 1 - m = 0 by omega, show n * 1 - n = 0 by omega]; simp
end Go.Proofs.Ytclkkhpnnbkfmaa
