/- Rows of elements of several cells each; an element of one's own row stored whole. -/
import Derived.Test.YtclkkhpnnbkfmaaMod
namespace Go.Proofs.Ytclkkhpnnbkfmaa
open Go.RowKit

/-- The cells of a row of elements. -/
def flt {α : Type} (f : α → List Value) (l : List α) : List Value := (l.map f).flatten
section
variable {α : Type} {f : α → List Value} {k : Nat}
theorem flt_nil : flt f [] = [] := rfl
theorem flt_cons (x : α) (l : List α) : flt f (x :: l) = f x ++ flt f l := by simp [flt]
theorem flt_append (l m : List α) : flt f (l ++ m) = flt f l ++ flt f m := by simp [flt]
theorem flt_snoc (l : List α) (x : α) : flt f (l ++ [x]) = flt f l ++ f x := by simp [flt]
theorem flt_length (hf : ∀ x, (f x).length = k) (l : List α) : (flt f l).length = l.length * k := by
  induction l with
  | nil => simp [flt]
  | cons x l ih => rw [flt_cons, List.length_append, ih, hf, List.length_cons, Nat.succ_mul]; omega
theorem flt_one (hf : ∀ x, ∀ u ∈ f x, u.oneCell' = true) (l : List α) : ∀ u ∈ flt f l, u.oneCell' = true := by
  intro u hu
  simp only [flt, List.mem_flatten, List.mem_map] at hu
  obtain ⟨_, ⟨x, _, rfl⟩, hu⟩ := hu
  exact hf x u hu
theorem flt_take (hf : ∀ x, (f x).length = k) (l : List α) (n : Nat) : flt f (l.take n) = (flt f l).take (n * k) := by
  by_cases hn : n ≤ l.length
  · have h : flt f l = flt f (l.take n) ++ flt f (l.drop n) := by rw [← flt_append, List.take_append_drop]
    rw [h, List.take_left' (by rw [flt_length hf]; simp [Nat.min_eq_left hn])]
  · have hle : (flt f l).length ≤ n * k := by rw [flt_length hf]; exact Nat.mul_le_mul_right k (by omega)
    rw [List.take_of_length_le (by omega), List.take_of_length_le hle]
theorem flt_drop (hf : ∀ x, (f x).length = k) (l : List α) (n : Nat) : flt f (l.drop n) = (flt f l).drop (n * k) := by
  by_cases hn : n ≤ l.length
  · have h : flt f l = flt f (l.take n) ++ flt f (l.drop n) := by rw [← flt_append, List.take_append_drop]
    rw [h, List.drop_left' (by rw [flt_length hf]; simp [Nat.min_eq_left hn])]
  · have hle : (flt f l).length ≤ n * k := by rw [flt_length hf]; exact Nat.mul_le_mul_right k (by omega)
    rw [List.drop_eq_nil_of_le (by omega), List.drop_eq_nil_of_le hle, flt_nil]
theorem flt_get (hf : ∀ x, (f x).length = k) (l : List α) (i : Nat) (hi : i < l.length) (j : Nat) (hj : j < k) : (flt f l)[i * k + j]? = (f l[i])[j]? := by
  have h : flt f l = flt f (l.take i) ++ (f l[i] ++ flt f (l.drop (i + 1))) := by
    rw [← flt_cons, ← flt_append, ← List.drop_eq_getElem_cons hi, List.take_append_drop]
  have hl : (flt f (l.take i)).length = i * k := by rw [flt_length hf]; simp [Nat.min_eq_left (Nat.le_of_lt hi)]
  rw [h, List.getElem?_append_right (by omega), hl, show i * k + j - i * k = j by omega, List.getElem?_append_left (by rw [hf]; exact hj)]
theorem flt_set (hf : ∀ x, (f x).length = k) (l : List α) (i : Nat) (x : α) (hi : i < l.length) : flt f (l.set i x) = (flt f l).take (i * k) ++ f x ++ (flt f l).drop (i * k + k) := by
  rw [← flt_take hf, show i * k + k = (i + 1) * k by rw [Nat.succ_mul], ← flt_drop hf, List.append_assoc, ← flt_cons, ← flt_append, List.set_eq_take_append_cons_drop, if_pos hi]
end

section
variable {w : World} {B : Nat} {e : TypeId} {k : Nat} {a : Option Addr} {n c : Nat} {α : Type} {f : α → List Value} {l : List α}
/-- An element of one's own row. -/
theorem Own.elem (h : Own w B e k a n c (flt f l)) (hf : ∀ x, (f x).length = k) (hk : 0 < k) {i : Nat} (hi : i < l.length) :
    ∃ x, a = some ⟨x, 0, none⟩ ∧ B ≤ x ∧ x < w.heap.size ∧ (∀ j v, (f l[i])[j]? = some v → w.cell? ⟨x, i * k + j, none⟩ = some v) ∧ (∀ j, w.frozen? ⟨x, j, none⟩ = false) := by
  obtain ⟨hl, ⟨rfl, rfl⟩ | ⟨x, cur, ha, hb, hh, hn, hm, hs, ht⟩⟩ := h
  · rw [flt_length hf, Nat.zero_mul] at hl
    have : 0 < l.length * k := Nat.mul_pos (by omega) hk
    omega
  · refine ⟨x, ha, hb, heap_lt hh, fun j v hj => ?_, fun j => frozen_of_row w x j cur e hh⟩
    have hjk : j < k := by have := (List.getElem?_eq_some_iff.1 hj).1; rw [hf] at this; exact this
    rw [cell_of_row w x _ cur e _ hh]
    rw [← flt_get hf l i hi j hjk, ← ht, List.getElem?_take] at hj
    split at hj
    · simpa using hj
    · simp at hj
/-- An element of what is read. -/
theorem Src.elem (h : Src w a (flt f l)) (hf : ∀ x, (f x).length = k) (hk : 0 < k) {i : Nat} (hi : i < l.length) :
    ∃ b o, a = some ⟨b, o, none⟩ ∧ b < w.heap.size ∧ ∀ i (hi : i < l.length) j v, (f l[i])[j]? = some v → w.cell? ⟨b, o + i * k + j, none⟩ = some v := by
  have hpos : 0 < (flt f l).length := by rw [flt_length hf]; exact Nat.mul_pos (by omega) hk
  obtain ⟨b, o, ha, hlt, hat⟩ := h.at hpos
  refine ⟨b, o, ha, hlt, fun i hi j v hj => ?_⟩
  have hjk : j < k := by have := (List.getElem?_eq_some_iff.1 hj).1; rw [hf] at this; exact this
  have hg := flt_get hf l i hi j hjk
  rw [hj] at hg
  have hlt2 := (List.getElem?_eq_some_iff.1 hg).1
  have h1 := hat (i * k + j) hlt2
  rw [← Nat.add_assoc] at h1
  rw [h1, ← List.getElem?_eq_getElem hlt2, hg]
end

theorem run_storeVar_elem {P : Program} (w : World) (g o : Nat) (T ty : TypeId) (cur cs : Array Value) (hg : w.heap[g]? = some (.cells cur T (0, 0))) (hs : o + cs.size ≤ cur.size)
    (hi : (P.info? ty).map (·.size) = some cs.size) (h1 : ∀ v ∈ cs.toList, v.oneCell' = true) :
    (storeVar ty ⟨g, o, none⟩ (.agg cs)).run P w = .ok () (w.setRow g (cur.toList.take o ++ cs.toList ++ cur.toList.drop (o + cs.size)).toArray) := by
  have hst := run_storeCells_at P g o T cs.toList 0 cur w hg (by simpa using hs) h1
  simp only [Nat.add_zero, Array.length_toList] at hst
  cases hq : P.info? ty with
  | none => simp [hq] at hi
  | some i =>
    have hsz : i.size = cs.size := by simpa [hq] using hi
    simp [storeVar, Value.cells, sizeOf, typeInfo, hq, hsz, hst]
theorem Own.splice {w : World} {B : Nat} {e : TypeId} {k x n c : Nat} {xs : List Value} (h : Own w B e k (some ⟨x, 0, none⟩) n c xs) (o : Nat) (cs : List Value) (ho : o + cs.length ≤ n * k) (hn : 0 < n) :
    ∃ cur : Array Value, w.heap[x]? = some (.cells cur e (0, 0)) ∧ o + cs.length ≤ cur.size ∧
      Own (w.setRow x (cur.toList.take o ++ cs ++ cur.toList.drop (o + cs.length)).toArray) B e k (some ⟨x, 0, none⟩) n c (xs.take o ++ cs ++ xs.drop (o + cs.length)) := by
  obtain ⟨hl, ⟨rfl, rfl⟩ | ⟨g, cur, ha, hb, hh, hn, hm, hs, ht⟩⟩ := h
  · omega
  · simp only [Option.some.injEq, Addr.mk.injEq, and_self, and_true] at ha
    subst ha
    have hnk : n * k ≤ c * k := Nat.mul_le_mul_right k hn
    have hcl : cur.toList.length = c * k := by simpa using hs
    refine ⟨cur, hh, by omega, by simp [hl]; omega, .inr ⟨x, _, rfl, hb, setRow_heap w x _ _ _ _ hh, hn, hm, by simp; omega, ?_⟩⟩
    rw [← ht]
    simp only [List.take_take, Nat.min_eq_left (show o ≤ n * k by omega)]
    rw [List.append_assoc, List.take_append, List.take_append]
    simp only [List.length_take, hcl, Nat.min_eq_left (show o ≤ c * k by omega), List.take_take, List.append_assoc]
    rw [Nat.min_eq_right (show o ≤ n * k by omega), List.take_of_length_le (l := cs) (by omega), List.drop_take]
    rw [show n * k - o - cs.length = n * k - (o + cs.length) by omega]
/-- An element of one's own row, stored whole. -/
theorem wpList_store_elem {P : Program} {w : World} {ops : Array Oper} {rest : List Oper} {o : Oper} {ac : Act} {Q : Exit → Act → World → Prop} (hgd : o.guard = none) (hd : o.dst = none) (ty : TypeId) (xo vo : Operand) (ho : o.op = .store ty xo vo)
    {α : Type} (f : α → List Value) (k : Nat) (hf : ∀ x, (f x).length = k) (hk : 0 < k) {B : Nat} {e : TypeId} {x n c : Nat} {l : List α} (hown : Own w B e k (some ⟨x, 0, none⟩) n c (flt f l)) (i : Nat) (y : α) (hi : i < l.length)
    (hx : ac.eval xo = .pointer (some ⟨x, i * k, none⟩)) (hv : ac.eval vo = .agg (f y).toArray) (hinfo : (P.info? ty).map (·.size) = some k) (h1 : ∀ v ∈ f y, v.oneCell' = true)
    (h : ∀ w', Own w' B e k (some ⟨x, 0, none⟩) n c (flt f (l.set i y)) → Below x w w' → (∀ b, b ≠ x → w'.heap[b]? = w.heap[b]?) → (∀ F : Nat → TypeId → Prop, F x e → Mod F w w') → w'.heap.size = w.heap.size → wpList P ops Q rest ac w') : wpList P ops Q (o :: rest) ac w := by
  have hlen : l.length = n := by
    have h1 := hown.1
    rw [flt_length hf] at h1
    exact Nat.eq_of_mul_eq_mul_right hk h1
  have hik : i * k + (f y).length ≤ n * k := by
    rw [hf]
    have := Nat.mul_le_mul_right k (show i + 1 ≤ n by omega)
    rwa [Nat.succ_mul] at this
  obtain ⟨cur, hg, hsz, hnew⟩ := hown.splice (i * k) (f y) hik (by omega)
  rw [hf, ← flt_set hf l i y hi] at hnew
  refine wpList_plain hgd fun K hK => ?_
  have hr := run_storeVar_elem (P := P) w x (i * k) e ty cur (f y).toArray hg (by simpa using hsz) (by simpa [hf] using hinfo) (by simpa using h1)
  unfold Oper.wp execOp
  simp only [ho, hx, hv, Instr.storeAt, Instr.sureAddr, Sem.run_bind, Sem.run_pure, Result.andThen_ok, hr]
  simp only [List.size_toArray, hf]
  have hbe : Below x w (w.setRow x (cur.toList.take (i * k) ++ f y ++ cur.toList.drop (i * k + k)).toArray) := bsetRow (Below.refl _ _) (Nat.le_refl _) _
  have hoth : ∀ b, b ≠ x → (w.setRow x (cur.toList.take (i * k) ++ f y ++ cur.toList.drop (i * k + k)).toArray).heap[b]? = w.heap[b]? := fun b hb => setRow_other w x b _ hb
  have := hK _ _ (h _ hnew hbe hoth (fun F hF => Mod.one hbe hoth hg (setRow_heap w x _ _ _ _ hg) hF) (by simp))
  simp only [Oper.upon, hd, Act.put]
  exact this
end Go.Proofs.Ytclkkhpnnbkfmaa
