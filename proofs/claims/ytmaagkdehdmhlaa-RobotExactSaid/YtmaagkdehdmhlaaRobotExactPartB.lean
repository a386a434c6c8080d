/- Several texts of this claim, one behind the other: Flt, Keep. -/
import Derived.Test.YtmaagkdehdmhlaaRobotExactPartA
import Derived.Test.YtmaagkdehdmhlaaProg
import Derived.Test.YtmaagkdehdmhlaaBase
import Derived.Outline
import Derived.Deep.QuietTactic
import Derived.BigQuiet
/- Rows of elements of several cells each; an element of one's own row stored whole. -/
namespace Go.Proofs.Ytmaagkdehdmhlaa
open Go.RowKit

/-- The cells of a row of elements. -/
def flt {α : Type} (f : α → List Value) (l : List α) : List Value := (l.map f).flatten
section
variable {α : Type} {f : α → List Value} {k : Nat}
theorem flt_nil : flt f [] = [] := rfl
theorem flt_cons (x : α) (l : List α) : flt f (x :: l) = f x ++ flt f l := by simp [flt]
theorem flt_append (l m : List α) : flt f (l ++ m) = flt f l ++ flt f m := by simp [flt]
theorem flt_snoc (l : List α) (x : α) : flt f (l ++ [x]) = flt f l ++ f x := by simp [flt]
theorem flt_length (hf : ∀ x, (f x).length = k) (l : List α) : (flt f l).length = l.length * k := by
  induction l with
  | nil => simp [flt]
  | cons x l ih => rw [flt_cons, List.length_append, ih, hf, List.length_cons, Nat.succ_mul]; omega
theorem flt_one (hf : ∀ x, ∀ u ∈ f x, u.oneCell' = true) (l : List α) : ∀ u ∈ flt f l, u.oneCell' = true := by
  intro u hu
  simp only [flt, List.mem_flatten, List.mem_map] at hu
  obtain ⟨_, ⟨x, _, rfl⟩, hu⟩ := hu
  exact hf x u hu
theorem flt_take (hf : ∀ x, (f x).length = k) (l : List α) (n : Nat) : flt f (l.take n) = (flt f l).take (n * k) := by
  by_cases hn : n ≤ l.length
  · have h : flt f l = flt f (l.take n) ++ flt f (l.drop n) := by rw [← flt_append, List.take_append_drop]
    rw [h, List.take_left' (by rw [flt_length hf]; simp [Nat.min_eq_left hn])]
  · have hle : (flt f l).length ≤ n * k := by rw [flt_length hf]; exact Nat.mul_le_mul_right k (by omega)
    rw [List.take_of_length_le (by omega), List.take_of_length_le hle]
theorem flt_drop (hf : ∀ x, (f x).length = k) (l : List α) (n : Nat) : flt f (l.drop n) = (flt f l).drop (n * k) := by
  by_cases hn : n ≤ l.length
  · have h : flt f l = flt f (l.take n) ++ flt f (l.drop n) := by rw [← flt_append, List.take_append_drop]
    rw [h, List.drop_left' (by rw [flt_length hf]; simp [Nat.min_eq_left hn])]
  · have hle : (flt f l).length ≤ n * k := by rw [flt_length hf]; exact Nat.mul_le_mul_right k (by omega)
    rw [List.drop_eq_nil_of_le (by omega), List.drop_eq_nil_of_le hle, flt_nil]
theorem flt_get (hf : ∀ x, (f x).length = k) (l : List α) (i : Nat) (hi : i < l.length) (j : Nat) (hj : j < k) : (flt f l)[i * k + j]? = (f l[i])[j]? := by
  have h : flt f l = flt f (l.take i) ++ (f l[i] ++ flt f (l.drop (i + 1))) := by
    rw [← flt_cons, ← flt_append, ← List.drop_eq_getElem_cons hi, List.take_append_drop]
  have hl : (flt f (l.take i)).length = i * k := by rw [flt_length hf]; simp [Nat.min_eq_left (Nat.le_of_lt hi)]
  rw [h, List.getElem?_append_right (by omega), hl, show i * k + j - i * k = j by omega, List.getElem?_append_left (by rw [hf]; exact hj)]
theorem flt_set (hf : ∀ x, (f x).length = k) (l : List α) (i : Nat) (x : α) (hi : i < l.length) : flt f (l.set i x) = (flt f l).take (i * k) ++ f x ++ (flt f l).drop (i * k + k) := by
  rw [← flt_take hf, show i * k + k = (i + 1) * k by rw [Nat.succ_mul], ← flt_drop hf, List.append_assoc, ← flt_cons, ← flt_append, List.set_eq_take_append_cons_drop, if_pos hi]
end

section
variable {w : World} {B : Nat} {e : TypeId} {k : Nat} {a : Option Addr} {n c : Nat} {α : Type} {f : α → List Value} {l : List α}
/-- An element of one's own row. -/
theorem Own.elem (h : Own w B e k a n c (flt f l)) (hf : ∀ x, (f x).length = k) (hk : 0 < k) {i : Nat} (hi : i < l.length) :
    ∃ x, a = some ⟨x, 0, none⟩ ∧ B ≤ x ∧ x < w.heap.size ∧ (∀ j v, (f l[i])[j]? = some v → w.cell? ⟨x, i * k + j, none⟩ = some v) ∧ (∀ j, w.frozen? ⟨x, j, none⟩ = false) := by
  obtain ⟨hl, ⟨rfl, rfl⟩ | ⟨x, cur, ha, hb, hh, hn, hm, hs, ht⟩⟩ := h
  · rw [flt_length hf, Nat.zero_mul] at hl
    have : 0 < l.length * k := Nat.mul_pos (by omega) hk
    omega
  · refine ⟨x, ha, hb, heap_lt hh, fun j v hj => ?_, fun j => frozen_of_row w x j cur e hh⟩
    have hjk : j < k := by have := (List.getElem?_eq_some_iff.1 hj).1; rw [hf] at this; exact this
    rw [cell_of_row w x _ cur e _ hh]
    rw [← flt_get hf l i hi j hjk, ← ht, List.getElem?_take] at hj
    split at hj
    · simpa using hj
    · simp at hj
/-- An element of what is read. -/
theorem Src.elem (h : Src w a (flt f l)) (hf : ∀ x, (f x).length = k) (hk : 0 < k) {i : Nat} (hi : i < l.length) :
    ∃ b o, a = some ⟨b, o, none⟩ ∧ b < w.heap.size ∧ ∀ i (hi : i < l.length) j v, (f l[i])[j]? = some v → w.cell? ⟨b, o + i * k + j, none⟩ = some v := by
  have hpos : 0 < (flt f l).length := by rw [flt_length hf]; exact Nat.mul_pos (by omega) hk
  obtain ⟨b, o, ha, hlt, hat⟩ := h.at hpos
  refine ⟨b, o, ha, hlt, fun i hi j v hj => ?_⟩
  have hjk : j < k := by have := (List.getElem?_eq_some_iff.1 hj).1; rw [hf] at this; exact this
  have hg := flt_get hf l i hi j hjk
  rw [hj] at hg
  have hlt2 := (List.getElem?_eq_some_iff.1 hg).1
  have h1 := hat (i * k + j) hlt2
  rw [← Nat.add_assoc] at h1
  rw [h1, ← List.getElem?_eq_getElem hlt2, hg]
end

theorem run_storeVar_elem {P : Program} (w : World) (g o : Nat) (T ty : TypeId) (cur cs : Array Value) (hg : w.heap[g]? = some (.cells cur T (0, 0))) (hs : o + cs.size ≤ cur.size)
    (hi : (P.info? ty).map (·.size) = some cs.size) (h1 : ∀ v ∈ cs.toList, v.oneCell' = true) :
    (storeVar ty ⟨g, o, none⟩ (.agg cs)).run P w = .ok () (w.setRow g (cur.toList.take o ++ cs.toList ++ cur.toList.drop (o + cs.size)).toArray) := by
  have hst := run_storeCells_at P g o T cs.toList 0 cur w hg (by simpa using hs) h1
  simp only [Nat.add_zero, Array.length_toList] at hst
  cases hq : P.info? ty with
  | none => simp [hq] at hi
  | some i =>
    have hsz : i.size = cs.size := by simpa [hq] using hi
    simp [storeVar, Value.cells, sizeOf, typeInfo, hq, hsz, hst]
theorem Own.splice {w : World} {B : Nat} {e : TypeId} {k x n c : Nat} {xs : List Value} (h : Own w B e k (some ⟨x, 0, none⟩) n c xs) (o : Nat) (cs : List Value) (ho : o + cs.length ≤ n * k) (hn : 0 < n) :
    ∃ cur : Array Value, w.heap[x]? = some (.cells cur e (0, 0)) ∧ o + cs.length ≤ cur.size ∧
      Own (w.setRow x (cur.toList.take o ++ cs ++ cur.toList.drop (o + cs.length)).toArray) B e k (some ⟨x, 0, none⟩) n c (xs.take o ++ cs ++ xs.drop (o + cs.length)) := by
  obtain ⟨hl, ⟨rfl, rfl⟩ | ⟨g, cur, ha, hb, hh, hn, hm, hs, ht⟩⟩ := h
  · omega
  · simp only [Option.some.injEq, Addr.mk.injEq, and_self, and_true] at ha
    subst ha
    have hnk : n * k ≤ c * k := Nat.mul_le_mul_right k hn
    have hcl : cur.toList.length = c * k := by simpa using hs
    refine ⟨cur, hh, by omega, by simp [hl]; omega, .inr ⟨x, _, rfl, hb, setRow_heap w x _ _ _ _ hh, hn, hm, by simp; omega, ?_⟩⟩
    rw [← ht]
    simp only [List.take_take, Nat.min_eq_left (show o ≤ n * k by omega)]
    rw [List.append_assoc, List.take_append, List.take_append]
    simp only [List.length_take, hcl, Nat.min_eq_left (show o ≤ c * k by omega), List.take_take, List.append_assoc]
    rw [Nat.min_eq_right (show o ≤ n * k by omega), List.take_of_length_le (l := cs) (by omega), List.drop_take]
    rw [show n * k - o - cs.length = n * k - (o + cs.length) by omega]
/-- An element of one's own row, stored whole. -/
theorem wpList_store_elem {P : Program} {w : World} {ops : Array Oper} {rest : List Oper} {o : Oper} {ac : Act} {Q : Exit → Act → World → Prop} (hgd : o.guard = none) (hd : o.dst = none) (ty : TypeId) (xo vo : Operand) (ho : o.op = .store ty xo vo)
    {α : Type} (f : α → List Value) (k : Nat) (hf : ∀ x, (f x).length = k) (hk : 0 < k) {B : Nat} {e : TypeId} {x n c : Nat} {l : List α} (hown : Own w B e k (some ⟨x, 0, none⟩) n c (flt f l)) (i : Nat) (y : α) (hi : i < l.length)
    (hx : ac.eval xo = .pointer (some ⟨x, i * k, none⟩)) (hv : ac.eval vo = .agg (f y).toArray) (hinfo : (P.info? ty).map (·.size) = some k) (h1 : ∀ v ∈ f y, v.oneCell' = true)
    (h : ∀ w', Own w' B e k (some ⟨x, 0, none⟩) n c (flt f (l.set i y)) → Below x w w' → (∀ b, b ≠ x → w'.heap[b]? = w.heap[b]?) → (∀ F : Nat → TypeId → Prop, F x e → Mod F w w') → w'.heap.size = w.heap.size → wpList P ops Q rest ac w') : wpList P ops Q (o :: rest) ac w := by
  have hlen : l.length = n := by
    have h1 := hown.1
    rw [flt_length hf] at h1
    exact Nat.eq_of_mul_eq_mul_right hk h1
  have hik : i * k + (f y).length ≤ n * k := by
    rw [hf]
    have := Nat.mul_le_mul_right k (show i + 1 ≤ n by omega)
    rwa [Nat.succ_mul] at this
  obtain ⟨cur, hg, hsz, hnew⟩ := hown.splice (i * k) (f y) hik (by omega)
  rw [hf, ← flt_set hf l i y hi] at hnew
  refine wpList_plain hgd fun K hK => ?_
  have hr := run_storeVar_elem (P := P) w x (i * k) e ty cur (f y).toArray hg (by simpa using hsz) (by simpa [hf] using hinfo) (by simpa using h1)
  unfold Oper.wp execOp
  simp only [ho, hx, hv, Instr.storeAt, Instr.sureAddr, Sem.run_bind, Sem.run_pure, Result.andThen_ok, hr]
  simp only [List.size_toArray, hf]
  have hbe : Below x w (w.setRow x (cur.toList.take (i * k) ++ f y ++ cur.toList.drop (i * k + k)).toArray) := bsetRow (Below.refl _ _) (Nat.le_refl _) _
  have hoth : ∀ b, b ≠ x → (w.setRow x (cur.toList.take (i * k) ++ f y ++ cur.toList.drop (i * k + k)).toArray).heap[b]? = w.heap[b]? := fun b hb => setRow_other w x b _ hb
  have := hK _ _ (h _ hnew hbe hoth (fun F hF => Mod.one hbe hoth hg (setRow_heap w x _ _ _ _ hg) hF) (by simp))
  simp only [Oper.upon, hd, Act.put]
  exact this
end Go.Proofs.Ytmaagkdehdmhlaa

/- cellarerkeep.Twin, cellarerkeep.Bytes, slices.Clone of bytes. -/
namespace Go.Proofs.Ytmaagkdehdmhlaa
open Go.RowKit

theorem info8 : (Try.prog.info? 5).map (fun i => (i.zero, i.size, i.bytes)) = some (some (.int .u8 0), 1, 1) := by kernel_rfl

set_option maxHeartbeats 400000 in
theorem twin_any (a : Option Addr) (c : Nat) (l : List Byte) (w : World) (hs : Src w a (bvs l)) (hl : l.length ≤ 140737488355328) :
    Calls Try.prog 12 #[.slice a l.length c] w fun e w' => ∃ a' c', e = .returned (.slice a' l.length c') ∧ Own w' w.heap.size 5 1 a' l.length c' (bvs l) ∧ Below w.heap.size w w' := by
  obtain ⟨i0, hi, hz0, hz1, hz2⟩ := info_parts info8
  go_enter Try.func12, Try.ntmps12
  go_wp2_with (refine wpList_app rfl (.tmp 4) (.tmp 5) 36 rfl w.heap.size 5 i0 (.int .u8 0) 1 1 Try.underlying36 hi hz0 hz1 hz2 rfl (by decide) none 0 0 [] rfl (Own.nil _ _ _ _ _) a l.length c (bvs l) rfl (by simp) hs (bvs_one l) (by unfold maxLen; omega) (by omega) (Nat.le_refl _) ?_; simp only [Nat.zero_add, List.nil_append]; intro a' c' w' hown hb)
  go_ret
  exact ⟨a', c', rfl, hown, hb⟩

set_option maxHeartbeats 400000 in
theorem clone_any (a : Option Addr) (c : Nat) (l : List Byte) (w : World) (hs : Src w a (bvs l)) (hl : l.length ≤ 140737488355328) :
    Calls Try.prog 68 #[.slice a l.length c] w fun e w' => ∃ a' c', e = .returned (.slice a' l.length c') ∧ Own w' w.heap.size 5 1 a' l.length c' (bvs l) ∧ Below w.heap.size w w' := by
  obtain ⟨i0, hi, hz0, hz1, hz2⟩ := info_parts info8
  go_enter Try.func68, Try.ntmps68
  have hnil := fun (wx : World) (aa : Option Addr) (n cc : Nat) => Lib.run_eql_slice_nil (P := Try.prog) wx 36 5 aa n cc 0 0 Try.underlying36
  cases a with
  | none =>
    have h0 : l = [] := by
      rcases hs with h | ⟨b, o, cs, T, m, ha, _⟩
      · simpa [bvs] using h
      · cases ha
    subst h0
    go_wp2
    go_ret
    exact ⟨none, 0, rfl, Own.nil _ _ _ _ _, Below.refl _ _⟩
  | some ad =>
    go_wp2_with (refine wpList_app rfl (.tmp 5) (.tmp 6) 36 rfl w.heap.size 5 i0 (.int .u8 0) 1 1 Try.underlying36 hi hz0 hz1 hz2 rfl (by decide) (some ⟨w.heap.size, 0, none⟩) 0 0 [] rfl (Own.nil _ _ _ _ _) (some ad) l.length c (bvs l) rfl (by simp) (hs.ext (ext_alloc w _)) (bvs_one l) (by unfold maxLen; omega) (by omega) (by simp) ?_; simp only [Nat.zero_add, List.nil_append]; intro a' c' w' hown hb)
    go_ret
    exact ⟨a', c', rfl, hown, (ext_alloc w _).trans hb⟩

set_option maxHeartbeats 400000 in
theorem bytes_any (a : Option Addr) (ca : Nat) (la : List Byte) (b : Option Addr) (cb : Nat) (lb : List Byte) (w : World) (ha : Src w a (bvs la)) (hb : Src w b (bvs lb))
    (hla : la.length ≤ 9223372036854775807) (hlb : lb.length ≤ 9223372036854775807) :
    Calls Try.prog 35 #[.slice a la.length ca, .slice b lb.length cb] w fun e w' => e = .returned (.bool (decide (la = lb))) ∧ ∃ n, w' = w.drewN n := by
  by_cases hlen : la.length = lb.length
  · have h1 : (((la.length : Nat) : Int) != ((lb.length : Nat) : Int)) = false := by simp [hlen]
    have Hlen := Lib.hid hlen
    clear hlen
    go_enter Try.func35, Try.ntmps35
    go_wp2_with fail
    go_loopw [5] (fun i wr => ∃ k n : Nat, k ≤ la.length ∧ i = .int .i64 k ∧ wr = w.drewN n ∧ la.take k = lb.take k) (fun i _ => la.length - (intOf i).toNat)
    case atStart => exact ⟨0, 0, by omega, rfl, rfl, by simp⟩
    case round =>
      obtain ⟨k, n, hk, rfl, rfl, heq⟩ := hrel
      have Heq := Lib.hid heq
      clear heq
      by_cases hlt : k < la.length
      · have hlt2 : k < lb.length := by have := Hlen.out; omega
        obtain ⟨b1, o1, rfl, _, hat1⟩ := src_bytes_at ha hlt
        obtain ⟨b2, o2, rfl, _, hat2⟩ := src_bytes_at hb hlt2
        have hc1 := hat1 k hlt
        have hc2 := hat2 k hlt2
        have i1 : (k : Int) < (la.length : Int) := by omega
        have i2 : (k : Int) < (lb.length : Int) := by omega
        have Ha := Lib.hid (take_succ_list la k hlt)
        have Hb := Lib.hid (take_succ_list lb k hlt2)
        clear hat1 hat2
        generalize hx : la[k] = x at hc1 Ha
        generalize hy : lb[k] = y at hc2 Hb
        have Hx := Lib.hid hx
        have Hy := Lib.hid hy
        clear hx hy
        by_cases hxy : x = y
        · have e1 : ((x.toNat : Int) != (y.toNat : Int)) = false := by simp [hxy]
          have Hxy := Lib.hid hxy
          clear hxy
          go_wp2_with fail
          go_quiet (fail)
          go_wp2
          go_roundw
          case rel => exact ⟨k + 1, n + nq, by omega, by go_num, rfl, by rw [Ha.out, Hb.out, Heq.out, Hxy.out]⟩
          case measure => simp [intOf]; omega
        · have e1 : ((x.toNat : Int) != (y.toNat : Int)) = true := by
            have : x.toNat ≠ y.toNat := fun h => hxy (BitVec.eq_of_toNat_eq h)
            simp; omega
          go_wp2_with fail
          go_quiet (fail)
          go_wp2
          go_ret
          refine ⟨?_, n + nq, by simp⟩
          rw [decide_eq_false (fun h => hxy ?_)]
          · rfl
          · subst h
            exact Hx.out.symm.trans Hy.out
      · have hkl : k = la.length := by omega
        have hfin : la = lb := by
          have := Heq.out
          rw [hkl, List.take_length, Hlen.out, List.take_length] at this
          exact this
        have Hfin := Lib.hid hfin
        clear hfin hkl
        go_wp2
        go_ret
        exact ⟨by rw [decide_eq_true Hfin.out]; rfl, _, rfl⟩
  · have h1 : (((la.length : Nat) : Int) != ((lb.length : Nat) : Int)) = true := by simp; omega
    go_enter Try.func35, Try.ntmps35
    go_wp2
    go_ret
    exact ⟨by rw [decide_eq_false (fun h => hlen (by rw [h]))]; rfl, 0, rfl⟩
theorem bytes_at (a : Option Addr) (ca : Nat) (la : List Byte) (b : Option Addr) (cb : Nat) (lb : List Byte) (w : World) (n m : Nat) (r : Bool) (ha : Src w a (bvs la)) (hb : Src w b (bvs lb))
    (hn : n = la.length) (hm : m = lb.length) (hla : n ≤ 9223372036854775807) (hlb : m ≤ 9223372036854775807) (hr : decide (la = lb) = r) :
    Calls Try.prog 35 #[.slice a n ca, .slice b m cb] w fun e w' => e = .returned (.bool r) ∧ ∃ n, w' = w.drewN n := by
  subst hn; subst hm; subst hr; exact bytes_any a ca la b cb lb w ha hb hla hlb
theorem clone_at (a : Option Addr) (c n : Nat) (l : List Byte) (w : World) (hs : Src w a (bvs l)) (hn : n = l.length) (hl : n ≤ 140737488355328) :
    Calls Try.prog 68 #[.slice a n c] w fun e w' => ∃ a' c', e = .returned (.slice a' n c') ∧ Own w' w.heap.size 5 1 a' n c' (bvs l) ∧ Below w.heap.size w w' := by
  subst hn; exact clone_any a c l w hs hl
theorem twin_at (a : Option Addr) (c n : Nat) (l : List Byte) (w : World) (hs : Src w a (bvs l)) (hn : n = l.length) (hl : n ≤ 140737488355328) :
    Calls Try.prog 12 #[.slice a n c] w fun e w' => ∃ a' c', e = .returned (.slice a' n c') ∧ Own w' w.heap.size 5 1 a' n c' (bvs l) ∧ Below w.heap.size w w' := by
  subst hn; exact twin_any a c l w hs hl
end Go.Proofs.Ytmaagkdehdmhlaa
