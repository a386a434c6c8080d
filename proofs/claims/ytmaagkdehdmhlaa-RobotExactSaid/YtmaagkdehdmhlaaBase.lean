/- Plain lemmas on memory: slices that are read (Src), slices that the call owns (Own), appends to these; no program is named here. -/
import Derived.WalkKit
import Derived.WalkSpells
import Derived.WalkLawsBesides
import Derived.Laws.CopyOwn
import Derived.Lib.Hide
namespace Go.Proofs.Ytmaagkdehdmhlaa
open Go.RowKit

/-- The cells xs stand from the slice's head on. -/
def Src (w : World) (a : Option Addr) (xs : List Value) : Prop :=
  xs = [] ∨ ∃ b o cs T m, a = some ⟨b, o, none⟩ ∧ w.heap[b]? = some (.cells cs T m) ∧ (cs.toList.drop o).take xs.length = xs

theorem Src.nil (w : World) (a : Option Addr) : Src w a [] := Or.inl rfl

theorem heap_lt {w : World} {b : Nat} {o : Obj} (h : w.heap[b]? = some o) : b < w.heap.size := (Array.getElem?_eq_some_iff.1 h).1

theorem Src.at {w : World} {a : Option Addr} {xs : List Value} (h : Src w a xs) {i : Nat} (hi : i < xs.length) :
    ∃ b o, a = some ⟨b, o, none⟩ ∧ b < w.heap.size ∧ ∀ j (hj : j < xs.length), w.cell? ⟨b, o + j, none⟩ = some xs[j] := by
  rcases h with rfl | ⟨b, o, cs, T, m, ha, hh, ht⟩
  · simp at hi
  · refine ⟨b, o, ha, heap_lt hh, fun j hj => ?_⟩
    rw [cell_of_row w b (o + j) cs T m hh]
    have h1 : xs[j]? = some xs[j] := List.getElem?_eq_getElem hj
    have h2 : ((cs.toList.drop o).take xs.length)[j]? = some xs[j] := by rw [ht]; exact h1
    rw [List.getElem?_take, if_pos hj, List.getElem?_drop] at h2
    simpa using h2

theorem Src.keep {w w' : World} {a : Option Addr} {xs : List Value} (h : Src w a xs) (hb : ∀ b o, a = some ⟨b, o, none⟩ → b < w.heap.size → w'.heap[b]? = w.heap[b]?) : Src w' a xs := by
  rcases h with rfl | ⟨b, o, cs, T, m, ha, hh, ht⟩
  · exact Or.inl rfl
  · exact Or.inr ⟨b, o, cs, T, m, ha, by rw [hb b o ha (heap_lt hh)]; exact hh, ht⟩

theorem Src.ext {w w' : World} {a : Option Addr} {xs : List Value} (h : Src w a xs) (hb : Below w.heap.size w w') : Src w' a xs :=
  h.keep fun b _ _ hl => hb.block b hl

/-- 'a[i:j]' of what is read. -/
theorem Src.sub {w : World} {b o : Nat} {xs : List Value} (h : Src w (some ⟨b, o, none⟩) xs) (i n : Nat) : Src w (some ⟨b, o + i, none⟩) ((xs.drop i).take n) := by
  rcases h with rfl | ⟨b', o', cs, T, m, ha, hh, ht⟩
  · exact Or.inl (by simp)
  · simp only [Option.some.injEq, Addr.mk.injEq] at ha
    obtain ⟨rfl, rfl, _⟩ := ha
    refine Or.inr ⟨b, o + i, cs, T, m, rfl, hh, ?_⟩
    rw [← List.drop_drop]
    conv => rhs; rw [← ht]
    rw [List.drop_take, List.take_take]
    generalize (cs.toList.drop o).drop i = ys
    apply List.ext_getElem?
    intro k
    simp only [List.getElem?_take, List.length_take, List.length_drop]

theorem Src.take {w : World} {a : Option Addr} {xs : List Value} (h : Src w a xs) (n : Nat) : Src w a (xs.take n) := by
  rcases h with rfl | ⟨b, o, cs, T, m, rfl, hh, ht⟩
  · exact Or.inl (by simp)
  · have := Src.sub (w := w) (b := b) (o := o) (xs := xs) (Or.inr ⟨b, o, cs, T, m, rfl, hh, ht⟩) 0 n
    simpa using this

theorem src_drop {w : World} {a : Option Addr} {xs : List Value} (h : Src w a xs) (c k : Nat) (hc : xs.length ≤ c) : Src w (if c = k then a else a.map fun x => x.add k) (xs.drop k) := by
  by_cases hk : c = k
  · rw [if_pos hk, List.drop_eq_nil_of_le (by omega)]
    exact Src.nil _ _
  · rw [if_neg hk]
    rcases h with rfl | ⟨b, o, cs, T, m, rfl, hh, ht⟩
    · simp; exact Src.nil _ _
    · have := Src.sub (w := w) (b := b) (o := o) (xs := xs) (Or.inr ⟨b, o, cs, T, m, rfl, hh, ht⟩) k (xs.length - k)
      rw [List.take_of_length_le (by simp)] at this
      have e : (⟨b, o, none⟩ : Addr).add k = ⟨b, o + k, none⟩ := by unfold Addr.add; split <;> simp_all
      simpa [e] using this
theorem Src.block {w : World} {a : Option Addr} {xs : List Value} (h : Src w a xs) {b o : Nat} (ha : a = some ⟨b, o, none⟩) (hx : xs ≠ []) : b < w.heap.size := by
  rcases h with rfl | ⟨b', o', cs, T, m, ha', hh, ht⟩
  · exact absurd rfl hx
  · rw [ha] at ha'
    simp only [Option.some.injEq, Addr.mk.injEq] at ha'
    obtain ⟨rfl, rfl, _⟩ := ha'
    exact heap_lt hh

/-- A slice of n elements (k cells each) that the call owns: a row among the blocks from 'base' on; or nothing, without capacity. -/
def Own (w : World) (base : Nat) (e : TypeId) (k : Nat) (a : Option Addr) (n c : Nat) (xs : List Value) : Prop :=
  xs.length = n * k ∧ ((n = 0 ∧ c = 0) ∨ ∃ g cur, a = some ⟨g, 0, none⟩ ∧ base ≤ g ∧ w.heap[g]? = some (.cells cur e (0, 0)) ∧ n ≤ c ∧ c ≤ maxLen ∧ cur.size = c * k ∧ cur.toList.take (n * k) = xs)

theorem Own.nil (w : World) (base : Nat) (e : TypeId) (k : Nat) (a : Option Addr) : Own w base e k a 0 0 [] := ⟨by simp, Or.inl ⟨rfl, rfl⟩⟩

theorem Own.src {w : World} {base : Nat} {e : TypeId} {k : Nat} {a : Option Addr} {n c : Nat} {xs : List Value} (h : Own w base e k a n c xs) : Src w a xs := by
  obtain ⟨hl, ⟨rfl, rfl⟩ | ⟨g, cur, ha, hb, hh, hn, hm, hs, ht⟩⟩ := h
  · exact Or.inl (List.eq_nil_of_length_eq_zero (by simpa using hl))
  · exact Or.inr ⟨g, 0, cur, e, (0, 0), ha, hh, by rw [List.drop_zero, hl]; exact ht⟩

theorem Own.len {w : World} {base : Nat} {e : TypeId} {k : Nat} {a : Option Addr} {n c : Nat} {xs : List Value} (h : Own w base e k a n c xs) : n ≤ c ∧ c ≤ maxLen := by
  obtain ⟨hl, ⟨rfl, rfl⟩ | ⟨g, cur, ha, hb, hh, hn, hm, hs, ht⟩⟩ := h
  · exact ⟨Nat.le_refl _, Nat.zero_le _⟩
  · exact ⟨hn, hm⟩

/-- Two rows of unlike element types lie in two blocks. -/
theorem Own.apart {w : World} {base1 base2 : Nat} {e1 e2 : TypeId} {k1 k2 : Nat} {a1 a2 : Option Addr} {n1 c1 n2 c2 : Nat} {xs1 xs2 : List Value} (h1 : Own w base1 e1 k1 a1 n1 c1 xs1) (h2 : Own w base2 e2 k2 a2 n2 c2 xs2) (he : e1 ≠ e2) :
    (n1 = 0 ∧ c1 = 0) ∨ (n2 = 0 ∧ c2 = 0) ∨ ∃ g1 g2, a1 = some ⟨g1, 0, none⟩ ∧ a2 = some ⟨g2, 0, none⟩ ∧ g1 ≠ g2 := by
  obtain ⟨_, h0 | ⟨g, cur, ha, hb, hh, _⟩⟩ := h1
  · exact .inl h0
  · obtain ⟨_, h0 | ⟨g', cur', ha', hb', hh', _⟩⟩ := h2
    · exact .inr (.inl h0)
    · refine .inr (.inr ⟨g, g', ha, ha', fun hg => ?_⟩)
      subst hg
      rw [hh] at hh'
      simp at hh'
      exact he hh'.2
theorem Own.mono {w : World} {base base' : Nat} {e : TypeId} {k : Nat} {a : Option Addr} {n c : Nat} {xs : List Value} (h : Own w base e k a n c xs) (hb : base' ≤ base) : Own w base' e k a n c xs := by
  obtain ⟨hl, h0 | ⟨g, cur, ha, hb', rest⟩⟩ := h
  · exact ⟨hl, Or.inl h0⟩
  · exact ⟨hl, Or.inr ⟨g, cur, ha, by omega, rest⟩⟩

theorem Own.keep {w w' : World} {base : Nat} {e : TypeId} {k : Nat} {a : Option Addr} {n c : Nat} {xs : List Value} (h : Own w base e k a n c xs)
    (hb : ∀ b o, a = some ⟨b, o, none⟩ → b < w.heap.size → w'.heap[b]? = w.heap[b]?) : Own w' base e k a n c xs := by
  obtain ⟨hl, h0 | ⟨g, cur, ha, hb', hh, rest⟩⟩ := h
  · exact ⟨hl, Or.inl h0⟩
  · exact ⟨hl, Or.inr ⟨g, cur, ha, hb', by rw [hb g 0 ha (heap_lt hh)]; exact hh, rest⟩⟩

theorem Own.ext {w w' : World} {base : Nat} {e : TypeId} {k : Nat} {a : Option Addr} {n c : Nat} {xs : List Value} (h : Own w base e k a n c xs) (hb : Below w.heap.size w w') : Own w' base e k a n c xs :=
  h.keep fun b _ _ hl => hb.block b hl

/-- What is owned stays owned while another row is written. -/
theorem Own.other {w w' : World} {base base2 : Nat} {e e2 : TypeId} {k k2 : Nat} {a a2 : Option Addr} {n c n2 c2 : Nat} {xs xs2 : List Value} (h : Own w base e k a n c xs) (h2 : Own w base2 e2 k2 a2 n2 c2 xs2) (he : e ≠ e2)
    (hf : ∀ b, b < w.heap.size → ((n2 = 0 ∧ c2 = 0) ∨ ∀ o, a2 ≠ some ⟨b, o, none⟩) → w'.heap[b]? = w.heap[b]?) : Own w' base e k a n c xs := by
  rcases h.apart h2 he with ⟨rfl, rfl⟩ | h00 | ⟨g1, g2, rfl, rfl, hne⟩
  · exact ⟨h.1, Or.inl ⟨rfl, rfl⟩⟩
  · exact h.keep fun b o _ hl => hf b hl (.inl h00)
  · refine h.keep fun b o ha hl => hf b hl (.inr fun o' h' => hne ?_)
    simp only [Option.some.injEq, Addr.mk.injEq] at ha h'
    omega
theorem ext_alloc (w : World) (o : Obj) : Below w.heap.size w (w.alloc o) := (Below.refl _ _).alloc (Nat.le_refl _) o
theorem ext_drewN (w : World) (n : Nat) (B : Nat) : Below B w (w.drewN n) := below_drewN (Below.refl _ _) n

/-- Two steps, the first from the whole heap on. -/
theorem bthen {B : Nat} {a b c : World} (h : Below B a b) (k : Below b.heap.size b c) (hB : B ≤ a.heap.size) : Below B a c :=
  h.trans (k.mono (Nat.le_trans hB h.size))

theorem Own.at {w : World} {base : Nat} {e : TypeId} {a : Option Addr} {n c : Nat} {xs : List Value} (h : Own w base e 1 a n c xs) {i : Nat} (hi : i < n) :
    ∃ g, a = some ⟨g, 0, none⟩ ∧ base ≤ g ∧ g < w.heap.size ∧ (∀ j (hj : j < xs.length), w.cell? ⟨g, j, none⟩ = some xs[j]) ∧ (∀ j, w.frozen? ⟨g, j, none⟩ = false) := by
  obtain ⟨hl, ⟨rfl, rfl⟩ | ⟨g, cur, ha, hb, hh, hn, hm, hs, ht⟩⟩ := h
  · omega
  · refine ⟨g, ha, hb, heap_lt hh, fun j hj => ?_, fun j => frozen_of_row w g j cur e hh⟩
    rw [cell_of_row w g j cur e _ hh]
    have h1 : xs[j]? = some xs[j] := List.getElem?_eq_getElem hj
    have h2 : (cur.toList.take (n * 1))[j]? = some xs[j] := by rw [ht]; exact h1
    rw [List.getElem?_take] at h2
    split at h2
    · simpa using h2
    · simp at h2

theorem Own.set {w : World} {base : Nat} {e : TypeId} {g n c : Nat} {xs : List Value} (h : Own w base e 1 (some ⟨g, 0, none⟩) n c xs) (i : Nat) (v : Value) (hi : i < n) :
    Own (w.setCell ⟨g, i, none⟩ v) base e 1 (some ⟨g, 0, none⟩) n c (xs.set i v) := by
  obtain ⟨hl, ⟨rfl, rfl⟩ | ⟨g', cur, ha, hb, hh, hn, hm, hs, ht⟩⟩ := h
  · omega
  · simp only [Option.some.injEq, Addr.mk.injEq, and_self, and_true] at ha
    subst ha
    refine ⟨by simpa using hl, Or.inr ⟨g, cur.setIfInBounds i v, rfl, hb, heap_setCell_same w g i cur e v hh, hn, hm, by simpa using hs, ?_⟩⟩
    rw [← ht]
    simp [List.take_set]

/-- 'append(out, xs...)', out the call's own, whatever xs is. -/
theorem run_app {P : Program} (w : World) (base : Nat) (t ty e : TypeId) (i : TypeInfo) (z : Value) (k bytes : Nat) (ht : P.underlying t = some (.slice e)) (hi : P.info? e = some i) (hz : i.zero = some z)
    (hsize : i.size = k) (hby : i.bytes = bytes) (hzs : z.cells.size = k) (hsz : 0 < k)
    (a : Option Addr) (n c : Nat) (xs : List Value) (hown : Own w base e k a n c xs)
    (a2 : Option Addr) (m c2 : Nat) (news : List Value) (hl : news.length = m * k) (hsrc : Src w a2 news) (h1 : ∀ u ∈ news, u.oneCell' = true)
    (h63 : n + m ≤ maxLen) (hbytes : (n + m) * bytes ≤ 140737488355328) (hbase : base ≤ w.heap.size) :
    ∃ a' c' w', (Builtin.append_ #[t, t] ty #[.slice a n c, .slice a2 m c2]).run P w = .ok (.slice a' (n + m) c') w' ∧ Own w' base e k a' (n + m) c' (xs ++ news) ∧ Below base w w' ∧ (∀ b, b < w.heap.size → ((n = 0 ∧ c = 0) ∨ ∀ o, a ≠ some ⟨b, o, none⟩) → w'.heap[b]? = w.heap[b]?) := by
  by_cases hm : m = 0
  · subst hm
    have hn : news = [] := List.eq_nil_of_length_eq_zero (by simpa using hl)
    subst hn
    refine ⟨a, c, w, ?_, by simpa using hown, Below.refl _ _, fun _ _ _ => rfl⟩
    have hc := hown.len
    subst hsize
    cases a <;> cases a2 <;> simp [Builtin.append_, run_underlying ht, sizeOf, typeInfo, hi, Builtin.lenOf, Builtin.firstCells, loadCells, loadCellsFrom, storeCells, hc]
  · have hpos : 0 < news.length := by rw [hl]; exact Nat.mul_pos (by omega) hsz
    have hx : news ≠ [] := by intro h; rw [h] at hpos; simp at hpos
    rcases hsrc with h | ⟨b, o, cs, T, mm, rfl, hh, htk⟩
    · exact absurd h hx
    have hcells : ∀ j u, news[j]? = some u → w.cell? ((⟨b, o, none⟩ : Addr).add j) = some u := by
      intro j u hu
      have hj : j < news.length := (List.getElem?_eq_some_iff.1 hu).1
      obtain ⟨b', o', ha, _, hat⟩ := Src.at (w := w) (a := some ⟨b, o, none⟩) (xs := news) (Or.inr ⟨b, o, cs, T, mm, rfl, hh, htk⟩) hj
      simp only [Option.some.injEq, Addr.mk.injEq] at ha
      obtain ⟨rfl, rfl, _⟩ := ha
      have := hat j hj
      rw [List.getElem?_eq_getElem hj] at hu
      rw [← Option.some.inj hu, ← this]
      congr 1
      unfold Addr.add; split <;> simp_all
    have hcase : (n = 0 ∧ c = 0) ∨ (¬ (n = 0 ∧ c = 0) ∧ ∃ g cur, a = some ⟨g, 0, none⟩ ∧ base ≤ g ∧ w.heap[g]? = some (.cells cur e (0, 0)) ∧ n ≤ c ∧ c ≤ maxLen ∧ cur.size = c * k ∧ cur.toList.take (n * k) = xs) := by
      by_cases hz : n = 0 ∧ c = 0
      · exact .inl hz
      · exact .inr ⟨hz, hown.2.resolve_left hz⟩
    rcases hcase with ⟨rfl, rfl⟩ | ⟨hnz, g, cur, rfl, hbg, hgg, hnc, hcm, hcs, htake⟩
    · have hx0 : xs = [] := List.eq_nil_of_length_eq_zero (by simpa using hown.1)
      subst hx0
      cases a with
      | none =>
        obtain ⟨v', w', hr, h2, h3, h4⟩ := run_append_own (P := P) w base t ty e i z k bytes ht hi hz hsize hby hzs hsz (.slice none 0 0) 0 []
          (World.ownsRow_nil _ _ _ _) ⟨b, o, none⟩ m c2 news hl hcells h1 h63 hbytes hbase
        rcases h2.2 with ⟨rfl, h0⟩ | ⟨g', cap', cur', rfl, hbg', hh', hn', hm', hs', ht'⟩
        · omega
        · exact ⟨_, cap', w', hr, ⟨h2.1, Or.inr ⟨g', cur', rfl, hbg', hh', hn', hm', hs', ht'⟩⟩, (Below.refl _ _).grown h3 hbase (fun k hk => by simp [Value.ownBlock] at hk), fun b hb _ => h3.block b hb (by simp [Value.ownBlock])⟩
      | some ad =>
        obtain ⟨v', w', hr, h2, h3⟩ := run_append_arg_grows (P := P) w t ty e i z k bytes ht hi hz hsize hby hzs hsz ad 0 0 [] (by simp) (by simp) ⟨b, o, none⟩ m c2 news hl hcells (by omega) h63 hbytes
        rcases h2.2 with ⟨rfl, h0⟩ | ⟨g', cap', cur', rfl, hbg', hh', hn', hm', hs', ht'⟩
        · omega
        · exact ⟨_, cap', w', hr, ⟨h2.1, Or.inr ⟨g', cur', rfl, by omega, hh', hn', hm', hs', ht'⟩⟩, (Below.refl _ _).grown h3 hbase (fun k hk => by cases hk), fun b hb _ => h3.block b hb (by simp)⟩
    · obtain ⟨v', w', hr, h2, h3, h4⟩ := run_append_own (P := P) w base t ty e i z k bytes ht hi hz hsize hby hzs hsz (.slice (some ⟨g, 0, none⟩) n c) n xs
        ⟨hown.1, Or.inr ⟨g, c, cur, rfl, hbg, hgg, hnc, hcm, hcs, htake⟩⟩ ⟨b, o, none⟩ m c2 news hl hcells h1 h63 hbytes hbase
      rcases h2.2 with ⟨rfl, h0⟩ | ⟨g', cap', cur', rfl, hbg', hh', hn', hm', hs', ht'⟩
      · omega
      · exact ⟨_, cap', w', hr, ⟨h2.1, Or.inr ⟨g', cur', rfl, hbg', hh', hn', hm', hs', ht'⟩⟩, (Below.refl _ _).grown h3 hbase (fun k hk => by simp [Value.ownBlock] at hk; omega), fun b hb hne => h3.block b hb (by simp only [Value.ownBlock, ne_eq, Option.some.injEq]; intro e; exact (hne.resolve_left hnz) 0 (by rw [e]))⟩

theorem wpList_appx {P : Program} {w : World} {ops : Array Oper} {rest : List Oper} {o : Oper} {ac : Act} {Q : Exit → Act → World → Prop} (hgd : o.guard = none) (s x : Operand) (t : TypeId)
    (ho : o.op = .call { callee := .builtin .append, args := #[s, x], argTypes := #[t, t] })
    (base : Nat) (e : TypeId) (i : TypeInfo) (z : Value) (k bytes : Nat) (ht : P.underlying t = some (.slice e)) (hi : P.info? e = some i) (hz : i.zero = some z)
    (hsize : i.size = k) (hby : i.bytes = bytes) (hzs : z.cells.size = k) (hsz : 0 < k)
    (a : Option Addr) (n c : Nat) (xs : List Value) (hs : ac.eval s = .slice a n c) (hown : Own w base e k a n c xs)
    (a2 : Option Addr) (m c2 : Nat) (news : List Value) (hx : ac.eval x = .slice a2 m c2) (hl : news.length = m * k) (hsrc : Src w a2 news) (h1 : ∀ u ∈ news, u.oneCell' = true)
    (h63 : n + m ≤ maxLen) (hbytes : (n + m) * bytes ≤ 140737488355328) (hbase : base ≤ w.heap.size)
    (h : ∀ a' c' w', Own w' base e k a' (n + m) c' (xs ++ news) → Below base w w' → (∀ b, b < w.heap.size → ((n = 0 ∧ c = 0) ∨ ∀ o, a ≠ some ⟨b, o, none⟩) → w'.heap[b]? = w.heap[b]?) → wpList P ops Q rest (ac.put o.dst (.slice a' (n + m) c')) w') : wpList P ops Q (o :: rest) ac w := by
  obtain ⟨a', c', w', hr, h2, h3, h4⟩ := run_app (P := P) w base t o.type e i z k bytes ht hi hz hsize hby hzs hsz a n c xs hown a2 m c2 news hl hsrc h1 h63 hbytes hbase
  refine wpList_plain hgd fun K hK => ?_
  unfold Oper.wp execOp
  simp only [ho, resolve, invoke, builtin, Sem.run_bind, Sem.run_pure, Result.andThen_ok, List.map_toArray, List.map_cons, List.map_nil, hs, hx, hr]
  exact hK _ _ (h a' c' w' h2 h3 h4)

theorem wpList_app {P : Program} {w : World} {ops : Array Oper} {rest : List Oper} {o : Oper} {ac : Act} {Q : Exit → Act → World → Prop} (hgd : o.guard = none) (s x : Operand) (t : TypeId)
    (ho : o.op = .call { callee := .builtin .append, args := #[s, x], argTypes := #[t, t] })
    (base : Nat) (e : TypeId) (i : TypeInfo) (z : Value) (k bytes : Nat) (ht : P.underlying t = some (.slice e)) (hi : P.info? e = some i) (hz : i.zero = some z)
    (hsize : i.size = k) (hby : i.bytes = bytes) (hzs : z.cells.size = k) (hsz : 0 < k)
    (a : Option Addr) (n c : Nat) (xs : List Value) (hs : ac.eval s = .slice a n c) (hown : Own w base e k a n c xs)
    (a2 : Option Addr) (m c2 : Nat) (news : List Value) (hx : ac.eval x = .slice a2 m c2) (hl : news.length = m * k) (hsrc : Src w a2 news) (h1 : ∀ u ∈ news, u.oneCell' = true)
    (h63 : n + m ≤ maxLen) (hbytes : (n + m) * bytes ≤ 140737488355328) (hbase : base ≤ w.heap.size)
    (h : ∀ a' c' w', Own w' base e k a' (n + m) c' (xs ++ news) → Below base w w' → wpList P ops Q rest (ac.put o.dst (.slice a' (n + m) c')) w') : wpList P ops Q (o :: rest) ac w :=
  wpList_appx hgd s x t ho base e i z k bytes ht hi hz hsize hby hzs hsz a n c xs hs hown a2 m c2 news hx hl hsrc h1 h63 hbytes hbase fun a' c' w' h2 h3 _ => h a' c' w' h2 h3

theorem bsetRow {B : Nat} {a w : World} (h : Below B a w) {g : Nat} (hg : B ≤ g) (cs : Array Value) : Below B a (w.setRow g cs) :=
  h.trans ⟨rfl, rfl, rfl, by simp, fun k hk => setRow_other w g k cs (by omega)⟩

/-- A whole array (or struct) stored into a block of its own. -/
theorem run_storeVar_row {P : Program} (w : World) (g : Nat) (T ty : TypeId) (old cs : Array Value) (hg : w.heap[g]? = some (.cells old T (0, 0))) (hs : old.size = cs.size)
    (hi : (P.info? ty).map (·.size) = some cs.size) (h1 : ∀ v ∈ cs.toList, v.oneCell' = true) :
    (storeVar ty ⟨g, 0, none⟩ (.agg cs)).run P w = .ok () (w.setRow g cs) := by
  have hst := run_storeCells_at P g 0 T cs.toList 0 old w hg (by simp [hs]) h1
  simp only [Nat.add_zero, List.take_zero, List.nil_append, Nat.zero_add, Array.length_toList] at hst
  rw [show old.toList.drop cs.size = [] from List.drop_eq_nil_of_le (by simp [hs]), List.append_nil, Array.toArray_toList] at hst
  cases hq : P.info? ty with
  | none => simp [hq] at hi
  | some i =>
    have hsz : i.size = cs.size := by simpa [hq] using hi
    simp [storeVar, Value.cells, sizeOf, typeInfo, hq, hsz, hst]

theorem wpList_store_row {P : Program} {w : World} {ops : Array Oper} {rest : List Oper} {o : Oper} {a : Act} {Q : Exit → Act → World → Prop} (hgd : o.guard = none) (hd : o.dst = none) (ty : TypeId) (x v : Operand) (ho : o.op = .store ty x v)
    (g : Nat) (hx : a.eval x = .pointer (some ⟨g, 0, none⟩)) (T : TypeId) (old cs : Array Value) (hv : a.eval v = .agg cs) (hg : w.heap[g]? = some (.cells old T (0, 0))) (hs : old.size = cs.size)
    (hi : (P.info? ty).map (·.size) = some cs.size) (h1 : ∀ v ∈ cs.toList, v.oneCell' = true)
    (h : wpList P ops Q rest a (w.setRow g cs)) : wpList P ops Q (o :: rest) a w := by
  refine wpList_plain hgd fun K hK => ?_
  have hr := run_storeVar_row (P := P) w g T ty old cs hg hs hi h1
  unfold Oper.wp execOp
  simp only [ho, hx, hv, Instr.storeAt, Instr.sureAddr, Sem.run_bind, Sem.run_pure, Result.andThen_ok, hr]
  have := hK _ _ h
  simp only [Oper.upon, hd, Act.put]
  exact this

/-- Bytes as values. -/
abbrev Byte := BitVec 8
def u8v (b : Byte) : Value := .int .u8 (b.toNat : Int)
def bvs (l : List Byte) : List Value := l.map u8v
@[simp] theorem bvs_length (l : List Byte) : (bvs l).length = l.length := by simp [bvs]
theorem bvs_get (l : List Byte) (i : Nat) (h : i < (bvs l).length) : (bvs l)[i] = .int .u8 ((l[i]'(by simpa using h)).toNat : Int) := by simp [bvs, u8v]
theorem bvs_one (l : List Byte) : ∀ u ∈ bvs l, u.oneCell' = true := by
  intro u hu
  simp only [bvs, List.mem_map] at hu
  obtain ⟨b, _, rfl⟩ := hu
  rfl
theorem bvs_append (l m : List Byte) : bvs (l ++ m) = bvs l ++ bvs m := by simp [bvs]
theorem bvs_take (l : List Byte) (n : Nat) : bvs (l.take n) = (bvs l).take n := by simp [bvs, List.map_take]
theorem bvs_drop (l : List Byte) (n : Nat) : bvs (l.drop n) = (bvs l).drop n := by simp [bvs, List.map_drop]
theorem u8v_inj {a b : Byte} (hab : u8v a = u8v b) : a = b := by
  simp only [u8v, Value.int.injEq, true_and] at hab
  exact BitVec.eq_of_toNat_eq (by omega)
theorem bvs_inj {l m : List Byte} (h : bvs l = bvs m) : l = m := (List.map_inj_right (fun _ _ hab => u8v_inj hab)).1 h

/-- A byte slice as it lies: where, its capacity, its bytes. -/
structure Bsl where
  a : Option Addr
  c : Nat
  l : List Byte
def Bsl.val (p : Bsl) : Value := .slice p.a p.l.length p.c
def Bsl.ok (w : World) (p : Bsl) : Prop := Src w p.a (bvs p.l) ∧ p.l.length ≤ 9223372036854775807
theorem Bsl.ok.ext {w w' : World} {p : Bsl} (h : p.ok w) (hb : Below w.heap.size w w') : p.ok w' := ⟨h.1.ext hb, h.2⟩
/-- A slice of byte slices. -/
structure Mat (w : World) (a : Option Addr) (ps : List Bsl) : Prop where
  src : Src w a (ps.map Bsl.val)
  row : ∀ p ∈ ps, p.ok w
theorem Mat.ext {w w' : World} {a : Option Addr} {ps : List Bsl} (h : Mat w a ps) (hb : Below w.heap.size w w') : Mat w' a ps :=
  ⟨h.src.ext hb, fun p hp => (h.row p hp).ext hb⟩
def flat (ps : List Bsl) : List Byte := (ps.map Bsl.l).flatten
theorem flat_snoc (ps : List Bsl) (p : Bsl) : flat (ps ++ [p]) = flat ps ++ p.l := by simp [flat]
theorem Mat.at {w : World} {a : Option Addr} {ps : List Bsl} (h : Mat w a ps) {i : Nat} (hi : i < ps.length) :
    ∃ b o, a = some ⟨b, o, none⟩ ∧ b < w.heap.size ∧ ∀ j (hj : j < ps.length), w.cell? ⟨b, o + j, none⟩ = some (.slice ps[j].a ps[j].l.length ps[j].c) := by
  obtain ⟨b, o, ha, hlt, hat⟩ := h.src.at (i := i) (by simpa using hi)
  refine ⟨b, o, ha, hlt, fun j hj => ?_⟩
  rw [hat j (by simpa using hj)]
  simp [Bsl.val]
theorem src_new (w : World) (cs : List Value) (T : TypeId) : Src (w.alloc (.cells cs.toArray T)) (some ⟨w.heap.size, 0, none⟩) cs :=
  Or.inr ⟨w.heap.size, 0, cs.toArray, T, (0, 0), rfl, heap_alloc_new w _, by simp⟩
theorem mat_new (w : World) (ps : List Bsl) (T : TypeId) (h : ∀ p ∈ ps, p.ok w) : Mat (w.alloc (.cells (ps.map Bsl.val).toArray T)) (some ⟨w.heap.size, 0, none⟩) ps :=
  ⟨src_new w _ T, fun p hp => (h p hp).ext (ext_alloc w _)⟩
theorem mat_new' {w : World} {ps : List Bsl} {T : TypeId} {cs : Array Value} {B : Nat} (hB : B = w.heap.size) (hcs : cs = (ps.map Bsl.val).toArray) (h : ∀ p ∈ ps, p.ok w) : Mat (w.alloc (.cells cs T)) (some ⟨B, 0, none⟩) ps := by
  subst hB; subst hcs; exact mat_new w ps T h
/-- '[][]byte{x}'. -/
theorem mat_one {w : World} {p : Bsl} {T : TypeId} {a : Option Addr} {n c : Nat} {B : Nat} (hB : B = w.heap.size) (h : p.ok w) (ha : a = p.a) (hn : n = p.l.length) (hc : c = p.c) : Mat (w.alloc (.cells #[.slice a n c] T)) (some ⟨B, 0, none⟩) [p] := by
  subst ha; subst hn; subst hc
  exact mat_new' hB rfl (fun q hq => by simp at hq; subst hq; exact h)
theorem own_new (w : World) (cs : List Value) (T : TypeId) (n : Nat) (k : Nat) (hl : cs.length = n * k) (hm : n ≤ maxLen) : Own (w.alloc (.cells cs.toArray T)) w.heap.size T k (some ⟨w.heap.size, 0, none⟩) n n cs :=
  ⟨hl, Or.inr ⟨w.heap.size, cs.toArray, rfl, Nat.le_refl _, heap_alloc_new w _, Nat.le_refl _, hm, by simpa using hl, by simp [← hl]⟩⟩
theorem take_succ_list {α : Type} (l : List α) (k : Nat) (h : k < l.length) : l.take (k + 1) = l.take k ++ [l[k]] := by
  rw [List.take_succ_eq_append_getElem h]

/-- What a byte slice of length l.length reads at. -/
theorem src_bytes_at {w : World} {a : Option Addr} {l : List Byte} (h : Src w a (bvs l)) {i : Nat} (hi : i < l.length) :
    ∃ b o, a = some ⟨b, o, none⟩ ∧ b < w.heap.size ∧ ∀ j (hj : j < l.length), w.cell? ⟨b, o + j, none⟩ = some (.int .u8 (l[j].toNat : Int)) := by
  obtain ⟨b, o, ha, hlt, hat⟩ := h.at (i := i) (by simpa using hi)
  refine ⟨b, o, ha, hlt, fun j hj => ?_⟩
  rw [hat j (by simpa using hj), bvs_get]

/-- 'int(uint(x) % uint(m))'. -/
theorem umod (x M : Int) (h0 : 0 < M) (h1 : M ≤ 4611686018427387904) : ∃ k : Nat, (k : Int) < M ∧ wrap64 ((IntKind.u64.wrap x).tmod M) = (k : Int) := by
  have hx : 0 ≤ IntKind.u64.wrap x := by rw [IntKind.wrap_u64]; omega
  refine ⟨((IntKind.u64.wrap x).tmod M).toNat, ?_, ?_⟩
  · rw [Int.tmod_eq_emod_of_nonneg hx]
    have h2 := Int.emod_nonneg (IntKind.u64.wrap x) (show M ≠ 0 by omega)
    have h3 := Int.emod_lt_of_pos (IntKind.u64.wrap x) h0
    omega
  · rw [Int.tmod_eq_emod_of_nonneg hx]
    have h2 := Int.emod_nonneg (IntKind.u64.wrap x) (show M ≠ 0 by omega)
    have h3 := Int.emod_lt_of_pos (IntKind.u64.wrap x) h0
    rw [IntWalk.wrap64_in _ ⟨by omega, by omega⟩]
    omega

theorem own_of_row {w : World} {base : Nat} {e : TypeId} {k : Nat} {a : Option Addr} {n c : Nat} {xs : List Value} (h : w.ownsRow base e k (.slice a n c) n xs) : Own w base e k a n c xs := by
  obtain ⟨hl, ⟨hv, h0⟩ | ⟨g, cap, cur, hv, rest⟩⟩ := h
  · simp only [Value.slice.injEq] at hv
    obtain ⟨_, hn, hc⟩ := hv
    exact ⟨hl, Or.inl ⟨hn, hc⟩⟩
  · simp only [Value.slice.injEq] at hv
    obtain ⟨ha, _, hc⟩ := hv
    subst hc
    exact ⟨hl, Or.inr ⟨g, cur, ha, rest⟩⟩
theorem made_bytes (n : Nat) : (madeCells #[.int .u8 0] (n * 1)).toList = bvs (List.replicate n 0#8) := by
  apply List.ext_getElem
  · simp [madeCells, bvs]
  · intro i h1 h2
    simp [madeCells, bvs, u8v, Nat.mod_one]
theorem bvs_set (l : List Byte) (i : Nat) (b : Byte) : (bvs l).set i (.int .u8 (b.toNat : Int)) = bvs (l.set i b) := by
  simp [bvs, u8v, List.map_set]

theorem heap_alloc_at (w : World) (o : Obj) : (w.alloc o).heap[w.heap.size]? = some o := by
  show (w.heap.push o)[w.heap.size]? = some o
  exact Array.getElem?_push_size
end Go.Proofs.Ytmaagkdehdmhlaa
