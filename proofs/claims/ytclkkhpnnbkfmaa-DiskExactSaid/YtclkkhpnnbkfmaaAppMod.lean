/- 'append' to a row of one's own: what else it leaves as it was: at most that one row is written, and it keeps its type. -/
import Derived.Test.YtclkkhpnnbkfmaaRegionChainL
import Derived.Test.YtclkkhpnnbkfmaaMod
import Derived.OwnWalk
namespace Go.Proofs.Ytclkkhpnnbkfmaa
open Go.RowKit

theorem Mod.rel (F : Nat → TypeId → Prop) : Trel (Mod F) := ⟨Mod.trans, fun h => bmod h F⟩
/-- What an append has done. -/
structure AppR (w w' : World) (base : Nat) (e : TypeId) (k : Nat) (a : Option Addr) (n c : Nat) (a' : Option Addr) (m c' : Nat) (xs : List Value) : Prop where
  own : Own w' base e k a' m c' xs
  below : Below base w w'
  rest : ∀ b, b < w.heap.size → ((n = 0 ∧ c = 0) ∨ ∀ o, a ≠ some ⟨b, o, none⟩) → w'.heap[b]? = w.heap[b]?
  mod : ∀ F : Nat → TypeId → Prop, (∀ g, a = some ⟨g, 0, none⟩ → g < w.heap.size → base ≤ g → F g e) → Mod F w w'
  where_ : (a' = a ∧ ((n = 0 ∧ c = 0) → m = 0 ∧ c' = 0)) ∨ ∀ g, a' = some ⟨g, 0, none⟩ → w.heap.size ≤ g
theorem AppR.mod' {w w' : World} {base : Nat} {e : TypeId} {k : Nat} {a : Option Addr} {n c : Nat} {a' : Option Addr} {m c' : Nat} {xs : List Value} (h : AppR w w' base e k a n c a' m c' xs) {F : Nat → TypeId → Prop} (hF : ∀ g, a = some ⟨g, 0, none⟩ → g < w.heap.size → base ≤ g → ¬ (n = 0 ∧ c = 0) → F g e) : Mod F w w' := by
  by_cases hz : n = 0 ∧ c = 0
  · exact ⟨h.below.os, h.below.tape, h.below.output, h.below.size, fun b hb => .inl (h.rest b hb (.inl hz))⟩
  · exact h.mod F fun g h1 h2 h3 => hF g h1 h2 h3 hz
theorem own_row {w : World} {base : Nat} {e : TypeId} {k : Nat} {a : Option Addr} {n c : Nat} {xs : List Value} (h : Own w base e k a n c xs) (hz : ¬ (n = 0 ∧ c = 0)) : w.ownsRow base e k (.slice a n c) n xs := by
  obtain ⟨hl, h0 | ⟨g, cur, rfl, hb, hh, hn, hm, hs, ht⟩⟩ := h
  · exact absurd h0 hz
  · exact ⟨hl, .inr ⟨g, c, cur, rfl, hb, hh, hn, hm, hs, ht⟩⟩

theorem run_appm {P : Program} (w : World) (base : Nat) (t ty e : TypeId) (i : TypeInfo) (z : Value) (k bytes : Nat) (ht : P.underlying t = some (.slice e)) (hi : P.info? e = some i) (hz : i.zero = some z)
    (hsize : i.size = k) (hby : i.bytes = bytes) (hzs : z.cells.size = k) (hsz : 0 < k)
    (a : Option Addr) (n c : Nat) (xs : List Value) (hown : Own w base e k a n c xs)
    (a2 : Option Addr) (m c2 : Nat) (news : List Value) (hl : news.length = m * k) (hsrc : Src w a2 news) (h1 : ∀ u ∈ news, u.oneCell' = true)
    (h63 : n + m ≤ maxLen) (hbytes : (n + m) * bytes ≤ 140737488355328) (hbase : base ≤ w.heap.size) :
    ∃ a' c' w', (Builtin.append_ #[t, t] ty #[.slice a n c, .slice a2 m c2]).run P w = .ok (.slice a' (n + m) c') w' ∧ AppR w w' base e k a n c a' (n + m) c' (xs ++ news) := by
  by_cases hm : m = 0
  · subst hm
    have hn : news = [] := List.eq_nil_of_length_eq_zero (by simpa using hl)
    subst hn
    refine ⟨a, c, w, ?_, by simpa using hown, Below.refl _ _, fun _ _ _ => rfl, fun _ _ => Mod.refl _ _, .inl ⟨rfl, fun h => by omega⟩⟩
    have hc := hown.len
    subst hsize
    cases a <;> cases a2 <;> simp [Builtin.append_, run_underlying ht, sizeOf, typeInfo, hi, Builtin.lenOf, Builtin.firstCells, loadCells, loadCellsFrom, storeCells, hc]
  · have hpos : 0 < news.length := by rw [hl]; exact Nat.mul_pos (by omega) hsz
    obtain ⟨b, o, rfl, _, _⟩ := hsrc.at hpos
    have hnews := hsrc.add
    have fresh : ∀ v' w', w'.ownsRow w.heap.size e k v' (n + m) (xs ++ news) → w.grownBy w' none → (Builtin.append_ #[t, t] ty #[.slice a n c, .slice (some ⟨b, o, none⟩) m c2]).run P w = .ok v' w' →
        ∃ a' c' w', (Builtin.append_ #[t, t] ty #[.slice a n c, .slice (some ⟨b, o, none⟩) m c2]).run P w = .ok (.slice a' (n + m) c') w' ∧ AppR w w' base e k a n c a' (n + m) c' (xs ++ news) := by
      intro v' w' h2 h3 hr
      rcases h2.2 with ⟨_, h0⟩ | ⟨g', cap', cur', rfl, hbg', hh', hn', hm', hs', ht'⟩
      · omega
      · have hb : Below w.heap.size w w' := (Below.refl _ _).grown h3 (Nat.le_refl _) (fun k hk => by cases hk)
        exact ⟨_, cap', w', hr, ⟨h2.1, Or.inr ⟨g', cur', rfl, by omega, hh', hn', hm', hs', ht'⟩⟩, hb.mono hbase, fun b hl _ => hb.block b hl, fun F _ => bmod hb F, .inr fun g hg => by simp only [Option.some.injEq, Addr.mk.injEq, and_self, and_true] at hg; omega⟩
    by_cases hnz : n = 0 ∧ c = 0
    · obtain ⟨rfl, rfl⟩ := hnz
      have hx0 : xs = [] := List.eq_nil_of_length_eq_zero (by simpa using hown.1)
      subst hx0
      cases a with
      | none =>
        obtain ⟨v', w', hr, h2, h3, h4⟩ := run_append_own (P := P) w w.heap.size t ty e i z k bytes ht hi hz hsize hby hzs hsz (.slice none 0 0) 0 []
          (World.ownsRow_nil _ _ _ _) ⟨b, o, none⟩ m c2 news hl hnews h1 h63 hbytes (Nat.le_refl _)
        exact fresh v' w' h2 ⟨h3.os, h3.tape, h3.output, h3.size, fun k hk _ => h3.block k hk (by simp [Value.ownBlock])⟩ hr
      | some ad =>
        obtain ⟨v', w', hr, h2, h3⟩ := run_append_arg_grows (P := P) w t ty e i z k bytes ht hi hz hsize hby hzs hsz ad 0 0 [] (by simp) (by simp) ⟨b, o, none⟩ m c2 news hl hnews (by omega) h63 hbytes
        exact fresh v' w' h2 h3 hr
    · obtain ⟨hl0, h0 | ⟨g, cur, rfl, hbg, hgg, hnc, hcm, hcs, htake⟩⟩ := id hown
      · exact absurd h0 hnz
      · by_cases hroom : n + m ≤ c
        · obtain ⟨w', hr, h2, h3⟩ := run_append_fits (P := P) w base t ty e i k ht hi hsize g n c xs (own_row hown hnz) ⟨b, o, none⟩ m c2 news hl hnews h1 hroom
          have ho2 := own_of_row h2
          have hfr : ∀ b', b' < w.heap.size → b' ≠ g → w'.heap[b']? = w.heap[b']? := fun b' hb' hne => h3.block b' hb' (by simp only [ne_eq, Option.some.injEq]; exact hne)
          refine ⟨_, c, w', hr, ho2, (Below.refl _ _).grown h3 hbase (fun k hk => by simp at hk; omega), fun b' hb' hne => hfr b' hb' (fun e => (hne.resolve_left hnz) 0 (by rw [e])), fun F hF => ⟨h3.os, h3.tape, h3.output, h3.size, fun b' hb' => ?_⟩, .inl ⟨rfl, fun h => absurd h hnz⟩⟩
          by_cases hbg' : b' = g
          · subst hbg'
            obtain ⟨_, ⟨h00, h01⟩ | ⟨g', cur', ha', _, hh', _⟩⟩ := ho2
            · omega
            · simp only [Option.some.injEq, Addr.mk.injEq, and_self, and_true] at ha'
              subst ha'
              exact .inr ⟨cur, cur', e, hF _ rfl hb' hbg, hgg, hh'⟩
          · exact .inl (hfr b' hb' hbg')
        · obtain ⟨v', w', hr, h2, h3⟩ := run_append_arg_grows (P := P) w t ty e i z k bytes ht hi hz hsize hby hzs hsz ⟨g, 0, none⟩ n c xs hown.1 hown.src.add ⟨b, o, none⟩ m c2 news hl hnews (by omega) h63 hbytes
          exact fresh v' w' h2 h3 hr

theorem wpList_appm {P : Program} {w : World} {ops : Array Oper} {rest : List Oper} {o : Oper} {ac : Act} {Q : Exit → Act → World → Prop} (hgd : o.guard = none) (s x : Operand) (t : TypeId)
    (ho : o.op = .call { callee := .builtin .append, args := #[s, x], argTypes := #[t, t] })
    (base : Nat) (e : TypeId) (i : TypeInfo) (z : Value) (k bytes : Nat) (ht : P.underlying t = some (.slice e)) (hi : P.info? e = some i) (hz : i.zero = some z)
    (hsize : i.size = k) (hby : i.bytes = bytes) (hzs : z.cells.size = k) (hsz : 0 < k)
    (a : Option Addr) (n c : Nat) (xs : List Value) (hs : ac.eval s = .slice a n c) (hown : Own w base e k a n c xs)
    (a2 : Option Addr) (m c2 : Nat) (news : List Value) (hx : ac.eval x = .slice a2 m c2) (hl : news.length = m * k) (hsrc : Src w a2 news) (h1 : ∀ u ∈ news, u.oneCell' = true)
    (h63 : n + m ≤ maxLen) (hbytes : (n + m) * bytes ≤ 140737488355328) (hbase : base ≤ w.heap.size)
    (h : ∀ a' c' w', AppR w w' base e k a n c a' (n + m) c' (xs ++ news) → wpList P ops Q rest (ac.put o.dst (.slice a' (n + m) c')) w') : wpList P ops Q (o :: rest) ac w := by
  obtain ⟨a', c', w', hr, hR⟩ := run_appm (P := P) w base t o.type e i z k bytes ht hi hz hsize hby hzs hsz a n c xs hown a2 m c2 news hl hsrc h1 h63 hbytes hbase
  refine wpList_plain hgd fun K hK => ?_
  unfold Oper.wp execOp
  simp only [ho, resolve, invoke, builtin, Sem.run_bind, Sem.run_pure, Result.andThen_ok, List.map_toArray, List.map_cons, List.map_nil, hs, hx, hr]
  exact hK _ _ (h a' c' w' hR)
theorem op_appm {P : Program} {w : World} {ρ : Operand → Value} {R : Value → World → Prop} {o : Oper} {s x : Operand} {t : TypeId}
    (ho : o.op = .call { callee := .builtin .append, args := #[s, x], argTypes := #[t, t] })
    (base : Nat) (e : TypeId) (i : TypeInfo) (z : Value) (k bytes : Nat) (ht : P.underlying t = some (.slice e)) (hi : P.info? e = some i) (hz : i.zero = some z)
    (hsize : i.size = k) (hby : i.bytes = bytes) (hzs : z.cells.size = k) (hsz : 0 < k)
    (a : Option Addr) (n c : Nat) (xs : List Value) (hs : ρ s = .slice a n c) (hown : Own w base e k a n c xs)
    (a2 : Option Addr) (m c2 : Nat) (news : List Value) (hx : ρ x = .slice a2 m c2) (hl : news.length = m * k) (hsrc : Src w a2 news) (h1 : ∀ u ∈ news, u.oneCell' = true)
    (h63 : n + m ≤ maxLen) (hbytes : (n + m) * bytes ≤ 140737488355328) (hbase : base ≤ w.heap.size)
    (h : ∀ a' c' w', AppR w w' base e k a n c a' (n + m) c' (xs ++ news) → R (.slice a' (n + m) c') w') : OpOk P o ρ w R := by
  obtain ⟨a', c', w', hr, hR⟩ := run_appm (P := P) w base t o.type e i z k bytes ht hi hz hsize hby hzs hsz a n c xs hown a2 m c2 news hl hsrc h1 h63 hbytes hbase
  have hrun : (execOp ρ o).run P w = .ok (.value (.slice a' (n + m) c')) w' := by
    unfold execOp
    simp only [ho, resolve, invoke, builtin, Sem.run_bind, Sem.run_pure, Result.andThen_ok, List.map_toArray, List.map_cons, List.map_nil, hs, hx, hr]
  exact op_val hrun (h a' c' w' hR)
end Go.Proofs.Ytclkkhpnnbkfmaa
