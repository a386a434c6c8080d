/- 'append' to a slice that the call does not own, where it must grow. -/
import Derived.Test.YtclkkhpnnbkfmaaBase
namespace Go.Proofs.Ytclkkhpnnbkfmaa
open Go.RowKit

theorem Src.add {w : World} {b o : Nat} {xs : List Value} (h : Src w (some ⟨b, o, none⟩) xs) : ∀ j u, xs[j]? = some u → w.cell? ((⟨b, o, none⟩ : Addr).add j) = some u := by
  intro j u hu
  have hj : j < xs.length := (List.getElem?_eq_some_iff.1 hu).1
  obtain ⟨b', o', ha, _, hat⟩ := h.at hj
  simp only [Option.some.injEq, Addr.mk.injEq] at ha
  obtain ⟨rfl, rfl, _⟩ := ha
  have := hat j hj
  rw [List.getElem?_eq_getElem hj] at hu
  rw [← Option.some.inj hu, ← this]
  congr 1
  unfold Addr.add; split <;> simp_all

theorem wpList_app_arg {P : Program} {w : World} {ops : Array Oper} {rest : List Oper} {o : Oper} {ac : Act} {Q : Exit → Act → World → Prop} (hgd : o.guard = none) (s x : Operand) (t : TypeId)
    (ho : o.op = .call { callee := .builtin .append, args := #[s, x], argTypes := #[t, t] })
    (e : TypeId) (i : TypeInfo) (z : Value) (k bytes : Nat) (ht : P.underlying t = some (.slice e)) (hi : P.info? e = some i) (hz : i.zero = some z)
    (hsize : i.size = k) (hby : i.bytes = bytes) (hzs : z.cells.size = k) (hsz : 0 < k)
    (b1 o1 : Nat) (n c : Nat) (xs : List Value) (hs : ac.eval s = .slice (some ⟨b1, o1, none⟩) n c) (hlo : xs.length = n * k) (hown : Src w (some ⟨b1, o1, none⟩) xs)
    (b2 o2 : Nat) (m c2 : Nat) (news : List Value) (hx : ac.eval x = .slice (some ⟨b2, o2, none⟩) m c2) (hl : news.length = m * k) (hsrc : Src w (some ⟨b2, o2, none⟩) news)
    (hg : c < n + m) (h63 : n + m ≤ maxLen) (hbytes : (n + m) * bytes ≤ 140737488355328)
    (h : ∀ a' c' w', Own w' w.heap.size e k a' (n + m) c' (xs ++ news) → Below w.heap.size w w' → wpList P ops Q rest (ac.put o.dst (.slice a' (n + m) c')) w') : wpList P ops Q (o :: rest) ac w := by
  obtain ⟨v', w', hr, h2, h3⟩ := run_append_arg_grows (P := P) w t o.type e i z k bytes ht hi hz hsize hby hzs hsz ⟨b1, o1, none⟩ n c xs hlo hown.add ⟨b2, o2, none⟩ m c2 news hl hsrc.add hg h63 hbytes
  have h3' : Below w.heap.size w w' := (Below.refl _ _).grown h3 (Nat.le_refl _) (fun k hk => by cases hk)
  have hv : ∃ a' c', v' = .slice a' (n + m) c' := by
    rcases h2.2 with ⟨hv, h0⟩ | ⟨g, cap, cur, hv, _⟩
    · omega
    · exact ⟨_, _, hv⟩
  obtain ⟨a', c', rfl⟩ := hv
  refine wpList_plain hgd fun K hK => ?_
  unfold Oper.wp execOp
  simp only [ho, resolve, invoke, builtin, Sem.run_bind, Sem.run_pure, Result.andThen_ok, List.map_toArray, List.map_cons, List.map_nil, hs, hx, hr]
  exact hK _ _ (h a' c' w' (own_of_row h2) h3')
end Go.Proofs.Ytclkkhpnnbkfmaa
