/- Several texts of this claim, one behind the other: AppMod, MedLay. -/
import Derived.Test.YtmaagkdehdmhlaaRegionChainL
import Derived.Test.YtmaagkdehdmhlaaRobotExactPartA
import Derived.OwnWalk
import Derived.Test.YtmaagkdehdmhlaaMedTwin
/- 'append' to a row of one's own: what else it leaves as it was: at most that one row is written, and it keeps its type. -/
namespace Go.Proofs.Ytmaagkdehdmhlaa
open Go.RowKit

theorem Mod.rel (F : Nat → TypeId → Prop) : Trel (Mod F) := ⟨Mod.trans, fun h => bmod h F⟩
/-- What an append has done. -/
structure AppR (w w' : World) (base : Nat) (e : TypeId) (k : Nat) (a : Option Addr) (n c : Nat) (a' : Option Addr) (m c' : Nat) (xs : List Value) : Prop where
  own : Own w' base e k a' m c' xs
  below : Below base w w'
  rest : ∀ b, b < w.heap.size → ((n = 0 ∧ c = 0) ∨ ∀ o, a ≠ some ⟨b, o, none⟩) → w'.heap[b]? = w.heap[b]?
  mod : ∀ F : Nat → TypeId → Prop, (∀ g, a = some ⟨g, 0, none⟩ → g < w.heap.size → base ≤ g → F g e) → Mod F w w'
  where_ : (a' = a ∧ ((n = 0 ∧ c = 0) → m = 0 ∧ c' = 0)) ∨ ∀ g, a' = some ⟨g, 0, none⟩ → w.heap.size ≤ g
theorem AppR.mod' {w w' : World} {base : Nat} {e : TypeId} {k : Nat} {a : Option Addr} {n c : Nat} {a' : Option Addr} {m c' : Nat} {xs : List Value} (h : AppR w w' base e k a n c a' m c' xs) {F : Nat → TypeId → Prop} (hF : ∀ g, a = some ⟨g, 0, none⟩ → g < w.heap.size → base ≤ g → ¬ (n = 0 ∧ c = 0) → F g e) : Mod F w w' := by
  by_cases hz : n = 0 ∧ c = 0
  · exact ⟨h.below.os, h.below.tape, h.below.output, h.below.size, fun b hb => .inl (h.rest b hb (.inl hz))⟩
  · exact h.mod F fun g h1 h2 h3 => hF g h1 h2 h3 hz
theorem own_row {w : World} {base : Nat} {e : TypeId} {k : Nat} {a : Option Addr} {n c : Nat} {xs : List Value} (h : Own w base e k a n c xs) (hz : ¬ (n = 0 ∧ c = 0)) : w.ownsRow base e k (.slice a n c) n xs := by
  obtain ⟨hl, h0 | ⟨g, cur, rfl, hb, hh, hn, hm, hs, ht⟩⟩ := h
  · exact absurd h0 hz
  · exact ⟨hl, .inr ⟨g, c, cur, rfl, hb, hh, hn, hm, hs, ht⟩⟩

theorem run_appm {P : Program} (w : World) (base : Nat) (t ty e : TypeId) (i : TypeInfo) (z : Value) (k bytes : Nat) (ht : P.underlying t = some (.slice e)) (hi : P.info? e = some i) (hz : i.zero = some z)
    (hsize : i.size = k) (hby : i.bytes = bytes) (hzs : z.cells.size = k) (hsz : 0 < k)
    (a : Option Addr) (n c : Nat) (xs : List Value) (hown : Own w base e k a n c xs)
    (a2 : Option Addr) (m c2 : Nat) (news : List Value) (hl : news.length = m * k) (hsrc : Src w a2 news) (h1 : ∀ u ∈ news, u.oneCell' = true)
    (h63 : n + m ≤ maxLen) (hbytes : (n + m) * bytes ≤ 140737488355328) (hbase : base ≤ w.heap.size) :
    ∃ a' c' w', (Builtin.append_ #[t, t] ty #[.slice a n c, .slice a2 m c2]).run P w = .ok (.slice a' (n + m) c') w' ∧ AppR w w' base e k a n c a' (n + m) c' (xs ++ news) := by
  by_cases hm : m = 0
  · subst hm
    have hn : news = [] := List.eq_nil_of_length_eq_zero (by simpa using hl)
    subst hn
    refine ⟨a, c, w, ?_, by simpa using hown, Below.refl _ _, fun _ _ _ => rfl, fun _ _ => Mod.refl _ _, .inl ⟨rfl, fun h => by omega⟩⟩
    have hc := hown.len
    subst hsize
    cases a <;> cases a2 <;> simp [Builtin.append_, run_underlying ht, sizeOf, typeInfo, hi, Builtin.lenOf, Builtin.firstCells, loadCells, loadCellsFrom, storeCells, hc]
  · have hpos : 0 < news.length := by rw [hl]; exact Nat.mul_pos (by omega) hsz
    obtain ⟨b, o, rfl, _, _⟩ := hsrc.at hpos
    have hnews := hsrc.add
    have fresh : ∀ v' w', w'.ownsRow w.heap.size e k v' (n + m) (xs ++ news) → w.grownBy w' none → (Builtin.append_ #[t, t] ty #[.slice a n c, .slice (some ⟨b, o, none⟩) m c2]).run P w = .ok v' w' →
        ∃ a' c' w', (Builtin.append_ #[t, t] ty #[.slice a n c, .slice (some ⟨b, o, none⟩) m c2]).run P w = .ok (.slice a' (n + m) c') w' ∧ AppR w w' base e k a n c a' (n + m) c' (xs ++ news) := by
      intro v' w' h2 h3 hr
      rcases h2.2 with ⟨_, h0⟩ | ⟨g', cap', cur', rfl, hbg', hh', hn', hm', hs', ht'⟩
      · omega
      · have hb : Below w.heap.size w w' := (Below.refl _ _).grown h3 (Nat.le_refl _) (fun k hk => by cases hk)
        exact ⟨_, cap', w', hr, ⟨h2.1, Or.inr ⟨g', cur', rfl, by omega, hh', hn', hm', hs', ht'⟩⟩, hb.mono hbase, fun b hl _ => hb.block b hl, fun F _ => bmod hb F, .inr fun g hg => by simp only [Option.some.injEq, Addr.mk.injEq, and_self, and_true] at hg; omega⟩
    by_cases hnz : n = 0 ∧ c = 0
    · obtain ⟨rfl, rfl⟩ := hnz
      have hx0 : xs = [] := List.eq_nil_of_length_eq_zero (by simpa using hown.1)
      subst hx0
      cases a with
      | none =>
        obtain ⟨v', w', hr, h2, h3, h4⟩ := run_append_own (P := P) w w.heap.size t ty e i z k bytes ht hi hz hsize hby hzs hsz (.slice none 0 0) 0 []
          (World.ownsRow_nil _ _ _ _) ⟨b, o, none⟩ m c2 news hl hnews h1 h63 hbytes (Nat.le_refl _)
        exact fresh v' w' h2 ⟨h3.os, h3.tape, h3.output, h3.size, fun k hk _ => h3.block k hk (by simp [Value.ownBlock])⟩ hr
      | some ad =>
        obtain ⟨v', w', hr, h2, h3⟩ := run_append_arg_grows (P := P) w t ty e i z k bytes ht hi hz hsize hby hzs hsz ad 0 0 [] (by simp) (by simp) ⟨b, o, none⟩ m c2 news hl hnews (by omega) h63 hbytes
        exact fresh v' w' h2 h3 hr
    · obtain ⟨hl0, h0 | ⟨g, cur, rfl, hbg, hgg, hnc, hcm, hcs, htake⟩⟩ := id hown
      · exact absurd h0 hnz
      · by_cases hroom : n + m ≤ c
        · obtain ⟨w', hr, h2, h3⟩ := run_append_fits (P := P) w base t ty e i k ht hi hsize g n c xs (own_row hown hnz) ⟨b, o, none⟩ m c2 news hl hnews h1 hroom
          have ho2 := own_of_row h2
          have hfr : ∀ b', b' < w.heap.size → b' ≠ g → w'.heap[b']? = w.heap[b']? := fun b' hb' hne => h3.block b' hb' (by simp only [ne_eq, Option.some.injEq]; exact hne)
          refine ⟨_, c, w', hr, ho2, (Below.refl _ _).grown h3 hbase (fun k hk => by simp at hk; omega), fun b' hb' hne => hfr b' hb' (fun e => (hne.resolve_left hnz) 0 (by rw [e])), fun F hF => ⟨h3.os, h3.tape, h3.output, h3.size, fun b' hb' => ?_⟩, .inl ⟨rfl, fun h => absurd h hnz⟩⟩
          by_cases hbg' : b' = g
          · subst hbg'
            obtain ⟨_, ⟨h00, h01⟩ | ⟨g', cur', ha', _, hh', _⟩⟩ := ho2
            · omega
            · simp only [Option.some.injEq, Addr.mk.injEq, and_self, and_true] at ha'
              subst ha'
              exact .inr ⟨cur, cur', e, hF _ rfl hb' hbg, hgg, hh'⟩
          · exact .inl (hfr b' hb' hbg')
        · obtain ⟨v', w', hr, h2, h3⟩ := run_append_arg_grows (P := P) w t ty e i z k bytes ht hi hz hsize hby hzs hsz ⟨g, 0, none⟩ n c xs hown.1 hown.src.add ⟨b, o, none⟩ m c2 news hl hnews (by omega) h63 hbytes
          exact fresh v' w' h2 h3 hr

theorem wpList_appm {P : Program} {w : World} {ops : Array Oper} {rest : List Oper} {o : Oper} {ac : Act} {Q : Exit → Act → World → Prop} (hgd : o.guard = none) (s x : Operand) (t : TypeId)
    (ho : o.op = .call { callee := .builtin .append, args := #[s, x], argTypes := #[t, t] })
    (base : Nat) (e : TypeId) (i : TypeInfo) (z : Value) (k bytes : Nat) (ht : P.underlying t = some (.slice e)) (hi : P.info? e = some i) (hz : i.zero = some z)
    (hsize : i.size = k) (hby : i.bytes = bytes) (hzs : z.cells.size = k) (hsz : 0 < k)
    (a : Option Addr) (n c : Nat) (xs : List Value) (hs : ac.eval s = .slice a n c) (hown : Own w base e k a n c xs)
    (a2 : Option Addr) (m c2 : Nat) (news : List Value) (hx : ac.eval x = .slice a2 m c2) (hl : news.length = m * k) (hsrc : Src w a2 news) (h1 : ∀ u ∈ news, u.oneCell' = true)
    (h63 : n + m ≤ maxLen) (hbytes : (n + m) * bytes ≤ 140737488355328) (hbase : base ≤ w.heap.size)
    (h : ∀ a' c' w', AppR w w' base e k a n c a' (n + m) c' (xs ++ news) → wpList P ops Q rest (ac.put o.dst (.slice a' (n + m) c')) w') : wpList P ops Q (o :: rest) ac w := by
  obtain ⟨a', c', w', hr, hR⟩ := run_appm (P := P) w base t o.type e i z k bytes ht hi hz hsize hby hzs hsz a n c xs hown a2 m c2 news hl hsrc h1 h63 hbytes hbase
  refine wpList_plain hgd fun K hK => ?_
  unfold Oper.wp execOp
  simp only [ho, resolve, invoke, builtin, Sem.run_bind, Sem.run_pure, Result.andThen_ok, List.map_toArray, List.map_cons, List.map_nil, hs, hx, hr]
  exact hK _ _ (h a' c' w' hR)
theorem op_appm {P : Program} {w : World} {ρ : Operand → Value} {R : Value → World → Prop} {o : Oper} {s x : Operand} {t : TypeId}
    (ho : o.op = .call { callee := .builtin .append, args := #[s, x], argTypes := #[t, t] })
    (base : Nat) (e : TypeId) (i : TypeInfo) (z : Value) (k bytes : Nat) (ht : P.underlying t = some (.slice e)) (hi : P.info? e = some i) (hz : i.zero = some z)
    (hsize : i.size = k) (hby : i.bytes = bytes) (hzs : z.cells.size = k) (hsz : 0 < k)
    (a : Option Addr) (n c : Nat) (xs : List Value) (hs : ρ s = .slice a n c) (hown : Own w base e k a n c xs)
    (a2 : Option Addr) (m c2 : Nat) (news : List Value) (hx : ρ x = .slice a2 m c2) (hl : news.length = m * k) (hsrc : Src w a2 news) (h1 : ∀ u ∈ news, u.oneCell' = true)
    (h63 : n + m ≤ maxLen) (hbytes : (n + m) * bytes ≤ 140737488355328) (hbase : base ≤ w.heap.size)
    (h : ∀ a' c' w', AppR w w' base e k a n c a' (n + m) c' (xs ++ news) → R (.slice a' (n + m) c') w') : OpOk P o ρ w R := by
  obtain ⟨a', c', w', hr, hR⟩ := run_appm (P := P) w base t o.type e i z k bytes ht hi hz hsize hby hzs hsz a n c xs hown a2 m c2 news hl hsrc h1 h63 hbytes hbase
  have hrun : (execOp ρ o).run P w = .ok (.value (.slice a' (n + m) c')) w' := by
    unfold execOp
    simp only [ho, resolve, invoke, builtin, Sem.run_bind, Sem.run_pure, Result.andThen_ok, List.map_toArray, List.map_cons, List.map_nil, hs, hx, hr]
  exact op_val hrun (h a' c' w' hR)
end Go.Proofs.Ytmaagkdehdmhlaa

/- medium.Wrong, Lay. -/
namespace Go.Proofs.Ytmaagkdehdmhlaa
open Go.RowKit

set_option maxHeartbeats 2000000 in
theorem wrong_any (cap : Int) (a : Option Addr) (c n : Nat) (m : Med) (p : Int) (ab : Option Addr) (cb k : Nat) (blk : Bool) (R : Int) (w : World) (hcap : m.cap = cap) (hn : m.cells.length = n) (hr : m.wrong p k blk = R) :
    Calls Try.prog 51 #[.agg #[.int .i64 cap, .slice a n c], .int .i64 p, .slice ab k cb, .bool blk] w fun e w' => e = .returned (.int .i64 R) ∧ Below w.heap.size w w' := by
  have HR : Hid ((if p < 0 ∨ (n : Int) < p then 1 else if blk = true ∧ (k < 1 ∨ 256 < k) then 2 else if p = cap then 7 else 0) = R) := Lib.hid (by rw [← hr, Med.wrong, hn, hcap])
  have hb := ext_alloc w (.cells #[.int .i64 cap, .slice a n c] 45)
  have hz := heap_alloc_new w (.cells #[.int .i64 cap, .slice a n c] 45)
  have hzl := heap_lt hz
  clear hr hcap hn
  by_cases h0 : p < 0
  · have hR : R = 1 := by rw [← HR.out, if_pos (.inl h0)]
    subst hR
    go_enter Try.func51, Try.ntmps51
    go_wp2
    go_ret
    exact ⟨rfl, hb⟩
  · by_cases h1 : (n : Int) < p
    · have hR : R = 1 := by rw [← HR.out, if_pos (.inr h1)]
      subst hR
      go_enter Try.func51, Try.ntmps51
      go_wp2
      go_ret
      exact ⟨rfl, hb⟩
    · have HR2 : Hid ((if blk = true ∧ (k < 1 ∨ 256 < k) then 2 else if p = cap then 7 else 0) = R) := Lib.hid (by rw [← HR.out, if_neg (show ¬ (p < 0 ∨ (n : Int) < p) by omega)])
      have tail : ∀ (q : Bool), Hid ((p == cap) = q) → (blk = true → ¬ k < 1 ∧ ¬ 256 < k) → R = (if q then 7 else 0) := by
        intro q hq hb
        rw [← HR2.out, if_neg (by intro h; have := hb h.1; omega)]
        cases q with
        | true => rw [if_pos (by simpa using hq.out)]; rfl
        | false => rw [if_neg (by simpa using hq.out)]; rfl
      cases blk with
      | false =>
        cases hq : (p == cap) with
        | true =>
          have hR := tail true hq (by simp)
          subst hR
          clear tail HR2 HR
          go_enter Try.func51, Try.ntmps51
          go_wp2
          go_ret
          exact ⟨rfl, hb⟩
        | false =>
          have hR := tail false hq (by simp)
          subst hR
          clear tail HR2 HR
          go_enter Try.func51, Try.ntmps51
          go_wp2
          go_ret
          exact ⟨rfl, hb⟩
      | true =>
        by_cases k1 : k < 1
        · have hR : R = 2 := by rw [← HR2.out, if_pos ⟨rfl, .inl k1⟩]
          subst hR
          clear tail HR2 HR
          go_enter Try.func51, Try.ntmps51
          go_wp2
          go_ret
          exact ⟨rfl, hb⟩
        · by_cases k2 : 256 < k
          · have hR : R = 2 := by rw [← HR2.out, if_pos ⟨rfl, .inr k2⟩]
            subst hR
            clear tail HR2 HR
            go_enter Try.func51, Try.ntmps51
            go_wp2
            go_ret
            exact ⟨rfl, hb⟩
          · cases hq : (p == cap) with
            | true =>
              have hR := tail true hq (fun _ => ⟨k1, k2⟩)
              subst hR
              clear tail HR2 HR
              go_enter Try.func51, Try.ntmps51
              go_wp2
              go_ret
              exact ⟨rfl, hb⟩
            | false =>
              have hR := tail false hq (fun _ => ⟨k1, k2⟩)
              subst hR
              clear tail HR2 HR
              go_enter Try.func51, Try.ntmps51
              go_wp2
              go_ret
              exact ⟨rfl, hb⟩

/-- Rows of cells alone are written. -/
abbrev CF : Nat → TypeId → Prop := fun _ T => T = 42
/-- What Lay may write: the object, and the row of its cells. -/
abbrev LF (B g : Nat) (T0 : TypeId) (a : Option Addr) : Nat → TypeId → Prop := fun b T => (b = g ∧ T = T0) ∨ (T = 42 ∧ B ≤ b ∧ a = some ⟨b, 0, none⟩)
theorem Own.take {w : World} {B : Nat} {e : TypeId} {k n c : Nat} {a : Option Addr} {xs : List Value} (h : Own w B e k a n c xs) (p : Nat) (hp : p ≤ n) : Own w B e k a p c (xs.take (p * k)) := by
  obtain ⟨hl, ⟨rfl, rfl⟩ | ⟨g, cur, ha, hb, hh, hn, hm, hs, ht⟩⟩ := h
  · have : p = 0 := by omega
    subst this
    exact ⟨by simp, .inl ⟨rfl, rfl⟩⟩
  · have hpk := Nat.mul_le_mul_right k hp
    refine ⟨by rw [List.length_take, hl, Nat.min_eq_left hpk], .inr ⟨g, cur, ha, hb, hh, by omega, hm, hs, ?_⟩⟩
    rw [← ht, List.take_take, Nat.min_eq_left hpk]

set_option maxRecDepth 100000 in
set_option maxHeartbeats 4000000 in
theorem lay_any (B g o p n c : Nat) (a : Option Addr) (cs : List CellV) (ocs : Array Value) (T0 : TypeId) (kind : Int) (ab : Option Addr) (m cb : Nat) (l : List Byte) (w : World) (hobj : w.heap[g]? = some (.cells ocs T0 (0, 0))) (hTC : T0 ≠ 42) (hT8 : T0 ≠ 5) (hcell : w.cell? ⟨g, o + 1, none⟩ = some (.slice a n c))
    (hrow0 : Own w B 42 3 a n c (flt CellV.cells cs)) (hn : n = cs.length) (hn2 : n ≤ 100000) (hp : p ≤ n) (hsb : Src w ab (bvs l)) (hm : m = l.length) (hm2 : m ≤ 140737488355328) (hB : B ≤ w.heap.size) :
    Calls Try.prog 69 #[.pointer (some ⟨g, o, none⟩), .int .i64 (p : Int), .int .i64 kind, .slice ab m cb] w fun e w' => e = .returned (.tuple #[]) ∧ ∃ a' c' ad cd, w'.heap[g]? = some (.cells (ocs.setIfInBounds (o + 1) (.slice a' (p + 1) c')) T0 (0, 0)) ∧ Own w' B 42 3 a' (p + 1) c' (flt CellV.cells (cs.take p ++ [⟨kind, ⟨ad, cd, l⟩, false⟩])) ∧
      Own w' w.heap.size 5 1 ad m cd (bvs l) ∧ Mod (fun b T => LF B g T0 a b T ∧ (T = 42 → ¬ (n = 0 ∧ c = 0))) w w' ∧ ((a' = a ∧ ¬ (n = 0 ∧ c = 0)) ∨ ∀ x, a' = some ⟨x, 0, none⟩ → w.heap.size ≤ x) := by
  obtain ⟨i0, hi, hz0, hz1, hz2⟩ := info_parts infoCell
  have hrow : Own w B 42 3 a p c (flt CellV.cells (cs.take p)) := by rw [flt_take CellV.len]; exact hrow0.take p hp
  have hnc := hrow0.len.1
  have hpc : (p : Int) ≤ (c : Int) := by omega
  have hpc2 : ¬ c < p := by omega
  clear hrow0
  go_enter Try.func69, Try.ntmps69
  go_wp2_with fail
  refine wp_region_chainL (by kernel_rfl) [9, 10, 11, 12, 15] (Mod.rel CF) [SpT.eq (.pointer (some ⟨g, o, none⟩)), SpT.eq (.pointer (some ⟨g, o, none⟩)), SpT.eq (.pointer (some ⟨g, o, none⟩)), SpT.eq (.pointer (some ⟨g, o + 1, none⟩)), SpT.eq (.slice a n c), SpT.eq (.int .i64 (p : Int)), SpT.eq (.slice a p c), SpT.eq (.int .i64 kind), SpT.eq (.slice ab m cb), SpT.top, SpT.top, SpT.top, SpT.top, SpT.eq (.pointer (some ⟨g, o, none⟩)), SpT.eq (.pointer (some ⟨g, o + 1, none⟩)), SpT.top] (by kernel_rfl) (by kernel_rfl) (by kernel_rfl) (by kernel_rfl) ?_ ?_
  · refine stepsL_free rfl ?_ (stepsL_free rfl ?_ (stepsL_free rfl ?_ (stepsL_free rfl ?_ (stepsL_free rfl ?_ (stepsL_free rfl ?_ (stepsL_free rfl ?_ (stepsL_free rfl ?_ (stepsL_free rfl ?_ (stepsL_chain rfl (stepsL_chain rfl (stepsL_chain rfl (stepsL_chain rfl (stepsL_free rfl ?_ (stepsL_free rfl ?_ (stepsL_chain rfl (stepsL_nil))))))))))))))))
    · intro ρ w' E
      have e0 : ρ (.tmp 0) = .pointer (some ⟨g, o, none⟩) := E.out 0 rfl
      refine step_plain rfl ?_
      exact op_move (.inl rfl) e0 ⟨Below.refl _ _, rfl⟩
    · intro ρ w' E
      have e0 : ρ (.tmp 0) = .pointer (some ⟨g, o, none⟩) := E.out 0 rfl
      refine step_plain rfl ?_
      exact op_move (.inl rfl) e0 ⟨Below.refl _ _, rfl⟩
    · intro ρ w' E
      have e9 : ρ (.tmp 9) = .pointer (some ⟨g, o, none⟩) := E.pre 1 rfl rfl
      refine step_plain rfl ?_
      refine op_val (v := .pointer (some ⟨g, o, none⟩)) (w' := w') ?_ ⟨Below.refl _ _, rfl⟩
      have hcon := E.con
      clear E
      go_simp
    · intro ρ w' E
      have e10 : ρ (.tmp 10) = .pointer (some ⟨g, o, none⟩) := E.pre 2 rfl rfl
      refine step_plain rfl ?_
      refine op_val (v := .pointer (some ⟨g, o + 1, none⟩)) (w' := w') ?_ ⟨Below.refl _ _, rfl⟩
      have hcon := E.con
      clear E
      go_simp
    · intro ρ w' E
      have e11 : ρ (.tmp 11) = .pointer (some ⟨g, o + 1, none⟩) := E.pre 3 rfl rfl
      refine step_plain rfl ?_
      refine op_val (v := .slice a n c) (w' := w') ?_ ⟨Below.refl _ _, rfl⟩
      have hk : w'.cell? ⟨g, o + 1, none⟩ = some (.slice a n c) := (World.cell?_of_block (w := w) ((E.t.keep hobj hTC).trans hobj.symm)).trans hcell
      have hcon := E.con
      clear E hcell
      go_simp
    · intro ρ w' E
      have e1 : ρ (.tmp 1) = .int .i64 (p : Int) := E.out 1 rfl
      refine step_plain rfl ?_
      exact op_move (.inl rfl) e1 ⟨Below.refl _ _, rfl⟩
    · intro ρ w' E
      have e12 : ρ (.tmp 12) = .slice a n c := E.pre 4 rfl rfl
      have e13 : ρ (.tmp 13) = .int .i64 (p : Int) := E.pre 5 rfl rfl
      refine step_plain rfl ?_
      refine op_val (v := .slice a p c) (w' := w') ?_ ⟨Below.refl _ _, rfl⟩
      have hcon := E.con
      clear E hcell
      go_simp
    · intro ρ w' E
      have e2 : ρ (.tmp 2) = .int .i64 kind := E.out 2 rfl
      refine step_plain rfl ?_
      exact op_move (.inl rfl) e2 ⟨Below.refl _ _, rfl⟩
    · intro ρ w' E
      have e3 : ρ (.tmp 3) = .slice ab m cb := E.out 3 rfl
      refine step_plain rfl ?_
      exact op_move (.inl rfl) e3 ⟨Below.refl _ _, rfl⟩
    · intro ρ w' E
      have e8 : ρ (.tmp 8) = .pointer (some ⟨g, o, none⟩) := E.pre 0 rfl rfl
      refine step_plain rfl ?_
      refine op_val (v := .pointer (some ⟨g, o, none⟩)) (w' := w') ?_ ⟨Below.refl _ _, rfl⟩
      have hcon := E.con
      clear E
      go_simp
    · intro ρ w' E
      have e21 : ρ (.tmp 21) = .pointer (some ⟨g, o, none⟩) := E.pre 13 rfl rfl
      refine step_plain rfl ?_
      refine op_val (v := .pointer (some ⟨g, o + 1, none⟩)) (w' := w') ?_ ⟨Below.refl _ _, rfl⟩
      have hcon := E.con
      clear E
      go_simp
  · intro ρ1 w1c G1 E1
    have e16 : ρ1 (.tmp 16) = .slice ab m cb := E1.pre 8 rfl rfl
    refine step_plain rfl ?_
    refine op_call (f := 68) (args := #[.slice ab m cb]) (w' := w1c) (by have hcon := E1.con; have hfn := E1.fn; clear E1 hcell; go_simp) ?_
    refine (clone_at ab cb m l w1c (hsb.ext G1) hm hm2).mono ?_
    rintro e wx1 ⟨ad, cd, rfl, hod, hbd⟩
    refine ⟨_, rfl, bmod hbd _, ?_⟩
    intro ρ2 w2c G2 E2
    have e15 : ρ2 (.tmp 15) = .int .i64 kind := E2.pre 7 rfl rfl
    have e17 : ρ2 (.tmp 17) = .slice ad m cd := E2.chn 9 17 rfl rfl rfl
    refine step_plain rfl ?_
    refine op_val (v := .agg #[.int .i64 kind, .slice ad m cd, .bool false]) (w' := w2c) (by have hcon := E2.con; clear E2 hcell; go_simp) ⟨Mod.refl _ _, ?_⟩
    intro ρ3 w3c G3 E3
    have e18 : ρ3 (.tmp 18) = .agg #[.int .i64 kind, .slice ad m cd, .bool false] := E3.chn 10 18 rfl rfl rfl
    refine step_plain rfl ?_
    refine op_val (v := .slice (some ⟨w3c.heap.size, 0, none⟩) 1 1) (w' := w3c.alloc (.cells #[.int .i64 kind, .slice ad m cd, .bool false] 42)) (by have hcon := E3.con; clear E3 hcell; go_simp) ⟨bmod (ext_alloc _ _) _, ?_⟩
    intro ρ4 w4c G4 E4
    have e14 : ρ4 (.tmp 14) = .slice a p c := E4.pre 6 rfl rfl
    have e19 : ρ4 (.tmp 19) = .slice (some ⟨w3c.heap.size, 0, none⟩) 1 1 := E4.chn 11 19 rfl rfl rfl
    refine step_plain rfl ?_
    have hb04 := bthen (bthen (bthen (bthen G1 hbd (Nat.le_refl _)) G2 (Nat.le_refl _)) G3 (Nat.le_refl _)) (bthen (ext_alloc w3c (.cells #[.int .i64 kind, .slice ad m cd, .bool false] 42)) G4 (Nat.le_refl _)) (Nat.le_refl _)
    have hnew := (G4.block w3c.heap.size (by rw [World.size_alloc]; omega)).trans (heap_alloc_at w3c (.cells #[.int .i64 kind, .slice ad m cd, .bool false] 42))
    refine op_appm (s := .tmp 14) (x := .tmp 19) (t := 43) rfl B 42 i0 (.agg #[.int .i64 0, .slice none 0 0, .bool false]) 3 40 Try.underlying43 hi hz0 hz1 hz2 rfl (by decide) a p c (flt CellV.cells (cs.take p)) e14 (hrow.ext hb04) (some ⟨w3c.heap.size, 0, none⟩) 1 1 (CellV.cells ⟨kind, ⟨ad, cd, l⟩, false⟩) e19 rfl (Or.inr ⟨w3c.heap.size, 0, _, _, _, rfl, hnew, by rw [List.drop_zero]; unfold CellV.cells; rw [← hm]; rfl⟩) (CellV.one _) (by unfold maxLen; omega) (by omega) (Nat.le_trans hB hb04.size) ?_
    intro a5 c5 wx4 hA5
    refine ⟨hA5.mod CF fun _ _ _ _ => rfl, ?_⟩
    intro ρ5 w5c G5 E5
    have e22 : ρ5 (.tmp 22) = .pointer (some ⟨g, o + 1, none⟩) := E5.pre 14 rfl rfl
    have e20 : ρ5 (.tmp 20) = .slice a5 (p + 1) c5 := E5.chn 12 20 rfl rfl rfl
    refine step_plain rfl ?_
    have hm4 : Mod CF w w5c := ((bmod hb04 CF).trans (hA5.mod CF fun _ _ _ _ => rfl)).trans (bmod G5 CF)
    have hobj5 := hm4.keep hobj hTC
    have hcell5 : w5c.cell? ⟨g, o + 1, none⟩ = some _ := (World.cell?_of_block (w := w) (hobj5.trans hobj.symm)).trans hcell
    refine op_store rfl e22 e20 rfl hcell5 (frozen_of_row w5c g (o + 1) _ _ hobj5) (by kernel_rfl) ⟨trivial, ?_⟩
    intro σ wF GF hκ
    have hset := heap_setCell_same w5c g (o + 1) _ _ (.slice a5 (p + 1) c5) hobj5
    have hm5 := (Mod.refl (fun b T => b = g ∧ T = T0) w5c).setCell hobj5 ⟨rfl, rfl⟩ (o + 1) (.slice a5 (p + 1) c5)
    have f1 : (w5c.setCell ⟨g, o + 1, none⟩ (.slice a5 (p + 1) c5)).heap.size = w5c.heap.size := World.size_setCell _ _ _
    have h1 := (GF.block g (heap_lt hset)).trans hset
    have h2 := ((hA5.own.ext G5).mod hm5 fun _ _ _ hf => hTC hf.2.symm).ext GF
    have hod4 := (hod.ext (bthen G2 (bthen G3 (bthen (ext_alloc w3c (.cells #[.int .i64 kind, .slice ad m cd, .bool false] 42)) G4 (Nat.le_refl _)) (Nat.le_refl _)) (Nat.le_refl _))).mono (base' := w.heap.size) G1.size
    have h3 := ((((hod4.mod (hA5.mod CF fun _ _ _ _ => rfl) fun _ _ _ hf => absurd (show 5 = 42 from hf) (by decide)).ext G5).mod hm5 fun _ _ _ hf => hT8 hf.2.symm)).ext GF
    have h4 : Mod (fun b T => LF B g T0 a b T ∧ (T = 42 → ¬ (n = 0 ∧ c = 0))) w wF := ((((bmod hb04 _).trans (hA5.mod' fun x hx _ hBx hz => ⟨.inr ⟨rfl, hBx, hx⟩, fun _ h0 => hz (by omega)⟩)).trans (bmod G5 _)).trans (hm5.mono fun _ _ _ hf => ⟨.inl hf, fun h => absurd (hf.2.symm.trans h) hTC⟩)).trans (bmod GF _)
    have hwh : (a5 = a ∧ ¬ (n = 0 ∧ c = 0)) ∨ ∀ x, a5 = some ⟨x, 0, none⟩ → w.heap.size ≤ x := hA5.where_.imp (fun h => ⟨h.1, fun h0 => by have := h.2 (by omega); omega⟩) fun h x hx => Nat.le_trans hb04.size (h x hx)
    have HW := Lib.hid hwh
    have H1 := Lib.hid h1
    have H2 := Lib.hid h2
    have H3 := Lib.hid h3
    have H4 := Lib.hid h4
    clear hwh h1 h2 h3 h4 hod4 f1 hm5 hset hA5 hobj5 hcell5 hm4 hb04 hnew hod hbd G1 G2 G3 G4 G5 GF E1 E2 E3 E4 E5 hκ hcell hobj hrow
    go_wp2
    go_end0
    refine ⟨rfl, a5, c5, ad, cd, H1.out, ?_, H3.out, H4.out, HW.out⟩
    have := H2.out
    rw [flt_snoc]
    exact this
end Go.Proofs.Ytmaagkdehdmhlaa
