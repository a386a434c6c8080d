/- The page's disk as it lies: its rows of sectors, of what is torn, and of writes. -/
import Derived.Test.YtclkkhpnnbkfmaaRefPowR
import Derived.Test.YtclkkhpnnbkfmaaDiskAtR
import Derived.Test.YtclkkhpnnbkfmaaDiskPlain3
import Derived.Test.YtclkkhpnnbkfmaaMake
namespace Go.Proofs.Ytclkkhpnnbkfmaa
open Go.RowKit
variable {R : Nat}

/-- What every disk of n sectors of the page's has. -/
structure RS.ok (d : RS) (n : Nat) : Prop where
  safe : d.safe.length = n
  torn : d.torn.length = n
  loose : ∀ x ∈ d.loose, x.1 < n ∧ x.2.length = 256
  bytes : ∀ x ∈ d.safe, x.length = 256
theorem applyR_length (p : PS) {n : Nat} : ∀ (l : List (Nat × List Byte)) (k : Nat) (u : List (List Byte) × List Bool), u.1.length = n → u.2.length = n → (applyR p k l u).1.length = n ∧ (applyR p k l u).2.length = n
  | [], _, _, h1, h2 => ⟨h1, h2⟩
  | x :: r, k, u, h1, h2 => by
    rw [applyR]
    refine applyR_length p r (k + 1) _ ?_ ?_
    · split
      · exact h1
      · split <;> simp [h1]
    · split
      · simp [h2]
      · split <;> simp [h2]
theorem applyR_snoc (p : PS) (x : Nat × List Byte) : ∀ (l : List (Nat × List Byte)) (k : Nat) (u : List (List Byte) × List Bool), applyR p k (l ++ [x]) u =
    (if ((k + l.length : Nat) : Int) = p.torn then ((applyR p k l u).1, (applyR p k l u).2.set x.1 true) else if p.kept ((k + l.length : Nat) : Int) then ((applyR p k l u).1.set x.1 x.2, (applyR p k l u).2.set x.1 false) else applyR p k l u)
  | [], k, u => by simp [applyR]
  | y :: r, k, u => by
    rw [List.cons_append, applyR, applyR_snoc p x r, applyR]
    simp only [List.length_cons, show k + 1 + r.length = k + (r.length + 1) by omega]
theorem applyR_take_succ (p : PS) (l : List (Nat × List Byte)) (u : List (List Byte) × List Bool) (k : Nat) (h : k < l.length) : applyR p 0 (l.take (k + 1)) u =
    (if (k : Int) = p.torn then ((applyR p 0 (l.take k) u).1, (applyR p 0 (l.take k) u).2.set l[k].1 true) else if p.kept (k : Int) then ((applyR p 0 (l.take k) u).1.set l[k].1 l[k].2, (applyR p 0 (l.take k) u).2.set l[k].1 false) else applyR p 0 (l.take k) u) := by
  rw [take_succ_list l k h, applyR_snoc]
  simp only [List.length_take, Nat.min_eq_left (Nat.le_of_lt h), Nat.zero_add]
theorem applyAll_snoc (x : Nat × List Byte) : ∀ (l : List (Nat × List Byte)) (u : List (List Byte) × List Bool), applyAll (l ++ [x]) u = ((applyAll l u).1.set x.1 x.2, (applyAll l u).2.set x.1 false)
  | [], u => rfl
  | y :: r, u => by
    rw [List.cons_append, applyAll, applyAll_snoc x r, applyAll]
theorem applyAll_take_succ (l : List (Nat × List Byte)) (u : List (List Byte) × List Bool) (k : Nat) (h : k < l.length) : applyAll (l.take (k + 1)) u = ((applyAll (l.take k) u).1.set l[k].1 l[k].2, (applyAll (l.take k) u).2.set l[k].1 false) := by
  rw [take_succ_list l k h, applyAll_snoc]
theorem applyR_bytes (p : PS) : ∀ (l : List (Nat × List Byte)) (k : Nat) (u : List (List Byte) × List Bool), (∀ x ∈ l, x.2.length = 256) → (∀ x ∈ u.1, x.length = 256) → ∀ x ∈ (applyR p k l u).1, x.length = 256
  | [], _, _, _, h => h
  | y :: r, k, u, hl, h => by
    rw [applyR]
    refine applyR_bytes p r (k + 1) _ (fun z hz => hl z (by simp [hz])) fun x hx => ?_
    split at hx
    · exact h x hx
    · split at hx
      · rcases List.mem_or_eq_of_mem_set hx with hx | rfl
        · exact h x hx
        · exact hl y (by simp)
      · exact h x hx
theorem RS.ok.wake {d : RS} {n : Nat} (h : d.ok n) (p : PS) : (d.wake p).ok n := by
  unfold RS.wake
  split
  · exact h
  · have := applyR_length p d.loose 0 (d.safe, d.torn) h.safe h.torn
    exact ⟨this.1, this.2, by simp, applyR_bytes p d.loose 0 (d.safe, d.torn) (fun x hx => (h.loose x hx).2) h.bytes⟩

structure RDkC (K : Nat → Prop) (B : Nat) (w : World) (r q tb : Nat) (life : Int) (sa : Option Addr) (sc : Nat) (ss : List Bsl) (tc : Nat) (ts : List Bool) (la : Option Addr) (lc : Nat) (ls : List WrV) : Prop where
  low : B ≤ r
  obj : w.heap[r]? = some (.cells #[.pointer (some ⟨q, 0, none⟩), .int .i64 life, .slice sa ss.length sc, .slice (some ⟨tb, 0, none⟩) ts.length tc, .slice la ls.length lc] 165 (0, 0))
  safe : Own w B 50 1 sa ss.length sc (ss.map Bsl.val)
  torn : Own w B 4 1 (some ⟨tb, 0, none⟩) ts.length tc (bovs ts)
  loose : Own w B 169 2 la ls.length lc (wvs ls)
  rows : ∀ x ∈ ss, Held w K x.a x.c x.l
  wrs : ∀ x ∈ ls, Held w K x.a x.c x.b
  lnil : ls.length = 0 → la = none
/-- The object in block r is the page's disk d, of the power in block q; what is torn stands in block tb; its bytes lie in blocks of K. -/
def RDk (K : Nat → Prop) (B : Nat) (w : World) (r q tb : Nat) (d : RS) : Prop :=
  ∃ sa sc ss tc la lc ls, RDkC K B w r q tb d.life sa sc ss tc d.torn la lc ls ∧ ss.map Bsl.l = d.safe ∧ ls.map WrV.pl = d.loose

def RDT : List TypeId := [138, 165, 50, 169]
/-- What the page's disk's methods may write. -/
abbrev RDF (B tb : Nat) : Nat → TypeId → Prop := fun b T => B ≤ b ∧ (T ∈ RDT ∨ b = tb ∧ T = 4)
theorem RPF.rdf {B tb : Nat} {w w' : World} (h : Mod (RPF B) w w') : Mod (RDF B tb) w w' := h.mono fun b T _ hf => ⟨hf.1, .inl (by rw [hf.2]; decide)⟩

variable {K K' : Nat → Prop} {B : Nat} {w w' : World} {r q tb : Nat} {life : Int} {sa la : Option Addr} {sc tc lc : Nat} {ss : List Bsl} {ts : List Bool} {ls : List WrV} {d : RS}
theorem RDkC.mono (h : RDkC K B w r q tb life sa sc ss tc ts la lc ls) (hK : ∀ b, b < w.heap.size → K b → K' b) : RDkC K' B w r q tb life sa sc ss tc ts la lc ls :=
  ⟨h.low, h.obj, h.safe, h.torn, h.loose, fun x hx => (h.rows x hx).mono hK, fun x hx => (h.wrs x hx).mono hK, h.lnil⟩
theorem RDk.mono (h : RDk K B w r q tb d) (hK : ∀ b, b < w.heap.size → K b → K' b) : RDk K' B w r q tb d := by
  obtain ⟨sa, sc, ss, tc, la, lc, ls, hc, rest⟩ := h
  exact ⟨sa, sc, ss, tc, la, lc, ls, hc.mono hK, rest⟩
theorem own_block {e : TypeId} {k x n c : Nat} {xs : List Value} {F : Nat → TypeId → Prop} (h : Own w B e k (some ⟨x, 0, none⟩) n c xs) (hm : Mod F w w') (hF : ¬ F x e) : Own w' B e k (some ⟨x, 0, none⟩) n c xs := h.mod hm fun g hg _ hf => by
  simp only [Option.some.injEq, Addr.mk.injEq, and_self, and_true] at hg
  subst hg; exact hF hf
/-- What writes no disk leaves it. -/
theorem RDkC.mod {F : Nat → TypeId → Prop} (h : RDkC K B w r q tb life sa sc ss tc ts la lc ls) (hm : Mod F w w') (hF : ∀ b T, F b T → T ≠ 165 ∧ T ≠ 50 ∧ T ≠ 169 ∧ T ≠ 4) (hK : ∀ b, b < w.heap.size → K b → ¬ F b 5) :
    RDkC K B w' r q tb life sa sc ss tc ts la lc ls :=
  ⟨h.low, hm.keep h.obj fun hf => (hF _ _ hf).1 rfl, h.safe.mod hm fun _ _ _ hf => (hF _ _ hf).2.1 rfl, h.torn.mod hm fun _ _ _ hf => (hF _ _ hf).2.2.2 rfl, h.loose.mod hm fun _ _ _ hf => (hF _ _ hf).2.2.1 rfl,
    fun x hx => (h.rows x hx).mod hm hK, fun x hx => (h.wrs x hx).mod hm hK, h.lnil⟩
theorem RDk.mod {F : Nat → TypeId → Prop} (h : RDk K B w r q tb d) (hm : Mod F w w') (hF : ∀ b T, F b T → T ≠ 165 ∧ T ≠ 50 ∧ T ≠ 169 ∧ T ≠ 4) (hK : ∀ b, b < w.heap.size → K b → ¬ F b 5) : RDk K B w' r q tb d := by
  obtain ⟨sa, sc, ss, tc, la, lc, ls, hc, rest⟩ := h
  exact ⟨sa, sc, ss, tc, la, lc, ls, hc.mod hm hF hK, rest⟩
theorem RDkC.ext (h : RDkC K B w r q tb life sa sc ss tc ts la lc ls) (hb : Below w.heap.size w w') : RDkC K B w' r q tb life sa sc ss tc ts la lc ls := h.mod (bmod hb fun _ _ => False) (fun _ _ h => h.elim) fun _ _ _ h => h
theorem RDk.ext (h : RDk K B w r q tb d) (hb : Below w.heap.size w w') : RDk K B w' r q tb d := h.mod (bmod hb fun _ _ => False) (fun _ _ h => h.elim) fun _ _ _ h => h
theorem RPF_no_dk : ∀ b T, RPF B b T → T ≠ 165 ∧ T ≠ 50 ∧ T ≠ 169 ∧ T ≠ 4 := by
  rintro b T ⟨_, rfl⟩; decide
theorem RPF_no_u8 (b : Nat) : ¬ RPF B b 5 := by rintro ⟨_, hT⟩; revert hT; decide
theorem RDkC.rpf {B' : Nat} (h : RDkC K B w r q tb life sa sc ss tc ts la lc ls) (hm : Mod (RPF B') w w') : RDkC K B w' r q tb life sa sc ss tc ts la lc ls := h.mod hm RPF_no_dk fun b _ _ => RPF_no_u8 b
theorem RDk.rpf {B' : Nat} (h : RDk K B w r q tb d) (hm : Mod (RPF B') w w') : RDk K B w' r q tb d := h.mod hm RPF_no_dk fun b _ _ => RPF_no_u8 b
theorem RDkC.cells (h : RDkC K B w r q tb life sa sc ss tc ts la lc ls) : w.cell? ⟨r, 0, none⟩ = some (.pointer (some ⟨q, 0, none⟩)) ∧ w.cell? ⟨r, 1, none⟩ = some (.int .i64 life) ∧ w.cell? ⟨r, 2, none⟩ = some (.slice sa ss.length sc) ∧ w.cell? ⟨r, 3, none⟩ = some (.slice (some ⟨tb, 0, none⟩) ts.length tc) ∧ w.cell? ⟨r, 4, none⟩ = some (.slice la ls.length lc) ∧ (∀ j, w.frozen? ⟨r, j, none⟩ = false) ∧ r < w.heap.size := by
  refine ⟨?_, ?_, ?_, ?_, ?_, fun j => frozen_of_row w r j _ _ h.obj, heap_lt h.obj⟩ <;> (rw [cell_of_row w r _ _ _ _ h.obj]; rfl)

abbrev OF7 (r : Nat) : Nat → TypeId → Prop := fun b T => b = r ∧ T = 165
theorem OF7_rdf {tb : Nat} (h : Mod (OF7 r) w w') (hr : B ≤ r) : Mod (RDF B tb) w w' := h.mono fun b T _ hf => by obtain ⟨rfl, rfl⟩ := hf; exact ⟨hr, .inl (by decide)⟩
theorem OF7_no_pow (r : Nat) : ∀ b T, OF7 r b T → T ≠ 138 ∧ T ≠ 4 := by
  rintro b T ⟨_, rfl⟩; decide
theorem RDkC.of_mod (h : RDkC K B w r q tb life sa sc ss tc ts la lc ls) (i : Nat) (v : Value) : Mod (OF7 r) w (w.setCell ⟨r, i, none⟩ v) := (Mod.refl _ _).setCell h.obj ⟨rfl, rfl⟩ i v
/-- A field of the object is written. -/
theorem RDkC.upd (h : RDkC K B w r q tb life sa sc ss tc ts la lc ls) (i : Nat) (v : Value) {life' : Int} {sa' la' : Option Addr} {sc' lc' : Nat} {ss' : List Bsl} {ls' : List WrV}
    (hobj : (#[.pointer (some ⟨q, 0, none⟩), .int .i64 life, .slice sa ss.length sc, .slice (some ⟨tb, 0, none⟩) ts.length tc, .slice la ls.length lc] : Array Value).setIfInBounds i v = #[.pointer (some ⟨q, 0, none⟩), .int .i64 life', .slice sa' ss'.length sc', .slice (some ⟨tb, 0, none⟩) ts.length tc, .slice la' ls'.length lc'])
    (hs : Own w B 50 1 sa' ss'.length sc' (ss'.map Bsl.val)) (hp : Own w B 169 2 la' ls'.length lc' (wvs ls'))
    (hq : ∀ x ∈ ss', Held w K x.a x.c x.l) (hr : ∀ x ∈ ls', Held w K x.a x.c x.b) (hpn : ls'.length = 0 → la' = none) :
    RDkC K B (w.setCell ⟨r, i, none⟩ v) r q tb life' sa' sc' ss' tc ts la' lc' ls' := by
  have hm := h.of_mod i v
  have hu : ∀ b, b < w.heap.size → K b → ¬ OF7 r b 5 := fun b _ _ hf => absurd hf.2 (by decide)
  exact ⟨h.low, by rw [← hobj]; exact heap_setCell_same w r i _ _ v h.obj, hs.mod hm fun _ _ _ hf => absurd hf.2 (by decide), h.torn.mod hm fun _ _ _ hf => absurd hf.2 (by decide), hp.mod hm fun _ _ _ hf => absurd hf.2 (by decide),
    fun x hx => (hq x hx).mod hm hu, fun x hx => (hr x hx).mod hm hu, hpn⟩
theorem RDkC.setLife (h : RDkC K B w r q tb life sa sc ss tc ts la lc ls) (l : Int) : RDkC K B (w.setCell ⟨r, 1, none⟩ (.int .i64 l)) r q tb l sa sc ss tc ts la lc ls :=
  h.upd 1 _ rfl h.safe h.loose h.rows h.wrs h.lnil
theorem RDkC.setNil (h : RDkC K B w r q tb life sa sc ss tc ts la lc ls) : RDkC K B (w.setCell ⟨r, 4, none⟩ (.slice none 0 0)) r q tb life sa sc ss tc ts none 0 [] :=
  h.upd 4 _ rfl h.safe (Own.nil _ _ _ _ _) h.rows (by simp) (fun _ => rfl)
/-- Sectors and what is torn are written. -/
abbrev RF7 (B tb : Nat) : Nat → TypeId → Prop := fun b T => B ≤ b ∧ (T = 50 ∨ b = tb ∧ T = 4)
theorem RF7_rdf {w w' : World} (h : Mod (RF7 B tb) w w') : Mod (RDF B tb) w w' := h.mono fun b T _ hf => ⟨hf.1, hf.2.imp (fun h => by rw [h]; decide) id⟩
theorem RDkC.setSafe {sx i : Nat} {y : Bsl} {n : Nat} (h : RDkC K B w r q tb life (some ⟨sx, 0, none⟩) sc ss tc ts la lc ls) (hn : n = y.l.length) (hi : i < ss.length) (hy : Held w K y.a y.c y.l) :
    RDkC K B (w.setCell ⟨sx, i, none⟩ (.slice y.a n y.c)) r q tb life (some ⟨sx, 0, none⟩) sc (ss.set i y) tc ts la lc ls ∧ Mod (RF7 B tb) w (w.setCell ⟨sx, i, none⟩ (.slice y.a n y.c)) := by
  subst hn
  obtain ⟨_, ⟨h0, _⟩ | ⟨g, cur, ha, hb, hh, _⟩⟩ := id h.safe
  · omega
  simp only [Option.some.injEq, Addr.mk.injEq, and_self, and_true] at ha
  subst ha
  have hm : Mod (fun b T => b = sx ∧ T = 50) w (w.setCell ⟨sx, i, none⟩ y.val) := (Mod.refl _ _).setCell hh ⟨rfl, rfl⟩ i _
  have hu : ∀ b, b < w.heap.size → K b → ¬ (b = sx ∧ 5 = 50) := fun b _ _ hf => absurd hf.2 (by decide)
  refine ⟨⟨h.low, ?_, ?_, h.torn.mod hm fun _ _ _ hf => absurd hf.2 (by decide), h.loose.mod hm fun _ _ _ hf => absurd hf.2 (by decide), fun x hx => ?_, fun x hx => (h.wrs x hx).mod hm hu, h.lnil⟩, hm.mono fun b T _ hf => by obtain ⟨rfl, rfl⟩ := hf; exact ⟨hb, .inl rfl⟩⟩
  · rw [List.length_set]; exact hm.keep h.obj fun hf => absurd hf.2 (by decide)
  · rw [List.length_set, List.map_set]; exact h.safe.set i _ hi
  · rcases List.mem_or_eq_of_mem_set hx with hx | rfl
    · exact (h.rows x hx).mod hm hu
    · exact hy.mod hm hu
theorem RDkC.setTorn {i : Nat} (b : Bool) (h : RDkC K B w r q tb life sa sc ss tc ts la lc ls) (hi : i < ts.length) :
    RDkC K B (w.setCell ⟨tb, i, none⟩ (.bool b)) r q tb life sa sc ss tc (ts.set i b) la lc ls ∧ Mod (RF7 B tb) w (w.setCell ⟨tb, i, none⟩ (.bool b)) := by
  obtain ⟨_, ⟨h0, _⟩ | ⟨g, cur, ha, hb, hh, _⟩⟩ := id h.torn
  · omega
  simp only [Option.some.injEq, Addr.mk.injEq, and_self, and_true] at ha
  subst ha
  have hm : Mod (fun b T => b = tb ∧ T = 4) w (w.setCell ⟨tb, i, none⟩ (.bool b)) := (Mod.refl _ _).setCell hh ⟨rfl, rfl⟩ i _
  have hu : ∀ b, b < w.heap.size → K b → ¬ (b = tb ∧ 5 = 4) := fun b _ _ hf => absurd hf.2 (by decide)
  refine ⟨⟨h.low, ?_, h.safe.mod hm fun _ _ _ hf => absurd hf.2 (by decide), ?_, h.loose.mod hm fun _ _ _ hf => absurd hf.2 (by decide), fun x hx => (h.rows x hx).mod hm hu, fun x hx => (h.wrs x hx).mod hm hu, h.lnil⟩, hm.mono fun b T _ hf => by obtain ⟨rfl, rfl⟩ := hf; exact ⟨hb, .inr ⟨rfl, rfl⟩⟩⟩
  · rw [List.length_set]; exact hm.keep h.obj fun hf => absurd hf.2 (by decide)
  · rw [List.length_set, bovs, List.map_set]; exact h.torn.set i _ hi
/-- The page's power stays while these are written. -/
theorem RPow.rf7 {p : PS} (h : RPow R B w q p) (hm : Mod (RF7 B tb) w w') (ht : tb < R) : RPow R B w' q p := h.modR hm fun b T hf => by
  rcases hf.2 with rfl | ⟨rfl, rfl⟩
  · exact ⟨by decide, fun h => absurd h (by decide)⟩
  · exact ⟨by decide, fun _ => ht⟩
abbrev WF7 : Nat → TypeId → Prop := fun _ T => T = 169
/-- A write is appended to the row of those that are not safe. -/
theorem RDkC.append {w2 : World} {a' : Option Addr} {c' m : Nat} {x : WrV} (h : RDkC K B w r q tb life sa sc ss tc ts la lc ls) (hm : m = ls.length) (hA : AppR w w' B 169 2 la m lc a' (m + 1) c' (wvs ls ++ x.cells)) (hb : Below w'.heap.size w' w2)
    (hx : Held w K x.a x.c x.b) : RDkC K B (w2.setCell ⟨r, 4, none⟩ (.slice a' (m + 1) c')) r q tb life sa sc ss tc ts a' c' (ls ++ [x]) := by
  subst hm
  have hm1 : Mod WF7 w w2 := (hA.mod WF7 fun _ _ _ _ => rfl).trans (bmod hb _)
  have hobj := hm1.keep h.obj fun hf => absurd (show 165 = 169 from hf) (by decide)
  have hm2 : Mod (OF7 r) w2 (w2.setCell ⟨r, 4, none⟩ (.slice a' (ls.length + 1) c')) := (Mod.refl _ _).setCell hobj ⟨rfl, rfl⟩ _ _
  have hu : ∀ b, b < w.heap.size → K b → ¬ WF7 b 5 := fun b _ _ hf => absurd (show 5 = 169 from hf) (by decide)
  have hu2 : ∀ b, b < w2.heap.size → K b → ¬ OF7 r b 5 := fun b _ _ hf => absurd hf.2 (by decide)
  refine ⟨h.low, ?_, (h.safe.mod hm1 fun _ _ _ hf => absurd (show 50 = 169 from hf) (by decide)).mod hm2 fun _ _ _ hf => absurd hf.2 (by decide), (h.torn.mod hm1 fun _ _ _ hf => absurd (show 4 = 169 from hf) (by decide)).mod hm2 fun _ _ _ hf => absurd hf.2 (by decide), ?_,
    fun y hy => ((h.rows y hy).mod hm1 hu).mod hm2 hu2, fun y hy => ?_, by simp⟩
  · rw [heap_setCell_same w2 r 4 _ _ _ hobj]
    simp
  · have := (hA.own.ext hb).mod hm2 fun _ _ _ hf => absurd hf.2 (by decide)
    rw [List.length_append, wvs, flt_append, show flt WrV.cells [x] = x.cells by simp [flt]]
    exact this
  · rcases List.mem_append.1 hy with hy | hy
    · exact ((h.wrs y hy).mod hm1 hu).mod hm2 hu2
    · simp only [List.mem_singleton] at hy
      subst hy
      exact (hx.mod hm1 hu).mod hm2 hu2

/-- A sector is appended to the row of those that are safe. -/
theorem RDkC.appendSafe {w2 : World} {a' : Option Addr} {c' m : Nat} {y : Bsl} (h : RDkC K B w r q tb life sa sc ss tc ts la lc ls) (hm : m = ss.length) (hA : AppR w w' B 50 1 sa m sc a' (m + 1) c' (ss.map Bsl.val ++ [y.val])) (hb : Below w'.heap.size w' w2)
    (hy : Held w K y.a y.c y.l) : RDkC K B (w2.setCell ⟨r, 2, none⟩ (.slice a' (m + 1) c')) r q tb life a' c' (ss ++ [y]) tc ts la lc ls := by
  subst hm
  have hm1 : Mod (fun b T => B ≤ b ∧ T = 50) w w2 := (hA.mod _ fun _ _ _ hb => ⟨hb, rfl⟩).trans (bmod hb _)
  have hobj := hm1.keep h.obj fun hf => absurd hf.2 (by decide)
  have hm2 : Mod (OF7 r) w2 (w2.setCell ⟨r, 2, none⟩ (.slice a' (ss.length + 1) c')) := (Mod.refl _ _).setCell hobj ⟨rfl, rfl⟩ _ _
  have hu : ∀ b, b < w.heap.size → K b → ¬ (B ≤ b ∧ 5 = 50) := fun b _ _ hf => absurd hf.2 (by decide)
  have hu2 : ∀ b, b < w2.heap.size → K b → ¬ OF7 r b 5 := fun b _ _ hf => absurd hf.2 (by decide)
  refine ⟨h.low, ?_, ?_, (h.torn.mod hm1 fun _ _ _ hf => absurd hf.2 (by decide)).mod hm2 fun _ _ _ hf => absurd hf.2 (by decide), (h.loose.mod hm1 fun _ _ _ hf => absurd hf.2 (by decide)).mod hm2 fun _ _ _ hf => absurd hf.2 (by decide),
    fun x hx => ?_, fun y hy => ((h.wrs y hy).mod hm1 hu).mod hm2 hu2, h.lnil⟩
  · rw [heap_setCell_same w2 r 2 _ _ _ hobj]
    simp
  · have := (hA.own.ext hb).mod hm2 fun _ _ _ hf => absurd hf.2 (by decide)
    rw [List.length_append, List.map_append]
    exact this
  · rcases List.mem_append.1 hx with hx | hx
    · exact ((h.rows x hx).mod hm1 hu).mod hm2 hu2
    · simp only [List.mem_singleton] at hx
      subst hx
      exact (hy.mod hm1 hu).mod hm2 hu2

theorem rpow_cells {p : PS} (h : RPow R B w q p) : w.cell? ⟨q, 0, none⟩ = some (.bool p.off) ∧ w.cell? ⟨q, 1, none⟩ = some (.int .i64 p.life) ∧ w.cell? ⟨q, 6, none⟩ = some (.int .i64 p.torn) ∧ q < w.heap.size := by
  obtain ⟨armed, ta, tn, tc, tear, ka, kc, h⟩ := h
  refine ⟨?_, ?_, ?_, heap_lt h.obj⟩ <;> (rw [cell_of_row w q _ _ _ _ h.obj]; rfl)
theorem rpow_kept (p : PS) (k : Int) (w : World) {b : Bool} (hp : RPow R B w q p) (hb : p.kept k = b) :
    Calls Try.prog 128 #[.pointer (some ⟨q, 0, none⟩), .int .i64 k] w fun e w' => e = .returned (.bool b) ∧ w = w' := by
  subst hb
  obtain ⟨armed, ta, tn, tc, tear, ka, kc, h⟩ := hp
  have d5 := cell_of_row _ q 5 _ _ _ h.obj
  have hl := heap_lt h.obj
  have ho := h.keep
  have hkl := h.few
  clear h
  by_cases hk0 : 0 ≤ k
  · obtain ⟨k, rfl⟩ := Int.eq_ofNat_of_zero_le hk0
    by_cases hk1 : k < p.keep.length
    · obtain ⟨b, o, rfl, hlb, hat⟩ := src_bools_at ho.src hk1
      have hck := hat k hk1
      have hs : p.kept (k : Int) = p.keep[k] := by simp [PS.kept, hk1]
      rw [hs]
      generalize p.keep[k] = x at *
      clear hat ho hs
      generalize p.keep.length = n at *
      go_enter Try.func128, Try.ntmps128
      go_wp2
      go_ret
      exact ⟨rfl, rfl⟩
    · have hs : p.kept (k : Int) = false := by simp [PS.kept, Nat.not_lt.1 hk1]
      rw [hs]
      clear ho hs
      generalize p.keep.length = n at *
      go_enter Try.func128, Try.ntmps128
      go_wp2
      go_ret
      exact ⟨rfl, rfl⟩
  · have hs : p.kept k = false := by simp [PS.kept, hk0]
    rw [hs]
    go_enter Try.func128, Try.ntmps128
    go_wp2
    go_ret
    exact ⟨rfl, rfl⟩
end Go.Proofs.Ytclkkhpnnbkfmaa
