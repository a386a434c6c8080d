/- Several texts of this claim, one behind the other: RRaw, RegionLastF. -/
import Derived.Test.YtmaagkdehdmhlaaRRob
import Derived.Test.YtmaagkdehdmhlaaRegionPhase
import Derived.Test.YtmaagkdehdmhlaaRobotExactPartB
/- The page's robot's rows, whatever stands in them; what writing in them leaves. -/
namespace Go.Proofs.Ytmaagkdehdmhlaa
open Go.RowKit

structure RRaw (B : Nat) (Z : Nat → Prop) (w : World) (r q : Nat) (V : RRV) (n : Nat) (pD pH pU : List Value) (asked mounts : Int) : Prop where
  low : B ≤ r
  obj : w.heap[r]? = some (.cells #[.pointer (some ⟨q, 0, none⟩), .slice V.aV V.ts.length V.cV, .slice V.aD n V.cD, .slice V.aH n V.cH, .slice V.aU n V.cU, .int .i64 asked, .int .i64 mounts] 74 (0, 0))
  rowV : Own w B 45 2 V.aV V.ts.length V.cV (flt TapeV.cells V.ts)
  rowD : Own w B 55 1 V.aD n V.cD pD
  rowH : Own w B 3 1 V.aH n V.cH pH
  rowU : Own w B 3 1 V.aU n V.cU pU
  hu : ∀ x y, V.aH = some ⟨x, 0, none⟩ → V.aU = some ⟨y, 0, none⟩ → x ≠ y
  inV : RowIn Z V.aV V.ts.length V.cV
  tape : ∀ x ∈ V.ts, TapeIn B Z w x
/-- What the robot's own rows are. -/
abbrev RR0 (B : Nat) (Z : Nat → Prop) : Nat → TypeId → Prop := fun b T => B ≤ b ∧ (T = 74 ∨ T = 55 ∨ T = 3 ∨ Z b ∧ T = 45)
abbrev RB7 (gD gH gU : Nat) : Nat → TypeId → Prop := fun b T => b = gD ∧ T = 55 ∨ (b = gH ∨ b = gU) ∧ T = 3
theorem RB7_no {gD gH gU : Nat} {T : TypeId} (b : Nat) (h1 : T ≠ 55) (h2 : T ≠ 3) : ¬ RB7 gD gH gU b T := by
  rintro (⟨_, h⟩ | ⟨_, h⟩)
  · exact h1 h
  · exact h2 h
variable {B : Nat} {Z : Nat → Prop} {w w' : World} {r q : Nat} {S : RS} {V : RRV} {D : Nat → Nat} {s : PS} {n : Nat} {pD pH pU : List Value} {asked mounts : Int}
theorem RRbL.raw (h : RRbL B Z w r q S V) : RRaw B Z w r q V S.bays.length (V.bs.map BayV.ptr) (V.bs.map BayV.held) (V.bs.map BayV.used) S.asked S.mounts := by
  have hl := h.len
  have h1 := h.obj
  have h2 := h.rowD
  have h3 := h.rowH
  have h4 := h.rowU
  rw [hl] at h1 h2 h3 h4
  exact ⟨h.low, h1, h.rowV, h2, h3, h4, h.hu, h.inV, fun x hx => (h.tape x hx).1⟩
theorem RR0.rrf (h : Mod (RR0 B Z) w w') : Mod (RRF B Z) w w' := h.mono fun b T _ hf => ⟨hf.1, by
  rcases hf.2 with rfl | rfl | rfl | h
  · exact .inl (by decide)
  · exact .inl (by decide)
  · exact .inl (by decide)
  · exact .inr h⟩
theorem RR0_cell (b : Nat) (T : TypeId) (hf : RR0 B Z b T) (hT : T = 42 ∨ T = 5) : False := by
  rcases hf.2 with rfl | rfl | rfl | ⟨_, rfl⟩ <;> revert hT <;> decide
theorem RR0_no {T : TypeId} (h1 : T ≠ 74) (h2 : T ≠ 55) (h3 : T ≠ 3) (h4 : T ≠ 45) (b : Nat) : ¬ RR0 B Z b T := by
  rintro ⟨_, h | h | h | ⟨_, h⟩⟩ <;> simp_all
theorem RPow.rr0 (h : RPow B w q s) (hm : Mod (RR0 B Z) w w') : RPow B w' q s := h.mod hm fun b T hf => by
  rcases hf.2 with rfl | rfl | rfl | ⟨_, rfl⟩ <;> decide
theorem TapeIn.rr0 {x : TapeV} (h : TapeIn B Z w x) (hm : Mod (RR0 B Z) w w') : TapeIn B Z w' x := h.far hm (fun b T _ hf hT => (RR0_cell b T hf hT).elim) fun _ _ _ h => h
theorem rdr_rr0 {rd : Nat} {M : Med} {at_ : Int} {a : Option Addr} {k c : Nat} {cs : List CellV} (h : RDr B w rd q M at_ a k c cs) (hz : RowsIn Z a k c cs) (hm : Mod (RR0 B Z) w w') : RDr B w' rd q M at_ a k c cs :=
  rdr_far h hz hm (RR0_no (by decide) (by decide) (by decide) (by decide) rd) (fun b T _ hf hT => (RR0_cell b T hf hT).elim)
theorem RRaw.ext (h : RRaw B Z w r q V n pD pH pU asked mounts) (hb : Below w.heap.size w w') : RRaw B Z w' r q V n pD pH pU asked mounts :=
  ⟨h.low, (hb.block r (heap_lt h.obj)).trans h.obj, h.rowV.ext hb, h.rowD.ext hb, h.rowH.ext hb, h.rowU.ext hb, h.hu, h.inV, fun x hx => (h.tape x hx).far (bmod hb fun _ _ => False) (fun _ _ _ hf => hf.elim) fun _ _ _ h => h⟩
theorem own_at1 {e : TypeId} {n c x : Nat} {xs : List Value} (h : Own w B e 1 (some ⟨x, 0, none⟩) n c xs) (hn : 0 < n) : B ≤ x ∧ ∃ cur, w.heap[x]? = some (.cells cur e (0, 0)) := by
  obtain ⟨_, ⟨h0, _⟩ | ⟨g, cur, ha, hb, hh, _⟩⟩ := h
  · omega
  · simp only [Option.some.injEq, Addr.mk.injEq, and_self, and_true] at ha
    subst ha
    exact ⟨hb, cur, hh⟩
theorem RRaw.cells (h : RRaw B Z w r q V n pD pH pU asked mounts) : w.cell? ⟨r, 0, none⟩ = some (.pointer (some ⟨q, 0, none⟩)) ∧ w.cell? ⟨r, 1, none⟩ = some (.slice V.aV V.ts.length V.cV) ∧ w.cell? ⟨r, 2, none⟩ = some (.slice V.aD n V.cD) ∧ w.cell? ⟨r, 3, none⟩ = some (.slice V.aH n V.cH) ∧ w.cell? ⟨r, 4, none⟩ = some (.slice V.aU n V.cU) ∧ w.cell? ⟨r, 5, none⟩ = some (.int .i64 asked) ∧ w.cell? ⟨r, 6, none⟩ = some (.int .i64 mounts) ∧ (∀ j, w.frozen? ⟨r, j, none⟩ = false) ∧ r < w.heap.size := by
  have ho := h.obj
  refine ⟨?_, ?_, ?_, ?_, ?_, ?_, ?_, fun j => frozen_of_row w r j _ _ ho, heap_lt ho⟩ <;> (rw [cell_of_row w r _ _ _ _ ho]; rfl)
/-- A pointer of a drive is written. -/
theorem RRaw.mD {gD gH gU : Nat} (h : RRaw B Z w r q V n pD pH pU asked mounts) (hn : 0 < n) (hD : V.aD = some ⟨gD, 0, none⟩) (i : Nat) (v : Value) : Mod (RB7 gD gH gU) w (w.setCell ⟨gD, i, none⟩ v) := by
  have h1 := h.rowD
  rw [hD] at h1
  obtain ⟨_, cur, hh⟩ := own_at1 h1 hn
  exact (Mod.refl _ w).setCell hh (.inl ⟨rfl, rfl⟩) _ _
theorem RRaw.mH {gD gH gU : Nat} (h : RRaw B Z w r q V n pD pH pU asked mounts) (hn : 0 < n) (hH : V.aH = some ⟨gH, 0, none⟩) (i : Nat) (v : Value) : Mod (RB7 gD gH gU) w (w.setCell ⟨gH, i, none⟩ v) := by
  have h1 := h.rowH
  rw [hH] at h1
  obtain ⟨_, cur, hh⟩ := own_at1 h1 hn
  exact (Mod.refl _ w).setCell hh (.inr ⟨.inl rfl, rfl⟩) _ _
theorem RRaw.mU {gD gH gU : Nat} (h : RRaw B Z w r q V n pD pH pU asked mounts) (hn : 0 < n) (hU : V.aU = some ⟨gU, 0, none⟩) (i : Nat) (v : Value) : Mod (RB7 gD gH gU) w (w.setCell ⟨gU, i, none⟩ v) := by
  have h1 := h.rowU
  rw [hU] at h1
  obtain ⟨_, cur, hh⟩ := own_at1 h1 hn
  exact (Mod.refl _ w).setCell hh (.inr ⟨.inr rfl, rfl⟩) _ _
theorem RRaw.putD {gD : Nat} (h : RRaw B Z w r q V n pD pH pU asked mounts) (hD : V.aD = some ⟨gD, 0, none⟩) {i : Nat} (hi : i < n) (v : Value) : RRaw B Z (w.setCell ⟨gD, i, none⟩ v) r q V n (pD.set i v) pH pU asked mounts ∧ Mod (RR0 B Z) w (w.setCell ⟨gD, i, none⟩ v) := by
  have h1 := h.rowD
  rw [hD] at h1
  obtain ⟨hb, cur, hh⟩ := own_at1 h1 (by omega)
  have hm : Mod (fun b T => b = gD ∧ T = 55) w (w.setCell ⟨gD, i, none⟩ v) := (Mod.refl _ w).setCell hh ⟨rfl, rfl⟩ _ _
  have hm0 : Mod (RR0 B Z) w (w.setCell ⟨gD, i, none⟩ v) := hm.mono fun b T _ hf => by obtain ⟨rfl, rfl⟩ := hf; exact ⟨hb, .inr (.inl rfl)⟩
  exact ⟨⟨h.low, hm.keep h.obj fun hf => absurd hf.2 (by decide), h.rowV.mod hm fun _ _ _ hf => absurd hf.2 (by decide), by rw [hD]; exact h1.set i v hi, h.rowH.mod hm fun _ _ _ hf => absurd hf.2 (by decide), h.rowU.mod hm fun _ _ _ hf => absurd hf.2 (by decide), h.hu, h.inV, fun x hx => (h.tape x hx).rr0 hm0⟩, hm0⟩
theorem RRaw.putH {gH : Nat} (h : RRaw B Z w r q V n pD pH pU asked mounts) (hH : V.aH = some ⟨gH, 0, none⟩) {i : Nat} (hi : i < n) (v : Value) : RRaw B Z (w.setCell ⟨gH, i, none⟩ v) r q V n pD (pH.set i v) pU asked mounts ∧ Mod (RR0 B Z) w (w.setCell ⟨gH, i, none⟩ v) := by
  have h1 := h.rowH
  rw [hH] at h1
  obtain ⟨hb, cur, hh⟩ := own_at1 h1 (by omega)
  have hm : Mod (fun b T => b = gH ∧ T = 3) w (w.setCell ⟨gH, i, none⟩ v) := (Mod.refl _ w).setCell hh ⟨rfl, rfl⟩ _ _
  have hm0 : Mod (RR0 B Z) w (w.setCell ⟨gH, i, none⟩ v) := hm.mono fun b T _ hf => by obtain ⟨rfl, rfl⟩ := hf; exact ⟨hb, .inr (.inr (.inl rfl))⟩
  exact ⟨⟨h.low, hm.keep h.obj fun hf => absurd hf.2 (by decide), h.rowV.mod hm fun _ _ _ hf => absurd hf.2 (by decide), h.rowD.mod hm fun _ _ _ hf => absurd hf.2 (by decide), by rw [hH]; exact h1.set i v hi, h.rowU.mod hm fun g hg _ hf => h.hu gH g hH hg hf.1.symm, h.hu, h.inV, fun x hx => (h.tape x hx).rr0 hm0⟩, hm0⟩
theorem RRaw.putU {gU : Nat} (h : RRaw B Z w r q V n pD pH pU asked mounts) (hU : V.aU = some ⟨gU, 0, none⟩) {i : Nat} (hi : i < n) (v : Value) : RRaw B Z (w.setCell ⟨gU, i, none⟩ v) r q V n pD pH (pU.set i v) asked mounts ∧ Mod (RR0 B Z) w (w.setCell ⟨gU, i, none⟩ v) := by
  have h1 := h.rowU
  rw [hU] at h1
  obtain ⟨hb, cur, hh⟩ := own_at1 h1 (by omega)
  have hm : Mod (fun b T => b = gU ∧ T = 3) w (w.setCell ⟨gU, i, none⟩ v) := (Mod.refl _ w).setCell hh ⟨rfl, rfl⟩ _ _
  have hm0 : Mod (RR0 B Z) w (w.setCell ⟨gU, i, none⟩ v) := hm.mono fun b T _ hf => by obtain ⟨rfl, rfl⟩ := hf; exact ⟨hb, .inr (.inr (.inl rfl))⟩
  exact ⟨⟨h.low, hm.keep h.obj fun hf => absurd hf.2 (by decide), h.rowV.mod hm fun _ _ _ hf => absurd hf.2 (by decide), h.rowD.mod hm fun _ _ _ hf => absurd hf.2 (by decide), h.rowH.mod hm fun g hg _ hf => h.hu g gU hg hU hf.1, by rw [hU]; exact h1.set i v hi, h.hu, h.inV, fun x hx => (h.tape x hx).rr0 hm0⟩, hm0⟩
/-- The clock, the count. -/
theorem RRaw.putClock (h : RRaw B Z w r q V n pD pH pU asked mounts) (v : Int) : RRaw B Z (w.setCell ⟨r, 5, none⟩ (.int .i64 v)) r q V n pD pH pU v mounts ∧ Mod (RR0 B Z) w (w.setCell ⟨r, 5, none⟩ (.int .i64 v)) := by
  have hm : Mod (fun b T => b = r ∧ T = 74) w (w.setCell ⟨r, 5, none⟩ (.int .i64 v)) := (Mod.refl _ w).setCell h.obj ⟨rfl, rfl⟩ _ _
  have hm0 : Mod (RR0 B Z) w (w.setCell ⟨r, 5, none⟩ (.int .i64 v)) := hm.mono fun b T _ hf => by obtain ⟨rfl, rfl⟩ := hf; exact ⟨h.low, .inl rfl⟩
  exact ⟨⟨h.low, heap_setCell_same w r 5 _ _ _ h.obj, h.rowV.mod hm fun _ _ _ hf => absurd hf.2 (by decide), h.rowD.mod hm fun _ _ _ hf => absurd hf.2 (by decide), h.rowH.mod hm fun _ _ _ hf => absurd hf.2 (by decide), h.rowU.mod hm fun _ _ _ hf => absurd hf.2 (by decide), h.hu, h.inV, fun x hx => (h.tape x hx).rr0 hm0⟩, hm0⟩
theorem RRaw.putMounts (h : RRaw B Z w r q V n pD pH pU asked mounts) (v : Int) : RRaw B Z (w.setCell ⟨r, 6, none⟩ (.int .i64 v)) r q V n pD pH pU asked v ∧ Mod (RR0 B Z) w (w.setCell ⟨r, 6, none⟩ (.int .i64 v)) := by
  have hm : Mod (fun b T => b = r ∧ T = 74) w (w.setCell ⟨r, 6, none⟩ (.int .i64 v)) := (Mod.refl _ w).setCell h.obj ⟨rfl, rfl⟩ _ _
  have hm0 : Mod (RR0 B Z) w (w.setCell ⟨r, 6, none⟩ (.int .i64 v)) := hm.mono fun b T _ hf => by obtain ⟨rfl, rfl⟩ := hf; exact ⟨h.low, .inl rfl⟩
  exact ⟨⟨h.low, heap_setCell_same w r 6 _ _ _ h.obj, h.rowV.mod hm fun _ _ _ hf => absurd hf.2 (by decide), h.rowD.mod hm fun _ _ _ hf => absurd hf.2 (by decide), h.rowH.mod hm fun _ _ _ hf => absurd hf.2 (by decide), h.rowU.mod hm fun _ _ _ hf => absurd hf.2 (by decide), h.hu, h.inV, fun x hx => (h.tape x hx).rr0 hm0⟩, hm0⟩
/-- A tape is put into the row of tapes. -/
theorem RRaw.putV {gV u : Nat} {x : TapeV} (h : RRaw B Z w r q V n pD pH pU asked mounts) (hV : V.aV = some ⟨gV, 0, none⟩) (hu : u < V.ts.length) (hx : TapeIn B Z w x)
    (ho : Own w' B 45 2 (some ⟨gV, 0, none⟩) V.ts.length V.cV (flt TapeV.cells (V.ts.set u x))) (hmm : ∀ F : Nat → TypeId → Prop, F gV 45 → Mod F w w') :
    RRaw B Z w' r q { V with ts := V.ts.set u x } n pD pH pU asked mounts ∧ Mod (RR0 B Z) w w' := by
  have h1 := h.rowV
  rw [hV] at h1
  obtain ⟨_, ⟨h0, _⟩ | ⟨g, cur, ha, hb, hh, _⟩⟩ := id h1
  · omega
  simp only [Option.some.injEq, Addr.mk.injEq, and_self, and_true] at ha
  subst ha
  have hzV : Z gV := by
    rcases h.inV gV hV with h0 | h0
    · omega
    · exact h0
  have hm : Mod (fun b T => b = gV ∧ T = 45) w w' := hmm _ ⟨rfl, rfl⟩
  have hm0 : Mod (RR0 B Z) w w' := hm.mono fun b T _ hf => by obtain ⟨rfl, rfl⟩ := hf; exact ⟨hb, .inr (.inr (.inr ⟨hzV, rfl⟩))⟩
  refine ⟨⟨h.low, ?_, ?_, h.rowD.mod hm fun _ _ _ hf => absurd hf.2 (by decide), h.rowH.mod hm fun _ _ _ hf => absurd hf.2 (by decide), h.rowU.mod hm fun _ _ _ hf => absurd hf.2 (by decide), h.hu, ?_, fun y hy => ?_⟩, hm0⟩
  · simp only [List.length_set]; exact hm.keep h.obj fun hf => absurd hf.2 (by decide)
  · simp only [List.length_set]; rw [hV]; exact ho
  · simp only [List.length_set]; exact h.inV
  · rcases List.mem_or_eq_of_mem_set hy with hy | rfl
    · exact (h.tape y hy).rr0 hm0
    · exact hx.rr0 hm0
/-- The robot anew. -/
theorem RRaw.rob (h : RRaw B Z w r q V n (V.bs.map BayV.ptr) (V.bs.map BayV.held) (V.bs.map BayV.used) S.asked S.mounts) (hn : n = V.bs.length) (hb : S.bays = V.bs.map BayV.b) (ht : V.ts.length = S.vols.length) (hok : ∀ x ∈ V.ts, x.M.ok = true ∧ x.M.cap = S.size)
    (hvol : ∀ v : Nat, v < S.vols.length → findV v S.bays = none → ∃ x, V.ts[v]? = some x ∧ S.vols[v]? = some x.M)
    (hdrv : ∀ (i : Nat) (x : BayV), V.bs[i]? = some x → 0 ≤ x.b.vol → ∃ a k c cs, RDr B w x.d q x.b.M x.b.at_ a k c cs ∧ RowsIn Z a k c cs)
    (hone : ∀ (i j : Nat) (x y : BayV), V.bs[i]? = some x → V.bs[j]? = some y → 0 ≤ x.b.vol → 0 ≤ y.b.vol → x.d = y.d → i = j) : RRbL B Z w r q S V := by
  subst hn
  exact ⟨h.low, h.obj, hb, ht, h.rowV, h.rowD, h.rowH, h.rowU, h.hu, h.inV, fun x hx => ⟨h.tape x hx, hok x hx⟩, hvol, hdrv, hone⟩
end Go.Proofs.Ytmaagkdehdmhlaa

/- A region that draws its order, whose last operation writes and waits for all others but some that only compute a value that nobody uses. -/
namespace Go.Proofs.Ytmaagkdehdmhlaa
open Go.RowKit

def lastfOk (l : List Oper) (fl : List Nat) : Bool :=
  decide (1 ≤ l.length) && (List.range (l.length - 1)).all (fun i => ((l[i]?).bind (·.dst)).isSome && (elemB i fl || (List.range l.length).any fun j => decide (i < j) && !elemB j fl && edgeB l j i)) && (fl.all fun i => decide (i < l.length - 1))
/-- What holds between two operations. -/
structure JF (l : List Oper) (fl : List Nat) (sl : List Sp) (w : World) (R : (Nat → Value) → World → Prop) (L : Nat → Bool) (σ : Nat → Value) (w' : World) : Prop where
  closed : ∀ i o, l[i]? = some o → L i = true → ∀ e ∈ o.after, Region.binds .any e = true → L e.on = true
  all : L (l.length - 1) = true → ∀ i, i < l.length - 1 → elemB i fl = false → L i = true
  before : L (l.length - 1) = false → Below w.heap.size w w' ∧ ∀ j o, l[j]? = some o → L j = true → spAt sl j w' (σ (dstN l.toArray j))
  behind : L (l.length - 1) = true → R σ w' ∧ ∃ w1, ∀ j o, l[j]? = some o → j < l.length - 1 → L j = true → elemB j fl = false → spAt sl j w1 (σ (dstN l.toArray j))
theorem wp_region_lastf {P : Program} {id : Nat} {l : List Oper} {Q : Exit → Act → World → Prop} {a : Act} {w : World} (hm : P.follows .mixedOrders = true) (fl : List Nat) (sl : List Sp) (hok : regionOk3 l a.tmps.size = true) (hck : lastfOk l fl = true)
    (hnof : (fl.all fun i => match l[i]? with | some o => o.after.toList.all fun e => !Region.binds .any e || !elemB e.on fl | none => true) = true)
    (hstep : StepsG P l sl a 0 (fun t => a.tmps.getD t undef) w (l.take (l.length - 1)) 0)
    (hfl : ∀ i, elemB i fl = true → ∀ o, l[i]? = some o → ∀ ρ w', (∀ j, o.after.toList.any (fun e => e.on == j && Region.binds .any e) = true → ∃ w1, spAt sl j w1 (ρ (.tmp (dstN l.toArray j)))) → StepOk P l.toArray o ρ w' (fun _ w'' => w'' = w'))
    (hlast : ∀ o, l[l.length - 1]? = some o → ∀ σ ρ w', EnvG l sl a 0 (fun t => a.tmps.getD t undef) w w' o ρ → (∀ j, Nat.blt j (l.length - 1) = true → elemB j fl = false → spAt sl j w' (σ (dstN l.toArray j))) →
      StepOk P l.toArray o ρ w' (fun v w'' => ∀ σ2, (∀ j d, elemB j fl = false → (l[j]?).bind (·.dst) = some d → σ2 d = putσ σ o.dst v d) → Q .normal (upd a (dstsOf' l) σ2) w'')) : (Code.region id l.toArray true).wp P Q a w := by
  have hok' := hok
  simp only [regionOk3, Bool.and_eq_true, List.all_eq_true, decide_eq_true_eq] at hok'
  obtain ⟨⟨⟨hlt, hnd⟩, hedge⟩, hgrd⟩ := hok'
  have hinj : ∀ (i j : Nat) (oi oj : Oper) (d : Nat), l[i]? = some oi → l[j]? = some oj → oi.dst = some d → oj.dst = some d → i = j := dst_inj (nodupB_spec hnd)
  simp only [lastfOk, Bool.and_eq_true, decide_eq_true_eq, List.all_eq_true, List.mem_range, Bool.or_eq_true, List.any_eq_true, Bool.not_eq_true'] at hck
  obtain ⟨⟨hlen, hpre⟩, hflb⟩ := hck
  have hed : ∀ (i : Nat) (o : Oper), l[i]? = some o → ∀ e ∈ o.after, Region.binds .any e = true → e.on < i := by
    intro i o hi e he hb
    have := hedge (o, i) (by rw [List.mem_zipIdx_iff_getElem?]; simpa using hi) e (by simpa using he)
    simpa [hb] using this
  have hdst : ∀ j o, l[j]? = some o → j < l.length - 1 → ∃ d, o.dst = some d := fun j o hj hlt2 => by
    have := (hpre j hlt2).1
    rw [hj] at this
    exact Option.isSome_iff_exists.1 (by simpa using this)
  have hev : ∀ (σ : Nat → Value) (d : Nat), d ∈ dstsOf' l → (upd a (dstsOf' l) σ).eval (.tmp d) = σ d := fun σ d hd => by
    rw [upd_eval, if_pos (hlt d hd), if_pos ((elemB_iff _ _).2 hd)]
  have hout : ∀ (σ : Nat → Value) t, elemB t (dstsOf' l) = false → (upd a (dstsOf' l) σ).eval (.tmp t) = a.tmps.getD t undef := fun σ t ht => by
    rw [upd_eval]
    split
    · rw [if_neg (by rw [ht]; simp)]
    · rename_i h
      simp [Array.getD_eq_getD_getElem?, Array.getElem?_eq_none (Nat.not_lt.1 h)]
  have hdn : ∀ j o d, l[j]? = some o → o.dst = some d → dstN l.toArray j = d ∧ d ∈ dstsOf' l := fun j o d hj hd => ⟨by simp [dstN, hj, hd], List.mem_filterMap.2 ⟨o, List.mem_of_getElem? hj, hd⟩⟩
  refine wp_region_inv hm (JF l fl sl w (fun σ w' => ∀ σ2, (∀ j d, elemB j fl = false → (l[j]?).bind (·.dst) = some d → σ2 d = σ d) → Q .normal (upd a (dstsOf' l) σ2) w')) hok ⟨fun _ _ _ h => (by cases h), fun h => (by cases h), fun _ => ⟨⟨rfl, rfl, rfl, Nat.le_refl _, fun _ _ => rfl⟩, fun _ _ _ h => by cases h⟩, fun h => by cases h⟩ ?_ ?_
  · rintro i o hi L σ w' hLi hdone ⟨hcl, hA, hB, hC⟩
    have hclosed : ∀ j oj, l[j]? = some oj → updL1 L i j = true → ∀ e ∈ oj.after, Region.binds .any e = true → updL1 L i e.on = true := by
      intro j oj hj hLj e he hbd
      simp only [updL1, Bool.or_eq_true, beq_iff_eq] at hLj ⊢
      by_cases hji : j = i
      · subst hji
        rw [hi] at hj; cases hj
        exact .inl (hdone e he hbd)
      · exact .inl (hcl j oj hj (hLj.resolve_right hji) e he hbd)
    have hil : i < l.length := (List.getElem?_eq_some_iff.1 hi).1
    have henv : L (l.length - 1) = false → EnvG l sl a 0 (fun t => a.tmps.getD t undef) w w' o (upd a (dstsOf' l) σ).eval := fun hLl => by
      obtain ⟨hb, hv⟩ := hB hLl
      refine ⟨hb, fun j _ hj => ?_, fun j d hj _ => (by have : j < 0 := Nat.le_of_ble_eq_true hj; omega), hout σ, fun _ => rfl, fun _ => rfl⟩
      obtain ⟨e, he, hej⟩ := List.any_eq_true.1 hj
      simp only [Bool.and_eq_true, beq_iff_eq] at hej
      obtain ⟨rfl, hbd⟩ := hej
      have he' : e ∈ o.after := by simpa using he
      have hei := hed i o hi e he' hbd
      have hj' := List.getElem?_eq_getElem (show e.on < l.length by omega)
      obtain ⟨d, hd⟩ := hdst e.on _ hj' (by omega)
      obtain ⟨h5, h6⟩ := hdn e.on _ d hj' hd
      have := hv e.on _ hj' (hdone e he' hbd)
      rw [h5] at this
      rw [Nat.sub_zero, h5, hev σ d h6]
      exact this
    by_cases hlast' : i = l.length - 1
    · subst hlast'
      obtain ⟨hb, hv⟩ := hB hLi
      have hd0 : ∀ k j, l.length - 1 - j ≤ k → j < l.length - 1 → elemB j fl = false → L j = true := by
        intro k
        induction k with
        | zero => intro j h1 h2; omega
        | succ k ih =>
          intro j h1 hj hjf
          rcases (hpre j hj).2 with h | ⟨j', hj', ⟨hjj, hjf'⟩, hej⟩
          · rw [hjf] at h; cases h
          · obtain ⟨o', ho', e, he, hbd, rfl⟩ := edgeB_spec hej
            by_cases hjl : j' = l.length - 1
            · subst hjl
              rw [hi] at ho'; cases ho'
              exact hdone e he hbd
            · exact hcl j' o' ho' (ih j' (by omega) (by omega) hjf') e he hbd
      have hd : ∀ j, j < l.length - 1 → elemB j fl = false → L j = true := fun j hj hjf => hd0 _ j (Nat.le_refl _) hj hjf
      refine stepOk_mono (hlast o hi σ _ w' (henv hLi) fun j hj hjf => ?_) fun v w'' hq => ⟨hclosed, fun _ j hj hjf => by simp [updL1, hd j hj hjf], fun h => by simp [updL1] at h, fun _ => ⟨hq, w', fun j oj hj hjl hLj hjf => ?_⟩⟩
      · have hj' : j < l.length - 1 := Nat.le_of_ble_eq_true hj
        exact hv j _ (List.getElem?_eq_getElem (by omega)) (hd j hj' hjf)
      · obtain ⟨dj, hdj⟩ := hdst j oj hj hjl
        obtain ⟨h5, _⟩ := hdn j oj dj hj hdj
        have := hv j oj hj (hd j hjl hjf)
        rw [h5] at this ⊢
        cases hdo : o.dst with
        | none => simpa [putσ] using this
        | some d =>
          have hne : dj ≠ d := fun h => by
            have := hinj j _ oj o d hj hi (by rw [hdj, h]) hdo
            omega
          simpa [putσ, hne] using this
    · have hil' : i < l.length - 1 := by omega
      obtain ⟨di, hdi⟩ := hdst i o hi hil'
      obtain ⟨h5, _⟩ := hdn i o di hi hdi
      cases hLl : L (l.length - 1) with
      | false =>
        obtain ⟨hb, hv⟩ := hB hLl
        have hst := stepsG_at _ 0 hstep i o (by rw [List.getElem?_take, if_pos hil']; exact hi) _ w' (henv hLl)
        rw [Nat.zero_add] at hst
        have hll : updL1 L i (l.length - 1) = false := by
          simp only [updL1, hLl, Bool.false_or, beq_eq_false_iff_ne, ne_eq]
          omega
        refine stepOk_mono hst fun v w'' ⟨hB', hv'⟩ => ⟨hclosed, fun h => (by rw [hll] at h; cases h), fun _ => ⟨bthen hb hB' (Nat.le_refl _), fun j oj hj hLj => ?_⟩, fun h => (by rw [hll] at h; cases h)⟩
        by_cases hji : j = i
        · subst hji
          rw [h5, hdi]
          simpa [putσ] using hv'
        · have hLj' : L j = true := by
            simp only [updL1, Bool.or_eq_true, beq_iff_eq] at hLj
            exact hLj.resolve_right hji
          have hjl : j < l.length - 1 := by
            have hjlt := (List.getElem?_eq_some_iff.1 hj).1
            rcases Nat.lt_or_ge j (l.length - 1) with h | h
            · exact h
            · have : j = l.length - 1 := by omega
              subst this
              rw [hLl] at hLj'; cases hLj'
          obtain ⟨dj, hdj⟩ := hdst j oj hj hjl
          obtain ⟨h7, _⟩ := hdn j oj dj hj hdj
          have hsv := spAt_st sl j w' w'' _ (hv j oj hj hLj') hB'
          have hne : dj ≠ di := fun h => hji (hinj j i oj o dj hj hi hdj (by rw [hdi, h]))
          rw [h7] at hsv ⊢
          rw [hdi]
          simpa [putσ, hne] using hsv
      | true =>
        obtain ⟨hR, w1, hv1⟩ := hC hLl
        have hif : elemB i fl = true := by
          cases h : elemB i fl with
          | true => rfl
          | false => rw [hA hLl i hil' h] at hLi; cases hLi
        have hll : updL1 L i (l.length - 1) = true := by simp [updL1, hLl]
        have hno : ∀ e ∈ o.after, Region.binds .any e = true → elemB e.on fl = false := fun e he hbd => by
          have := List.all_eq_true.1 hnof i ((elemB_iff _ _).1 hif)
          simp only [hi, List.all_eq_true] at this
          have := this e (by simpa using he)
          simpa [hbd] using this
        refine stepOk_mono (hfl i hif o hi _ w' fun j hj => ?_) fun v w'' hw => ?_
        · obtain ⟨e, he, hej⟩ := List.any_eq_true.1 hj
          simp only [Bool.and_eq_true, beq_iff_eq] at hej
          obtain ⟨rfl, hbd⟩ := hej
          have he' : e ∈ o.after := by simpa using he
          have hei := hed i o hi e he' hbd
          have hj' := List.getElem?_eq_getElem (show e.on < l.length by omega)
          obtain ⟨d, hd⟩ := hdst e.on _ hj' (by omega)
          obtain ⟨h7, h8⟩ := hdn e.on _ d hj' hd
          have := hv1 e.on _ hj' (by omega) (hdone e he' hbd) (hno e he' hbd)
          rw [h7] at this
          rw [h7, hev σ d h8]
          exact ⟨w1, this⟩
        · subst hw
          have hnei : ∀ j d, elemB j fl = false → (l[j]?).bind (·.dst) = some d → d ≠ di := fun j d hjf hd h => by
            obtain ⟨oj, hoj, hdj⟩ := Option.bind_eq_some_iff.1 hd
            have := hinj j i oj o d hoj hi hdj (by rw [hdi, h])
            subst this
            rw [hif] at hjf; cases hjf
          refine ⟨hclosed, fun _ j hj hjf => by simp [updL1, hA hLl j hj hjf], fun h => (by rw [hll] at h; cases h), fun _ => ⟨fun σ2 h2 => hR σ2 fun j d hjf hd => ?_, w1, fun j oj hj hjl hLj hjf => ?_⟩⟩
          · rw [h2 j d hjf hd, hdi]
            simp [putσ, hnei j d hjf hd]
          · have hji : j ≠ i := fun h => by subst h; rw [hif] at hjf; cases hjf
            have hLj' : L j = true := by
              simp only [updL1, Bool.or_eq_true, beq_iff_eq] at hLj
              exact hLj.resolve_right hji
            obtain ⟨dj, hdj⟩ := hdst j oj hj hjl
            obtain ⟨h7, _⟩ := hdn j oj dj hj hdj
            have := hv1 j oj hj hjl hLj' hjf
            rw [h7] at this ⊢
            rw [hdi]
            have hne := hnei j dj hjf (by rw [hj]; exact hdj)
            simpa [putσ, hne] using this
  · rintro L σ w' hall ⟨_, _, _, hC⟩
    exact (hC (hall _ (by omega))).1 σ fun _ _ _ _ => rfl
/-- Part of an object's cells stored at once. -/
theorem op_store_part {P : Program} {w : World} {ρ : Operand → Value} {R : Value → World → Prop} {o : Oper} {ty : TypeId} {xo vo : Operand} (ho : o.op = .store ty xo vo) {g i : Nat} {T : TypeId} {cur cs new : Array Value} (hx : ρ xo = .pointer (some ⟨g, i, none⟩)) (hv : ρ vo = .agg cs)
    (hg : w.heap[g]? = some (.cells cur T (0, 0))) (hs : i + cs.size ≤ cur.size) (hi : (P.info? ty).map (·.size) = some cs.size) (h1 : ∀ v ∈ cs.toList, v.oneCell' = true) (hnew : (cur.toList.take i ++ cs.toList ++ cur.toList.drop (i + cs.size)).toArray = new) (h : R undef (w.setRow g new)) : OpOk P o ρ w R := by
  subst hnew
  have hr := run_storeVar_elem (P := P) w g i T ty cur cs hg hs hi h1
  unfold OpOk execOp
  simp only [ho, hx, hv, Instr.storeAt, Instr.sureAddr, Sem.run_bind, Sem.run_pure, Result.andThen_ok, hr]
  exact h
end Go.Proofs.Ytmaagkdehdmhlaa
