/- disk.Disk as it lies: its rows of sectors and of writes, their bytes. -/
import Derived.Test.YtclkkhpnnbkfmaaPowR
import Derived.Test.YtclkkhpnnbkfmaaDiskPlain4
import Derived.Test.YtclkkhpnnbkfmaaFlt
import Derived.Test.YtclkkhpnnbkfmaaAppMod
namespace Go.Proofs.Ytclkkhpnnbkfmaa
open Go.RowKit
variable {R : Nat}

/-- A sector as it lies. -/
structure SecV where
  a : Option Addr
  c : Nat
  s : Sec
def SecV.cells (x : SecV) : List Value := [.slice x.a x.s.b.length x.c, .bool x.s.torn]
def SecV.nought : SecV := ⟨none, 0, Sec.nought⟩
abbrev svs (l : List SecV) : List Value := flt SecV.cells l
/-- A write as it lies. -/
structure WrV where
  i : Nat
  a : Option Addr
  c : Nat
  b : List Byte
def WrV.cells (x : WrV) : List Value := [.int .i64 (x.i : Int), .slice x.a x.b.length x.c]
def WrV.pl (x : WrV) : Nat × List Byte := (x.i, x.b)
abbrev wvs (l : List WrV) : List Value := flt WrV.cells l

theorem SecV.len (x : SecV) : x.cells.length = 2 := rfl
theorem WrV.len (x : WrV) : x.cells.length = 2 := rfl
theorem SecV.one (x : SecV) : ∀ u ∈ x.cells, u.oneCell' = true := by
  intro u hu
  simp only [SecV.cells, List.mem_cons, List.not_mem_nil, or_false] at hu
  rcases hu with rfl | rfl <;> rfl
theorem WrV.one (x : WrV) : ∀ u ∈ x.cells, u.oneCell' = true := by
  intro u hu
  simp only [WrV.cells, List.mem_cons, List.not_mem_nil, or_false] at hu
  rcases hu with rfl | rfl <;> rfl

structure DiskC (K : Nat → Prop) (B : Nat) (w : World) (g pg : Nat) (life : Int) (sa : Option Addr) (sc : Nat) (ss : List SecV) (na : Option Addr) (nc : Nat) (ns : List SecV) (pa : Option Addr) (pc : Nat) (ps : List WrV) : Prop where
  low : B ≤ g
  obj : w.heap[g]? = some (.cells #[.pointer (some ⟨pg, 0, none⟩), .int .i64 life, .slice sa ss.length sc, .slice na ns.length nc, .slice pa ps.length pc] 161 (0, 0))
  safe : Own w B 167 2 sa ss.length sc (svs ss)
  now : Own w B 167 2 na ns.length nc (svs ns)
  pend : Own w B 172 2 pa ps.length pc (wvs ps)
  apart : ∀ x y, sa = some ⟨x, 0, none⟩ → na = some ⟨y, 0, none⟩ → x ≠ y
  secs : ∀ x ∈ ss ++ ns, Held w K x.a x.c x.s.b
  wrs : ∀ x ∈ ps, Held w K x.a x.c x.b
  pnil : ps.length = 0 → pa = none
/-- The object in block g is the disk d, of the power in block pg; its bytes lie in blocks of K. -/
def DiskAt (K : Nat → Prop) (B : Nat) (w : World) (g pg : Nat) (d : DS) : Prop :=
  ∃ sa sc ss na nc ns pa pc ps, DiskC K B w g pg d.life sa sc ss na nc ns pa pc ps ∧ ss.map (·.s) = d.safe ∧ ns.map (·.s) = d.now ∧ ps.map WrV.pl = d.pend

def DT : List TypeId := [120, 149, 161, 167, 172]
/-- What a disk's methods may write. -/
abbrev DF (B : Nat) : Nat → TypeId → Prop := inT B DT
theorem PF.df {B : Nat} {w w' : World} (h : Mod (PF B) w w') : Mod (DF B) w w' := h.mono fun b T _ hf => ⟨hf.1, by have h := hf.2; simp only [PT, List.mem_cons, List.not_mem_nil, or_false] at h; rcases h with rfl | rfl <;> decide⟩
theorem DF_d {B g : Nat} (h : B ≤ g) : DF B g 161 := ⟨h, by decide⟩
theorem DF_s {B g : Nat} (h : B ≤ g) : DF B g 167 := ⟨h, by decide⟩
theorem DF_w {B g : Nat} (h : B ≤ g) : DF B g 172 := ⟨h, by decide⟩

variable {K K' : Nat → Prop} {B : Nat} {w w' : World} {g pg : Nat} {life : Int} {sa na pa : Option Addr} {sc nc pc : Nat} {ss ns : List SecV} {ps : List WrV} {d : DS}
theorem DiskC.mono (h : DiskC K B w g pg life sa sc ss na nc ns pa pc ps) (hK : ∀ b, b < w.heap.size → K b → K' b) : DiskC K' B w g pg life sa sc ss na nc ns pa pc ps :=
  ⟨h.low, h.obj, h.safe, h.now, h.pend, h.apart, fun x hx => (h.secs x hx).mono hK, fun x hx => (h.wrs x hx).mono hK, h.pnil⟩
theorem DiskAt.mono (h : DiskAt K B w g pg d) (hK : ∀ b, b < w.heap.size → K b → K' b) : DiskAt K' B w g pg d := by
  obtain ⟨sa, sc, ss, na, nc, ns, pa, pc, ps, hc, rest⟩ := h
  exact ⟨sa, sc, ss, na, nc, ns, pa, pc, ps, hc.mono hK, rest⟩
/-- What writes no disk leaves it. -/
theorem DiskC.mod {F : Nat → TypeId → Prop} (h : DiskC K B w g pg life sa sc ss na nc ns pa pc ps) (hm : Mod F w w') (hF : ∀ b T, F b T → T ≠ 161 ∧ T ≠ 167 ∧ T ≠ 172) (hK : ∀ b, b < w.heap.size → K b → ¬ F b 5) :
    DiskC K B w' g pg life sa sc ss na nc ns pa pc ps :=
  ⟨h.low, hm.keep h.obj fun hf => (hF _ _ hf).1 rfl, h.safe.mod hm fun _ _ _ hf => (hF _ _ hf).2.1 rfl, h.now.mod hm fun _ _ _ hf => (hF _ _ hf).2.1 rfl, h.pend.mod hm fun _ _ _ hf => (hF _ _ hf).2.2 rfl, h.apart,
    fun x hx => (h.secs x hx).mod hm hK, fun x hx => (h.wrs x hx).mod hm hK, h.pnil⟩
theorem DiskAt.mod {F : Nat → TypeId → Prop} (h : DiskAt K B w g pg d) (hm : Mod F w w') (hF : ∀ b T, F b T → T ≠ 161 ∧ T ≠ 167 ∧ T ≠ 172) (hK : ∀ b, b < w.heap.size → K b → ¬ F b 5) : DiskAt K B w' g pg d := by
  obtain ⟨sa, sc, ss, na, nc, ns, pa, pc, ps, hc, rest⟩ := h
  exact ⟨sa, sc, ss, na, nc, ns, pa, pc, ps, hc.mod hm hF hK, rest⟩
theorem PF_no_disk : ∀ b T, PF B b T → T ≠ 161 ∧ T ≠ 167 ∧ T ≠ 172 := by
  rintro b T ⟨_, hT⟩
  simp only [PT, List.mem_cons, List.not_mem_nil, or_false] at hT
  rcases hT with rfl | rfl <;> decide
theorem PF_no_u8 (b : Nat) : ¬ PF B b 5 := by rintro ⟨_, hT⟩; revert hT; decide
theorem DF_no_u8 (b : Nat) : ¬ DF B b 5 := by rintro ⟨_, hT⟩; revert hT; decide
theorem DiskC.pf {B' : Nat} (h : DiskC K B w g pg life sa sc ss na nc ns pa pc ps) (hm : Mod (PF B') w w') : DiskC K B w' g pg life sa sc ss na nc ns pa pc ps := h.mod hm PF_no_disk fun b _ _ => PF_no_u8 b
theorem DiskAt.pf {B' : Nat} (h : DiskAt K B w g pg d) (hm : Mod (PF B') w w') : DiskAt K B w' g pg d := h.mod hm PF_no_disk fun b _ _ => PF_no_u8 b
theorem DiskC.ext (h : DiskC K B w g pg life sa sc ss na nc ns pa pc ps) (hb : Below w.heap.size w w') : DiskC K B w' g pg life sa sc ss na nc ns pa pc ps := h.mod (bmod hb fun _ _ => False) (fun _ _ h => h.elim) fun _ _ _ h => h
theorem DiskAt.ext (h : DiskAt K B w g pg d) (hb : Below w.heap.size w w') : DiskAt K B w' g pg d := h.mod (bmod hb fun _ _ => False) (fun _ _ h => h.elim) fun _ _ _ h => h
theorem DiskC.cells (h : DiskC K B w g pg life sa sc ss na nc ns pa pc ps) : w.cell? ⟨g, 0, none⟩ = some (.pointer (some ⟨pg, 0, none⟩)) ∧ w.cell? ⟨g, 1, none⟩ = some (.int .i64 life) ∧ w.cell? ⟨g, 2, none⟩ = some (.slice sa ss.length sc) ∧ w.cell? ⟨g, 3, none⟩ = some (.slice na ns.length nc) ∧ w.cell? ⟨g, 4, none⟩ = some (.slice pa ps.length pc) ∧ (∀ j, w.frozen? ⟨g, j, none⟩ = false) ∧ g < w.heap.size := by
  refine ⟨?_, ?_, ?_, ?_, ?_, fun j => frozen_of_row w g j _ _ h.obj, heap_lt h.obj⟩ <;> (rw [cell_of_row w g _ _ _ _ h.obj]; rfl)

/-- A sector of the one row, or the other, is written. -/
abbrev SF (x : Nat) : Nat → TypeId → Prop := fun b T => b = x ∧ T = 167
theorem DiskC.putSafe {sx i : Nat} {y : SecV} (h : DiskC K B w g pg life (some ⟨sx, 0, none⟩) sc ss na nc ns pa pc ps) (hm : Mod (SF sx) w w')
    (ho : Own w' B 167 2 (some ⟨sx, 0, none⟩) ss.length sc (svs (ss.set i y))) (hy : Held w K y.a y.c y.s.b) : DiskC K B w' g pg life (some ⟨sx, 0, none⟩) sc (ss.set i y) na nc ns pa pc ps := by
  have hne : ∀ b, K b → ¬ SF sx b 5 := fun b _ hf => absurd hf.2 (by decide)
  refine ⟨h.low, ?_, by rw [List.length_set]; exact ho, h.now.mod hm fun g' hg' _ hf => h.apart sx g' rfl hg' hf.1.symm, h.pend.mod hm fun _ _ _ hf => absurd hf.2 (by decide), h.apart, fun x hx => ?_, fun x hx => (h.wrs x hx).mod hm fun b _ => hne b, h.pnil⟩
  · rw [List.length_set]; exact hm.keep h.obj fun hf => absurd hf.2 (by decide)
  · rcases List.mem_append.1 hx with hx | hx
    · rcases List.mem_or_eq_of_mem_set hx with hx | rfl
      · exact (h.secs x (by simp [hx])).mod hm fun b _ => hne b
      · exact hy.mod hm fun b _ => hne b
    · exact (h.secs x (by simp [hx])).mod hm fun b _ => hne b
theorem DiskC.putNow {sx i : Nat} {y : SecV} (h : DiskC K B w g pg life sa sc ss (some ⟨sx, 0, none⟩) nc ns pa pc ps) (hm : Mod (SF sx) w w')
    (ho : Own w' B 167 2 (some ⟨sx, 0, none⟩) ns.length nc (svs (ns.set i y))) (hy : Held w K y.a y.c y.s.b) : DiskC K B w' g pg life sa sc ss (some ⟨sx, 0, none⟩) nc (ns.set i y) pa pc ps := by
  have hne : ∀ b, K b → ¬ SF sx b 5 := fun b _ hf => absurd hf.2 (by decide)
  refine ⟨h.low, ?_, h.safe.mod hm fun g' hg' _ hf => h.apart g' sx hg' rfl hf.1, by rw [List.length_set]; exact ho, h.pend.mod hm fun _ _ _ hf => absurd hf.2 (by decide), h.apart, fun x hx => ?_, fun x hx => (h.wrs x hx).mod hm fun b _ => hne b, h.pnil⟩
  · rw [List.length_set]; exact hm.keep h.obj fun hf => absurd hf.2 (by decide)
  · rcases List.mem_append.1 hx with hx | hx
    · exact (h.secs x (by simp [hx])).mod hm fun b _ => hne b
    · rcases List.mem_or_eq_of_mem_set hx with hx | rfl
      · exact (h.secs x (by simp [hx])).mod hm fun b _ => hne b
      · exact hy.mod hm fun b _ => hne b
theorem SF_no_pow (x : Nat) : ∀ b T, SF x b T → T ≠ 120 ∧ T ≠ 149 ∧ T ≠ 4 := by
  rintro b T ⟨_, rfl⟩; decide
theorem SF_df {x : Nat} (h : Mod (SF x) w w') (hx : B ≤ x) : Mod (DF B) w w' := h.mono fun b T _ hf => by obtain ⟨rfl, rfl⟩ := hf; exact DF_s hx

abbrev OF (g : Nat) : Nat → TypeId → Prop := fun b T => b = g ∧ T = 161
theorem OF_no_pow (g : Nat) : ∀ b T, OF g b T → T ≠ 120 ∧ T ≠ 149 ∧ T ≠ 4 := by
  rintro b T ⟨_, rfl⟩; decide
theorem OF_df (h : Mod (OF g) w w') (hx : B ≤ g) : Mod (DF B) w w' := h.mono fun b T _ hf => by obtain ⟨rfl, rfl⟩ := hf; exact DF_d hx
theorem DiskC.of_mod (h : DiskC K B w g pg life sa sc ss na nc ns pa pc ps) (i : Nat) (v : Value) : Mod (OF g) w (w.setCell ⟨g, i, none⟩ v) := (Mod.refl _ _).setCell h.obj ⟨rfl, rfl⟩ i v
/-- A field of the object is written. -/
theorem DiskC.upd (h : DiskC K B w g pg life sa sc ss na nc ns pa pc ps) (i : Nat) (v : Value) {life' : Int} {sa' na' pa' : Option Addr} {sc' nc' pc' : Nat} {ss' ns' : List SecV} {ps' : List WrV}
    (hobj : (#[.pointer (some ⟨pg, 0, none⟩), .int .i64 life, .slice sa ss.length sc, .slice na ns.length nc, .slice pa ps.length pc] : Array Value).setIfInBounds i v = #[.pointer (some ⟨pg, 0, none⟩), .int .i64 life', .slice sa' ss'.length sc', .slice na' ns'.length nc', .slice pa' ps'.length pc'])
    (hs : Own w B 167 2 sa' ss'.length sc' (svs ss')) (hn : Own w B 167 2 na' ns'.length nc' (svs ns')) (hp : Own w B 172 2 pa' ps'.length pc' (wvs ps'))
    (ha : ∀ x y, sa' = some ⟨x, 0, none⟩ → na' = some ⟨y, 0, none⟩ → x ≠ y) (hq : ∀ x ∈ ss' ++ ns', Held w K x.a x.c x.s.b) (hr : ∀ x ∈ ps', Held w K x.a x.c x.b) (hpn : ps'.length = 0 → pa' = none) :
    DiskC K B (w.setCell ⟨g, i, none⟩ v) g pg life' sa' sc' ss' na' nc' ns' pa' pc' ps' := by
  have hm := h.of_mod i v
  have hu : ∀ b, b < w.heap.size → K b → ¬ OF g b 5 := fun b _ _ hf => absurd hf.2 (by decide)
  exact ⟨h.low, by rw [← hobj]; exact heap_setCell_same w g i _ _ v h.obj, hs.mod hm fun _ _ _ hf => absurd hf.2 (by decide), hn.mod hm fun _ _ _ hf => absurd hf.2 (by decide), hp.mod hm fun _ _ _ hf => absurd hf.2 (by decide), ha,
    fun x hx => (hq x hx).mod hm hu, fun x hx => (hr x hx).mod hm hu, hpn⟩
theorem DiskC.setLife (h : DiskC K B w g pg life sa sc ss na nc ns pa pc ps) (r : Int) : DiskC K B (w.setCell ⟨g, 1, none⟩ (.int .i64 r)) g pg r sa sc ss na nc ns pa pc ps :=
  h.upd 1 _ rfl h.safe h.now h.pend h.apart h.secs h.wrs h.pnil
theorem DiskC.setPend (h : DiskC K B w g pg life sa sc ss na nc ns pa pc ps) {pa' : Option Addr} {pc' n' : Nat} {ps' : List WrV} (hn : n' = ps'.length) (hp : Own w B 172 2 pa' n' pc' (wvs ps')) (hr : ∀ x ∈ ps', Held w K x.a x.c x.b) (hpn : ps'.length = 0 → pa' = none) :
    DiskC K B (w.setCell ⟨g, 4, none⟩ (.slice pa' n' pc')) g pg life sa sc ss na nc ns pa' pc' ps' := by
  subst hn
  exact h.upd 4 _ rfl h.safe h.now hp h.apart h.secs hr hpn
theorem DiskC.setNow (h : DiskC K B w g pg life sa sc ss na nc ns pa pc ps) {na' : Option Addr} {nc' n' : Nat} {ns' : List SecV} (hn : n' = ns'.length) (ho : Own w B 167 2 na' n' nc' (svs ns')) (ha : ∀ x y, sa = some ⟨x, 0, none⟩ → na' = some ⟨y, 0, none⟩ → x ≠ y)
    (hq : ∀ x ∈ ns', Held w K x.a x.c x.s.b) : DiskC K B (w.setCell ⟨g, 3, none⟩ (.slice na' n' nc')) g pg life sa sc ss na' nc' ns' pa pc ps := by
  subst hn
  exact h.upd 3 _ rfl h.safe ho h.pend ha (fun x hx => by rcases List.mem_append.1 hx with hx | hx; exact h.secs x (by simp [hx]); exact hq x hx) h.wrs h.pnil
theorem DiskC.setSafe (h : DiskC K B w g pg life sa sc ss na nc ns pa pc ps) {sa' : Option Addr} {sc' n' : Nat} {ss' : List SecV} (hn : n' = ss'.length) (ho : Own w B 167 2 sa' n' sc' (svs ss')) (ha : ∀ x y, sa' = some ⟨x, 0, none⟩ → na = some ⟨y, 0, none⟩ → x ≠ y)
    (hq : ∀ x ∈ ss', Held w K x.a x.c x.s.b) : DiskC K B (w.setCell ⟨g, 2, none⟩ (.slice sa' n' sc')) g pg life sa' sc' ss' na nc ns pa pc ps := by
  subst hn
  exact h.upd 2 _ rfl ho h.now h.pend ha (fun x hx => by rcases List.mem_append.1 hx with hx | hx; exact hq x hx; exact h.secs x (by simp [hx])) h.wrs h.pnil
/-- What was laid behind a row lies elsewhere. -/
theorem own_apart {e e' : TypeId} {k k' : Nat} {a a' : Option Addr} {n c n' c' : Nat} {xs xs' : List Value} {B' : Nat} (h : Own w B e k a n c xs) (h' : Own w' B' e' k' a' n' c' xs') (hB : w.heap.size ≤ B') (hn : 0 < n) (hn' : 0 < n') : ∀ x y, a = some ⟨x, 0, none⟩ → a' = some ⟨y, 0, none⟩ → x ≠ y := by
  rintro x y rfl rfl rfl
  obtain ⟨_, ⟨h0, _⟩ | ⟨g, cur, ha, _, hh, _⟩⟩ := h
  · omega
  · obtain ⟨_, ⟨h0, _⟩ | ⟨g', cur', ha', hb', _⟩⟩ := h'
    · omega
    · simp only [Option.some.injEq, Addr.mk.injEq, and_self, and_true] at ha ha'
      have := heap_lt hh
      omega

abbrev WF : Nat → TypeId → Prop := fun _ T => T = 172
/-- A write is appended to the row of those that are not safe. -/
theorem DiskC.append {w2 : World} {a' : Option Addr} {c' m : Nat} {x : WrV} (h : DiskC K B w g pg life sa sc ss na nc ns pa pc ps) (hm : m = ps.length) (hA : AppR w w' B 172 2 pa m pc a' (m + 1) c' (wvs ps ++ x.cells)) (hb : Below w'.heap.size w' w2)
    (hx : Held w K x.a x.c x.b) : DiskC K B (w2.setCell ⟨g, 4, none⟩ (.slice a' (m + 1) c')) g pg life sa sc ss na nc ns a' c' (ps ++ [x]) := by
  subst hm
  have hm1 : Mod WF w w2 := (hA.mod WF fun _ _ _ _ => rfl).trans (bmod hb _)
  have hobj := hm1.keep h.obj fun hf => absurd (show 161 = 172 from hf) (by decide)
  have hm2 : Mod (OF g) w2 (w2.setCell ⟨g, 4, none⟩ (.slice a' (ps.length + 1) c')) := (Mod.refl _ _).setCell hobj ⟨rfl, rfl⟩ _ _
  have hu : ∀ b, b < w.heap.size → K b → ¬ WF b 5 := fun b _ _ hf => absurd (show 5 = 172 from hf) (by decide)
  have hu2 : ∀ b, b < w2.heap.size → K b → ¬ OF g b 5 := fun b _ _ hf => absurd hf.2 (by decide)
  refine ⟨h.low, ?_, (h.safe.mod hm1 fun _ _ _ hf => absurd (show 167 = 172 from hf) (by decide)).mod hm2 fun _ _ _ hf => absurd hf.2 (by decide), (h.now.mod hm1 fun _ _ _ hf => absurd (show 167 = 172 from hf) (by decide)).mod hm2 fun _ _ _ hf => absurd hf.2 (by decide), ?_, h.apart,
    fun y hy => ((h.secs y hy).mod hm1 hu).mod hm2 hu2, fun y hy => ?_, by simp⟩
  · rw [heap_setCell_same w2 g 4 _ _ _ hobj]
    simp
  · have := (hA.own.ext hb).mod hm2 fun _ _ _ hf => absurd hf.2 (by decide)
    rw [List.length_append, wvs, flt_append, show flt WrV.cells [x] = x.cells by simp [flt]]
    exact this
  · rcases List.mem_append.1 hy with hy | hy
    · exact ((h.wrs y hy).mod hm1 hu).mod hm2 hu2
    · simp only [List.mem_singleton] at hy
      subst hy
      exact (hx.mod hm1 hu).mod hm2 hu2
theorem DiskAt.base {B' : Nat} (h : DiskAt K B w g pg d) (hB : B' ≤ B) : DiskAt K B' w g pg d := by
  obtain ⟨sa, sc, ss, na, nc, ns, pa, pc, ps, hc, rest⟩ := h
  exact ⟨sa, sc, ss, na, nc, ns, pa, pc, ps, ⟨Nat.le_trans hB hc.low, hc.obj, hc.safe.mono hB, hc.now.mono hB, hc.pend.mono hB, hc.apart, hc.secs, hc.wrs, hc.pnil⟩, rest⟩
end Go.Proofs.Ytclkkhpnnbkfmaa
