/- robot.Robot as it lies; frames; a drive of it does something. -/
import Derived.Test.YtmaagkdehdmhlaaRobotExactPartP
import Derived.Test.YtmaagkdehdmhlaaRobotExactPartO
import Derived.Test.YtmaagkdehdmhlaaRobotExactPartM
import Derived.Test.YtmaagkdehdmhlaaRefDrv
namespace Go.Proofs.Ytmaagkdehdmhlaa
open Go.RowKit

/-- A tape as it lies in a row of tapes. -/
structure TapeV where
  M : Med
  a : Option Addr
  k : Nat
  c : Nat
  cs : List CellV
def TapeV.cells (x : TapeV) : List Value := [.int .i64 x.M.cap, .slice x.a x.k x.c]
theorem TapeV.len (x : TapeV) : x.cells.length = 2 := rfl
theorem TapeV.one (x : TapeV) : ∀ v ∈ x.cells, v.oneCell' = true := by
  intro v hv
  simp [TapeV.cells] at hv
  rcases hv with rfl | rfl <;> rfl
/-- A drive of the robot's, as it lies. -/
structure BayV where
  b : Bay
  d : Nat
def BayV.ptr (x : BayV) : Value := if x.b.vol < 0 then .pointer none else .pointer (some ⟨x.d, 0, none⟩)
def BayV.cells (x : BayV) : List Value := [x.ptr, .int .i64 x.b.vol, .int .i64 x.b.asked]
theorem BayV.len (x : BayV) : x.cells.length = 3 := rfl
theorem BayV.one (x : BayV) : ∀ v ∈ x.cells, v.oneCell' = true := by
  intro v hv
  simp [BayV.cells] at hv
  rcases hv with rfl | rfl | rfl
  · unfold BayV.ptr; split <;> rfl
  · rfl
  · rfl
structure TapeIn (B : Nat) (K : Nat → Prop) (w : World) (x : TapeV) : Prop where
  r : MedR w B x.M x.a x.k x.c x.cs
  cap : x.k ≤ x.c
  kr : RowsIn K x.a x.k x.c x.cs
/-- A robot's layout: where its rows lie, its tapes, its drives, whose a block is (0: the volumes', i + 1: drive i's). -/
structure RobV where
  aM : Option Addr
  cM : Nat
  aB : Option Addr
  cB : Nat
  ts : List TapeV
  bs : List BayV
  ow : Nat → Nat
structure RobL (B : Nat) (K : Nat → Prop) (w : World) (r g : Nat) (S : RS) (V : RobV) : Prop where
  low : B ≤ r
  kr : K r
  obj : w.heap[r]? = some (.cells #[.pointer (some ⟨g, 0, none⟩), .int .i64 S.size, .slice V.aM S.vols.length V.cM, .slice V.aB S.bays.length V.cB, .int .i64 S.asked, .int .i64 S.mounts] 87 (0, 0))
  vols : S.vols = V.ts.map TapeV.M
  bays : S.bays = V.bs.map BayV.b
  rowM : Own w B 45 2 V.aM S.vols.length V.cM (flt TapeV.cells V.ts)
  rowB : Own w B 89 3 V.aB S.bays.length V.cB (flt BayV.cells V.bs)
  inM : RowIn K V.aM S.vols.length V.cM
  inB : RowIn K V.aB S.bays.length V.cB
  tape : ∀ x ∈ V.ts, TapeIn B (fun b => K b ∧ V.ow b = 0) w x
  drv : ∀ i x, V.bs[i]? = some x → 0 ≤ x.b.vol → ∃ a k c cs, DrvAt B (fun b => K b ∧ V.ow b = i + 1) w x.d g x.b.M x.b.at_ a k c cs
/-- The robot S, of the power in block g; drive i lies in block D i. -/
def RobP (B : Nat) (K : Nat → Prop) (w : World) (r g : Nat) (S : RS) (D : Nat → Nat) (s : PS) : Prop :=
  (∃ V, RobL B K w r g S V ∧ ∀ i x, V.bs[i]? = some x → 0 ≤ x.b.vol → x.d = D i) ∧ S.ok ∧ Pow B w g s
def RTT : List TypeId := [87, 89, 45, 61, 42]
/-- What its methods may write. -/
abbrev RobF (B : Nat) (K : Nat → Prop) : Nat → TypeId → Prop := fun b T => B ≤ b ∧ (T ∈ PT ∨ (K b ∧ T ∈ RTT))
/-- What those of its methods may write that leave the power alone. -/
abbrev RobG (B : Nat) (K : Nat → Prop) : Nat → TypeId → Prop := fun b T => B ≤ b ∧ K b ∧ T ∈ RTT

variable {B : Nat} {K : Nat → Prop} {w w' : World} {r g : Nat} {S : RS} {V : RobV} {D : Nat → Nat} {s : PS}
theorem RobG.f (h : Mod (RobG B K) w w') : Mod (RobF B K) w w' := h.mono fun b T _ hf => ⟨hf.1, .inr hf.2⟩
theorem RobG.pow {B' : Nat} (hm : Mod (RobG B K) w w') (h : Pow B' w g s) : Pow B' w' g s := h.mod hm fun b T hf => by
  have := hf.2.2
  simp only [RTT, List.mem_cons, List.not_mem_nil, or_false] at this
  rcases this with rfl | rfl | rfl | rfl | rfl <;> decide

theorem MedR.far {F : Nat → TypeId → Prop} {Z : Nat → Prop} {M : Med} {a : Option Addr} {k c : Nat} {cs : List CellV} (h : MedR w B M a k c cs) (hz : RowsIn Z a k c cs) (hm : Mod F w w') (hF : ∀ b T, b < w.heap.size → F b T → (T = 42 ∨ T = 5) → ¬ Z b) : MedR w' B M a k c cs := by
  refine ⟨⟨?_, fun x hx => ?_, h.own.apart⟩, h.len, h.pls⟩
  · have hr := h.own.row
    rw [h.len] at hr ⊢
    obtain ⟨hl, h0 | ⟨g, cur, ha, hb, hh, rest⟩⟩ := hr
    · exact ⟨hl, .inl h0⟩
    · rcases hz.1 g ha with h0 | hzg
      · exact ⟨hl, .inl h0⟩
      · exact ⟨hl, .inr ⟨g, cur, ha, hb, hm.keep hh (fun hf => hF _ _ (heap_lt hh) hf (.inl rfl) hzg), rest⟩⟩
  · obtain ⟨hl, h0 | ⟨g, cur, ha, hb, hh, rest⟩⟩ := h.own.dat x hx
    · exact ⟨hl, .inl h0⟩
    · rcases hz.2 x hx g ha with h0 | hzg
      · exact ⟨hl, .inl h0⟩
      · exact ⟨hl, .inr ⟨g, cur, ha, hb, hm.keep hh (fun hf => hF _ _ (heap_lt hh) hf (.inr rfl) hzg), rest⟩⟩
theorem RowsIn.rek {Z Z' : Nat → Prop} {M : Med} {a : Option Addr} {k c : Nat} {cs : List CellV} (h : MedR w B M a k c cs) (hz : RowsIn Z a k c cs) (hZ : ∀ b, B ≤ b → b < w.heap.size → Z b → Z' b) : RowsIn Z' a k c cs := by
  have hrw := h.own.row
  rw [h.len] at hrw
  exact ⟨hrw.rowInAnd hz.1 hZ, fun x hx => (h.own.dat x hx).rowInAnd (hz.2 x hx) hZ⟩
theorem TapeIn.far {F : Nat → TypeId → Prop} {Z Z' : Nat → Prop} {x : TapeV} (h : TapeIn B Z w x) (hm : Mod F w w') (hF : ∀ b T, b < w.heap.size → F b T → (T = 42 ∨ T = 5) → ¬ Z b) (hZ : ∀ b, B ≤ b → b < w.heap.size → Z b → Z' b) : TapeIn B Z' w' x :=
  ⟨h.r.far h.kr hm hF, h.cap, h.kr.rek h.r hZ⟩
theorem DrvAt.far {F : Nat → TypeId → Prop} {Z Z' : Nat → Prop} {d : Nat} {M : Med} {at_ : Int} {a : Option Addr} {k c : Nat} {cs : List CellV} (h : DrvAt B Z w d g M at_ a k c cs) (hm : Mod F w w')
    (hF : ∀ b T, b < w.heap.size → F b T → (T = 42 ∨ T = 5 ∨ T = 61) → ¬ Z b) (hZ : ∀ b, B ≤ b → b < w.heap.size → Z b → Z' b) : DrvAt B Z' w' d g M at_ a k c cs := by
  have hz : RowsIn Z a k c cs := ⟨h.kr, h.du⟩
  have hz' := hz.rek h.r hZ
  exact ⟨h.low, hZ _ h.low (heap_lt h.obj) h.kd, hm.keep h.obj fun hf => hF _ _ (heap_lt h.obj) hf (.inr (.inr rfl)) h.kd, h.r.far hz hm (fun b T hb hf hT => hF b T hb hf (hT.elim .inl fun h => .inr (.inl h))), h.cap, hz'.1, hz'.2⟩
theorem Own.far {F : Nat → TypeId → Prop} {Z : Nat → Prop} {T : TypeId} {e : Nat} {a : Option Addr} {k c : Nat} {xs : List Value} (h : Own w B T e a k c xs) (hz : RowIn Z a k c) (hm : Mod F w w') (hF : ∀ b, b < w.heap.size → F b T → ¬ Z b) : Own w' B T e a k c xs := by
  obtain ⟨hl, h0 | ⟨g, cur, ha, hb, hh, rest⟩⟩ := h
  · exact ⟨hl, .inl h0⟩
  · rcases hz g ha with h0 | hzg
    · exact ⟨hl, .inl h0⟩
    · exact ⟨hl, .inr ⟨g, cur, ha, hb, hm.keep hh (fun hf => hF g (heap_lt hh) hf hzg), rest⟩⟩
/-- Others write; what is the robot's may be told apart anew. -/
theorem RobL.far {F : Nat → TypeId → Prop} {K' : Nat → Prop} (h : RobL B K w r g S V) (ow' : Nat → Nat) (hm : Mod F w w') (hF : ∀ b T, b < w.heap.size → F b T → T ∈ RTT ∨ T = 5 → ¬ K b) (hK : ∀ b, B ≤ b → b < w.heap.size → K b → K' b) (how : ∀ b, b < w.heap.size → ow' b = V.ow b) :
    RobL B K' w' r g S { V with ow := ow' } := by
  have hno : ∀ T, T ∈ RTT → ∀ b, b < w.heap.size → F b T → ¬ K b := fun T hT b hb hf => hF b T hb hf (.inl hT)
  refine ⟨h.low, hK _ h.low (heap_lt h.obj) h.kr, hm.keep h.obj fun hf => hno _ (by decide) _ (heap_lt h.obj) hf h.kr, h.vols, h.bays, h.rowM.far h.inM hm (hno _ (by decide)), h.rowB.far h.inB hm (hno _ (by decide)), h.rowM.rowInAnd h.inM hK, h.rowB.rowInAnd h.inB hK, fun x hx => ?_, fun i x hx hv => ?_⟩
  · refine (h.tape x hx).far hm (fun b T hb hf hT hz => ?_) fun b hB hb hz => ⟨hK b hB hb hz.1, (how b hb).trans hz.2⟩
    rcases hT with rfl | rfl
    · exact hno _ (by decide) b hb hf hz.1
    · exact hF b _ hb hf (.inr rfl) hz.1
  · obtain ⟨a, k, c, cs, hd⟩ := h.drv i x hx hv
    refine ⟨a, k, c, cs, hd.far hm (fun b T hb hf hT hz => ?_) fun b hB hb hz => ⟨hK b hB hb hz.1, (how b hb).trans hz.2⟩⟩
    rcases hT with rfl | rfl | rfl
    · exact hno _ (by decide) b hb hf hz.1
    · exact hF b _ hb hf (.inr rfl) hz.1
    · exact hno _ (by decide) b hb hf hz.1
theorem RobL.ext (h : RobL B K w r g S V) (hb : Below w.heap.size w w') : RobL B K w' r g S V := h.far (K' := K) V.ow (bmod hb fun _ _ => False) (fun _ _ _ hf => hf.elim) (fun _ _ _ h => h) fun _ _ => rfl
theorem RobP.ext (h : RobP B K w r g S D s) (hb : Below w.heap.size w w') : RobP B K w' r g S D s := by
  obtain ⟨⟨V, h1, h2⟩, h3, h4⟩ := h
  exact ⟨⟨V, h1.ext hb, h2⟩, h3, h4.ext hb⟩
theorem RobP.far {F : Nat → TypeId → Prop} {K' : Nat → Prop} (h : RobP B K w r g S D s) (hm : Mod F w w') (hF : ∀ b T, b < w.heap.size → F b T → T ∈ RTT ∨ T = 5 → ¬ K b) (hK : ∀ b, B ≤ b → b < w.heap.size → K b → K' b) (hp : ∀ b T, F b T → T ≠ 82 ∧ T ≠ 97 ∧ T ≠ 4) : RobP B K' w' r g S D s := by
  obtain ⟨⟨V, h1, h2⟩, h3, h4⟩ := h
  exact ⟨⟨_, h1.far V.ow hm hF hK fun _ _ => rfl, h2⟩, h3, h4.mod hm hp⟩
/-- Another zone. -/
theorem RobP.rek {K' : Nat → Prop} (h : RobP B K w r g S D s) (hK : ∀ b, B ≤ b → b < w.heap.size → K b → K' b) : RobP B K' w r g S D s :=
  h.far (Mod.refl (fun _ _ => False) w) (fun _ _ _ hf => hf.elim) hK fun _ _ hf => hf.elim
theorem RobP.low (h : RobP B K w r g S D s) : B ≤ w.heap.size := by
  obtain ⟨⟨V, h1, h2⟩, h3, h4⟩ := h
  exact Nat.le_of_lt (Nat.lt_of_le_of_lt h1.low (heap_lt h1.obj))
theorem RobP.good (h : RobP B K w r g S D s) : S.ok := h.2.1
theorem RobP.pow (h : RobP B K w r g S D s) : Pow B w g s := h.2.2
theorem VF_RobF {K' : Nat → Prop} (hm : Mod (VF B K') w w') (hK : ∀ b, b < w.heap.size → K' b → K b) : Mod (RobF B K) w w' := hm.mono fun b T hb hf => ⟨hf.1, hf.2.imp id fun h => ⟨hK b hb h.1, by
  have := h.2
  simp only [TT, List.mem_cons, List.not_mem_nil, or_false] at this
  rcases this with rfl | rfl <;> decide⟩⟩
theorem PF_RobF (hm : Mod (PF B) w w') : Mod (RobF B K) w w' := hm.mono fun b T _ hf => ⟨hf.1, .inl hf.2⟩
/-- Only the power is written. -/
theorem RobP.pf {s' : PS} (h : RobP B K w r g S D s) (hm : Mod (PF B) w w') (hp : Pow B w' g s') : RobP B K w' r g S D s' := by
  obtain ⟨⟨V, h1, h2⟩, h3, h4⟩ := h
  refine ⟨⟨_, h1.far (K' := K) V.ow hm (fun b T _ hf hT => ?_) (fun _ _ _ h => h) fun _ _ => rfl, h2⟩, h3, hp⟩
  have h5 := hf.2
  simp only [PT, List.mem_cons, List.not_mem_nil, or_false] at h5
  rcases h5 with rfl | rfl <;> exact absurd hT (by decide)
theorem RobL.far0 {F : Nat → TypeId → Prop} (h : RobL B K w r g S V) (hm : Mod F w w') (hF : ∀ b T, b < w.heap.size → F b T → T ∈ RTT ∨ T = 5 → ¬ K b) : RobL B K w' r g S V := h.far (K' := K) V.ow hm hF (fun _ _ _ h => h) fun _ _ => rfl
theorem modify_get {l : List Bay} {i : Nat} {b : Bay} {f : Bay → Bay} (h : l[i]? = some b) : l.modify i f = l.set i (f b) := by
  have hi := (List.getElem?_eq_some_iff.1 h).1
  apply List.ext_getElem?
  intro j
  rw [List.getElem?_modify, List.getElem?_set]
  by_cases hj : i = j
  · subst hj
    simp [hi, List.getElem?_eq_getElem hi] at h ⊢
    rw [h]
  · simp [hj]
theorem RS.drive_ok {i : Nat} {b : Bay} {M' : Med} {at' : Int} (h : S.ok) (hi : S.bays[i]? = some b) (hg : DGood M' at' ∧ M'.cap = S.size) : (S.drive i M' at').ok := by
  have e : (S.drive i M' at').bays = S.bays.set i { b with M := M', at_ := at' } := modify_get hi
  have hil := (List.getElem?_eq_some_iff.1 hi).1
  refine ⟨h.vols, ?_, h.size, h.good, ?_, ?_, h.asked, h.mounts⟩
  · rw [e, List.length_set]; exact h.drives
  · intro x hx
    rw [e] at hx
    rcases List.mem_or_eq_of_mem_set hx with hx | rfl
    · have := h.bay x hx; exact ⟨this.vol, this.asked, this.good⟩
    · have := h.bay b (List.mem_of_getElem? hi); exact ⟨this.vol, this.asked, fun _ => hg⟩
  · intro j k bj bk hj hk hv h0
    rw [e] at hj hk
    rw [List.getElem?_set] at hj hk
    have key : ∀ n bn, (if i = n then (if i < S.bays.length then some { b with M := M', at_ := at' } else none) else S.bays[n]?) = some bn → ∃ bn', S.bays[n]? = some bn' ∧ bn'.vol = bn.vol := by
      intro n bn hn
      split at hn
      · rename_i hin
        subst hin
        simp only [hil, if_true, Option.some.injEq] at hn
        exact ⟨b, hi, by rw [← hn]⟩
      · exact ⟨bn, hn, rfl⟩
    obtain ⟨b1, h1, e1⟩ := key j bj hj
    obtain ⟨b2, h2, e2⟩ := key k bk hk
    exact h.one j k b1 b2 h1 h2 (by rw [e1, e2]; exact hv) (by rw [e1]; exact h0)
/-- A drive of the robot's does something. -/
theorem RobP.drive {i : Nat} {b : Bay} {d : Nat} (h : RobP B K w r g S D s) (hu : Up B K w) (hi : S.bays[i]? = some b) (hv : 0 ≤ b.vol) (hd : d = D i) {P : Program} {f : FuncId} {args : Array Value} {R : Ending → World → Prop} {M' : Med} {at' : Int} {s' : PS}
    (op : ∀ K', DrvP B K' w d g b.M b.at_ s → Up B K' w → Calls P f args w fun e w' => R e w' ∧ DrvP B K' w' d g M' at' s' ∧ Mod (VF B K') w w') (hg : DGood M' at' ∧ M'.cap = S.size) :
    Calls P f args w fun e w' => R e w' ∧ RobP B K w' r g (S.drive i M' at') D s' ∧ Mod (RobF B K) w w' := by
  subst hd
  obtain ⟨⟨V, h1, h2⟩, h3, h4⟩ := h
  have hib := hi
  rw [h1.bays, List.getElem?_map] at hib
  obtain ⟨x, hx, rfl⟩ := Option.map_eq_some_iff.1 hib
  obtain ⟨a, k, c, cs, hd⟩ := h1.drv i x hx hv
  rw [h2 i x hx hv] at hd
  have hp0 : DrvP B (fun b => K b ∧ V.ow b = i + 1) w (D i) g x.b.M x.b.at_ s := ⟨⟨a, k, c, cs, hd⟩, h4⟩
  refine (op (fun b => K b ∧ (b < w.heap.size → V.ow b = i + 1)) (hp0.rek fun b _ _ hk => ⟨hk.1, fun _ => hk.2⟩) ⟨hu.le, fun b hb => ⟨hu.up b hb, fun h => by omega⟩⟩).mono ?_
  rintro e w' ⟨hR, ⟨⟨a', k', c', cs', hd'⟩, hp'⟩, hM⟩
  have hRF : Mod (RobF B K) w w' := VF_RobF hM fun b _ hk => hk.1
  refine ⟨hR, ⟨⟨{ V with bs := V.bs.set i ⟨{ x.b with M := M', at_ := at' }, x.d⟩, ow := fun b => if b < w.heap.size then V.ow b else i + 1 }, ?_, ?_⟩, RS.drive_ok h3 hi hg, hp'⟩, hRF⟩
  · have hil : i < V.bs.length := (List.getElem?_eq_some_iff.1 hx).1
    have e : (S.drive i M' at').bays = S.bays.set i { x.b with M := M', at_ := at' } := modify_get hi
    have hxe : V.bs[i] = x := by rw [List.getElem?_eq_getElem hil] at hx; exact Option.some.inj hx
    have hno : ∀ b T, VF B (fun b => K b ∧ (b < w.heap.size → V.ow b = i + 1)) b T → T ∈ [87, 89, 45, 5] → False := by
      rintro b T ⟨_, h | ⟨_, h⟩⟩ hT
      · simp only [PT, List.mem_cons, List.not_mem_nil, or_false] at h
        rcases h with rfl | rfl <;> exact absurd hT (by decide)
      · simp only [TT, List.mem_cons, List.not_mem_nil, or_false] at h
        rcases h with rfl | rfl <;> exact absurd hT (by decide)
    have hzone : ∀ b T, VF B (fun b => K b ∧ (b < w.heap.size → V.ow b = i + 1)) b T → (T = 42 ∨ T = 5 ∨ T = 61) → b < w.heap.size → V.ow b = i + 1 := by
      rintro b T ⟨_, h | ⟨h, _⟩⟩ hT hb
      · simp only [PT, List.mem_cons, List.not_mem_nil, or_false] at h
        exfalso
        rcases h with rfl | rfl <;> exact absurd hT (by decide)
      · exact h.2 hb
    have hfl : flt BayV.cells (V.bs.set i ⟨{ x.b with M := M', at_ := at' }, x.d⟩) = flt BayV.cells V.bs := by
      have : BayV.cells ⟨{ x.b with M := M', at_ := at' }, x.d⟩ = BayV.cells V.bs[i] := by rw [hxe]; rfl
      rw [flt_set BayV.len V.bs i _ hil, this]
      have h2 : flt BayV.cells V.bs = flt BayV.cells (V.bs.take i) ++ (BayV.cells V.bs[i] ++ flt BayV.cells (V.bs.drop (i + 1))) := by
        rw [← flt_cons, ← flt_append, ← List.drop_eq_getElem_cons hil, List.take_append_drop]
      rw [← flt_take BayV.len, show i * 3 + 3 = (i + 1) * 3 by omega, ← flt_drop BayV.len, List.append_assoc, ← h2]
    refine ⟨h1.low, h1.kr, ?_, h1.vols, ?_, h1.rowM.far h1.inM hM fun b _ hf _ => hno _ _ hf (by decide), ?_, h1.inM, ?_, fun y hy => ?_, fun j y hy hvy => ?_⟩
    · rw [e, List.length_set]
      exact hM.keep h1.obj fun hf => hno _ _ hf (by decide)
    · rw [e, h1.bays, List.map_set]
    · rw [e, List.length_set, hfl]
      exact h1.rowB.far h1.inB hM fun b _ hf _ => hno _ _ hf (by decide)
    · rw [e, List.length_set]; exact h1.inB
    · refine (h1.tape y hy).far hM (fun b T hb hf hT hz => ?_) fun b _ hb hz => ⟨hz.1, by show (if b < w.heap.size then V.ow b else i + 1) = _; rw [if_pos hb]; exact hz.2⟩
      have := hzone b T hf (hT.elim .inl fun h => .inr (.inl h)) hb
      rw [hz.2] at this
      omega
    · simp only [List.getElem?_set] at hy
      split at hy
      · rename_i hij
        subst hij
        replace hy : some _ = some y := hy
        obtain rfl := Option.some.inj hy
        refine ⟨a', k', c', cs', ?_⟩
        have hd2 := hd'
        rw [← h2 i x hx hv] at hd2
        refine hd2.far (Z' := fun b => K b ∧ (if b < w.heap.size then V.ow b else i + 1) = i + 1) (Mod.refl (fun _ _ => False) w') (fun _ _ _ hf => hf.elim) fun b _ _ hk => ⟨hk.1, ?_⟩
        split
        · exact hk.2 (by assumption)
        · rfl
      · rename_i hij
        obtain ⟨a2, k2, c2, cs2, hd2⟩ := h1.drv j y hy hvy
        refine ⟨a2, k2, c2, cs2, hd2.far hM (fun b T hb hf hT hz => ?_) fun b _ hb hz => ⟨hz.1, by show (if b < w.heap.size then V.ow b else i + 1) = _; rw [if_pos hb]; exact hz.2⟩⟩
        have := hzone b T hf hT hb
        rw [hz.2] at this
        omega
  · intro j y hy hvy
    simp only [List.getElem?_set] at hy
    split at hy
    · rename_i hij
      subst hij
      rw [if_pos (List.getElem?_eq_some_iff.1 hx).1] at hy
      obtain rfl := Option.some.inj hy
      exact h2 i x hx hv
    · exact h2 j y hy hvy
end Go.Proofs.Ytmaagkdehdmhlaa
