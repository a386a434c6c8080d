/- Several texts of this claim, one behind the other: TwoRob, RobExP, Act5, Acts13, SpoilIn. -/
import Derived.Test.YtmaagkdehdmhlaaRobotExactPartT
import Derived.Test.YtmaagkdehdmhlaaRRobPut
import Derived.Test.YtmaagkdehdmhlaaRRobMed
import Derived.Test.YtmaagkdehdmhlaaRRobMount
import Derived.Test.YtmaagkdehdmhlaaRRobNew
import Derived.Test.YtmaagkdehdmhlaaRobotExactPartV
import Derived.Test.YtmaagkdehdmhlaaRefDrvM
import Derived.Test.YtmaagkdehdmhlaaRefDrvW
import Derived.Test.YtmaagkdehdmhlaaRobotExactPartB
import Derived.Test.YtmaagkdehdmhlaaRobotExactPartH
import Derived.Test.YtmaagkdehdmhlaaProg
import Derived.Outline
import Derived.Test.YtmaagkdehdmhlaaRobotExactPartN
/- The program's robot and the page's, side by side. -/
namespace Go.Proofs.Ytmaagkdehdmhlaa
open Go.RowKit

/-- The program's robot (its state S, its drives D, its power s) and the page's (S2, E, s2), in zones that do not meet, with a hole: blocks lo to hi are neither's. -/
structure TwoR (B lo hi : Nat) (w : World) (r g rr q : Nat) (S : RS) (D : Nat → Nat) (s : PS) (S2 : RS) (E : Nat → Nat) (s2 : PS) : Prop where
  ex : ∃ K Z : Nat → Prop, (∀ b, K b → b < w.heap.size ∧ ¬ (lo ≤ b ∧ b < hi)) ∧ (∀ b, Z b → b < w.heap.size ∧ ¬ (lo ≤ b ∧ b < hi)) ∧ (∀ b, Z b → ¬ K b) ∧ RobP B K w r g S D s ∧ RRobP B Z w rr q S2 E s2
def TRs : List TypeId := [82, 97, 87, 89, 61, 84, 74, 63, 55, 3]
/-- What the two may write. -/
abbrev TRF (B lo hi : Nat) : Nat → TypeId → Prop := fun b T => B ≤ b ∧ (T ∈ TRs ∨ (T = 45 ∨ T = 42) ∧ ¬ (lo ≤ b ∧ b < hi))
variable {B lo hi : Nat} {w w' : World} {r g rr q : Nat} {S S2 : RS} {D E : Nat → Nat} {s s2 : PS}
theorem TRF_no8 (b : Nat) : ¬ TRF B lo hi b 5 := by
  rintro ⟨_, h | ⟨h | h, _⟩⟩ <;> revert h <;> decide
theorem TRF_hole {b : Nat} {T : TypeId} (h : TRF B lo hi b T) (hh : lo ≤ b ∧ b < hi) : T ∈ TRs := by
  rcases h.2 with h | h
  · exact h
  · exact absurd hh h.2
theorem TRF_noM {b : Nat} (hh : lo ≤ b ∧ b < hi) : ¬ TRF B lo hi b 45 := fun h => absurd (TRF_hole h hh) (by decide)
/-- A tape in the hole. -/
theorem MedR.trf {B0 : Nat} {M : Med} {a : Option Addr} {k c : Nat} {cs : List CellV} (h : MedR w B0 M a k c cs) (hl : lo ≤ B0) (hh : w.heap.size ≤ hi) (hm : Mod (TRF B lo hi) w w') : MedR w' B0 M a k c cs :=
  h.far h.newRow hm fun b T _ hf hT hz => by
    have := TRF_hole hf ⟨by omega, by omega⟩
    rcases hT with rfl | rfl <;> (revert this; decide)
theorem TwoR.low (h : TwoR B lo hi w r g rr q S D s S2 E s2) : B ≤ w.heap.size := by
  obtain ⟨K, Z, h1, h2, h3, h4, h5⟩ := h
  exact h4.low
theorem TwoR.good (h : TwoR B lo hi w r g rr q S D s S2 E s2) : S.ok ∧ S2.ok := by
  obtain ⟨K, Z, h1, h2, h3, h4, h5⟩ := h
  exact ⟨h4.good, h5.good⟩
theorem TwoR.realP (h : TwoR B lo hi w r g rr q S D s S2 E s2) : ∃ K, RobP B K w r g S D s := by
  obtain ⟨K, Z, h1, h2, h3, h4, h5⟩ := h
  exact ⟨K, h4⟩
theorem TwoR.refP (h : TwoR B lo hi w r g rr q S D s S2 E s2) : ∃ Z, RRobP B Z w rr q S2 E s2 := by
  obtain ⟨K, Z, h1, h2, h3, h4, h5⟩ := h
  exact ⟨Z, h5⟩
theorem TwoR.ext (h : TwoR B lo hi w r g rr q S D s S2 E s2) (hb : Below w.heap.size w w') : TwoR B lo hi w' r g rr q S D s S2 E s2 := by
  obtain ⟨K, Z, h1, h2, h3, h4, h5⟩ := h
  exact ⟨K, Z, fun b hb' => ⟨Nat.lt_of_lt_of_le (h1 b hb').1 hb.size, (h1 b hb').2⟩, fun b hb' => ⟨Nat.lt_of_lt_of_le (h2 b hb').1 hb.size, (h2 b hb').2⟩, h3, h4.ext hb, h5.ext hb⟩
theorem TwoR.hole (h : TwoR B lo hi w r g rr q S D s S2 E s2) {lo' : Nat} (hi' : Nat) (hl : w.heap.size ≤ lo') : TwoR B lo' hi' w r g rr q S D s S2 E s2 := by
  obtain ⟨K, Z, h1, h2, h3, h4, h5⟩ := h
  exact ⟨K, Z, fun b hb' => ⟨(h1 b hb').1, fun h => by have := (h1 b hb').1; omega⟩, fun b hb' => ⟨(h2 b hb').1, fun h => by have := (h2 b hb').1; omega⟩, h3, h4, h5⟩
theorem TwoR.whole (h : TwoR B lo hi w r g rr q S D s S2 E s2) : TwoR B 0 0 w r g rr q S D s S2 E s2 := by
  obtain ⟨K, Z, h1, h2, h3, h4, h5⟩ := h
  exact ⟨K, Z, fun b hb' => ⟨(h1 b hb').1, fun h => by omega⟩, fun b hb' => ⟨(h2 b hb').1, fun h => by omega⟩, h3, h4, h5⟩
theorem RQT_sep (T : TypeId) (h : T ∈ RQT) : T ∉ RTT ∧ T ∉ PT ∧ T ≠ 5 ∧ T ≠ 4 ∧ T ≠ 45 ∧ T ≠ 42 := by
  simp only [RQT, List.mem_cons, List.not_mem_nil, or_false] at h
  rcases h with rfl | rfl | rfl | rfl | rfl <;> decide
theorem PT_sep (T : TypeId) (h : T ∈ PT) : T ∉ RTT ∧ T ≠ 5 ∧ T ≠ 4 ∧ T ≠ 45 ∧ T ≠ 42 := by
  simp only [PT, List.mem_cons, List.not_mem_nil, or_false] at h
  rcases h with rfl | rfl <;> decide
theorem RTT_sep (T : TypeId) (h : T ∈ RTT) : T ≠ 82 ∧ T ≠ 97 ∧ T ≠ 84 ∧ T ≠ 5 ∧ T ≠ 4 := by
  simp only [RTT, List.mem_cons, List.not_mem_nil, or_false] at h
  rcases h with rfl | rfl | rfl | rfl | rfl <;> decide
theorem RTT_trs (T : TypeId) (h : T ∈ RTT) : T ∈ TRs ∨ T = 45 ∨ T = 42 := by
  simp only [RTT, List.mem_cons, List.not_mem_nil, or_false] at h
  rcases h with rfl | rfl | rfl | rfl | rfl <;> decide
theorem PT_trs (T : TypeId) (h : T ∈ PT) : T ∈ TRs := by
  simp only [PT, List.mem_cons, List.not_mem_nil, or_false] at h
  rcases h with rfl | rfl <;> decide
theorem RQT_trs (T : TypeId) (h : T ∈ RQT) : T ∈ TRs := by
  simp only [RQT, List.mem_cons, List.not_mem_nil, or_false] at h
  rcases h with rfl | rfl | rfl | rfl | rfl <;> decide
/-- The program's robot does something. -/
theorem TwoR.real (h : TwoR B lo hi w r g rr q S D s S2 E s2) (hh : hi ≤ w.heap.size) {P : Program} {f : FuncId} {args : Array Value} {X : Ending → (Nat → Nat) → World → Prop} {S' : RS} {s' : PS}
    (op : ∀ K, RobP B K w r g S D s → Up B K w → Calls P f args w fun e w' => ∃ D', X e D' w' ∧ RobP B K w' r g S' D' s' ∧ Mod (RobF B K) w w') : Calls P f args w fun e w' => ∃ D', X e D' w' ∧ TwoR B lo hi w' r g rr q S' D' s' S2 E s2 ∧ Mod (TRF B lo hi) w w' := by
  obtain ⟨K, Z, h1, h2, h3, h4, h5⟩ := h
  refine (op (fun b => K b ∨ w.heap.size ≤ b) (h4.rek fun b _ _ hk => .inl hk) ⟨h4.low, fun b hb => .inr hb⟩).mono ?_
  rintro e w' ⟨D', hX, hd', hM⟩
  refine ⟨D', hX, ⟨fun b => (K b ∨ w.heap.size ≤ b) ∧ b < w'.heap.size, Z, fun b hb => ⟨hb.2, fun hx => ?_⟩, fun b hb => ⟨Nat.lt_of_lt_of_le (h2 b hb).1 hM.size, (h2 b hb).2⟩, fun b hz hk => ?_, hd'.rek fun b _ hb hk => ⟨hk, hb⟩, h5.far hM (fun b T hb hf => ?_) (fun _ _ _ h => h) fun b T hf => ?_⟩, hM.mono fun b T hb hf => ⟨hf.1, ?_⟩⟩
  · rcases hb.1 with h | h
    · exact (h1 b h).2 hx
    · omega
  · rcases hk.1 with h | h
    · exact h3 b hz h
    · have := (h2 b hz).1; omega
  · rcases hf.2 with h | ⟨h, hT⟩
    · refine ⟨fun hq => (RQT_sep T hq).2.1 h, fun hT => ?_⟩
      have := PT_sep T h
      rcases hT with hT | hT | hT
      · exact absurd hT this.2.2.2.1
      · exact absurd hT this.2.2.2.2
      · exact absurd hT this.2.1
    · refine ⟨fun hq => (RQT_sep T hq).1 hT, fun _ hz => ?_⟩
      rcases h with h | h
      · exact h3 b hz h
      · omega
  · rcases hf.2 with h | ⟨_, h⟩
    · refine ⟨fun he => ?_, (PT_sep T h).2.2.1⟩
      subst he
      revert h; decide
    · exact ⟨(RTT_sep T h).2.2.1, (RTT_sep T h).2.2.2.2⟩
  · rcases hf.2 with h | ⟨h, hT⟩
    · exact .inl (PT_trs T h)
    · rcases RTT_trs T hT with h' | h'
      · exact .inl h'
      · refine .inr ⟨h', fun hx => ?_⟩
        rcases h with h | h
        · exact (h1 b h).2 hx
        · omega
/-- The page's robot does something. -/
theorem TwoR.ref (h : TwoR B lo hi w r g rr q S D s S2 E s2) (hh : hi ≤ w.heap.size) {P : Program} {f : FuncId} {args : Array Value} {X : Ending → (Nat → Nat) → World → Prop} {S' : RS} {s' : PS}
    (op : ∀ Z, RRobP B Z w rr q S2 E s2 → Up B Z w → (∀ w', Mod (RRF B Z) w w' → Mod (TRF B lo hi) w w') → Calls P f args w fun e w' => ∃ E', X e E' w' ∧ RRobP B Z w' rr q S' E' s' ∧ Mod (RRF B Z) w w') : Calls P f args w fun e w' => ∃ E', X e E' w' ∧ TwoR B lo hi w' r g rr q S D s S' E' s' ∧ Mod (TRF B lo hi) w w' := by
  obtain ⟨K, Z, h1, h2, h3, h4, h5⟩ := h
  have hfr : ∀ w', Mod (RRF B (fun b => Z b ∨ w.heap.size ≤ b)) w w' → Mod (TRF B lo hi) w w' := fun w' hM => hM.mono fun b T hb hf => ⟨hf.1, by
    rcases hf.2 with h | ⟨h, rfl⟩
    · exact .inl (RQT_trs T h)
    · refine .inr ⟨.inl rfl, fun hx => ?_⟩
      rcases h with h | h
      · exact (h2 b h).2 hx
      · omega⟩
  refine (op (fun b => Z b ∨ w.heap.size ≤ b) (h5.rek fun b _ _ hk => .inl hk) ⟨h4.low, fun b hb => .inr hb⟩ hfr).mono ?_
  rintro e w' ⟨E', hX, hd', hM⟩
  refine ⟨E', hX, ⟨K, fun b => (Z b ∨ w.heap.size ≤ b) ∧ b < w'.heap.size, fun b hb => ⟨Nat.lt_of_lt_of_le (h1 b hb).1 hM.size, (h1 b hb).2⟩, fun b hb => ⟨hb.2, fun hx => ?_⟩, fun b hz hk => ?_, h4.far hM (fun b T hb hf hT hk => ?_) (fun _ _ _ h => h) (fun b T hf => ?_), hd'.rek fun b _ hb hk => ⟨hk, hb⟩⟩, hfr w' hM⟩
  · rcases hb.1 with h | h
    · exact (h2 b h).2 hx
    · omega
  · rcases hz.1 with h | h
    · exact h3 b h hk
    · have := (h1 b hk).1; omega
  · rcases hf.2 with h | ⟨h, rfl⟩
    · rcases hT with hT | hT
      · exact (RQT_sep T h).1 hT
      · exact (RQT_sep T h).2.2.1 hT
    · rcases h with h | h
      · exact h3 b h hk
      · omega
  · rcases hf.2 with h | ⟨_, rfl⟩
    · have := RQT_sep T h
      refine ⟨fun he => this.2.1 (by rw [he]; decide), fun he => this.2.1 (by rw [he]; decide), this.2.2.2.1⟩
    · decide
/-- What lies in the hole is written. -/
theorem TwoR.spoil {F : Nat → TypeId → Prop} (h : TwoR B lo hi w r g rr q S D s S2 E s2) (hm : Mod F w w') (hF : ∀ b T, F b T → (lo ≤ b ∧ b < hi) ∧ (T = 5 ∨ T = 42 ∨ T = 45)) : TwoR B lo hi w' r g rr q S D s S2 E s2 := by
  obtain ⟨K, Z, h1, h2, h3, h4, h5⟩ := h
  refine ⟨K, Z, fun b hb => ⟨Nat.lt_of_lt_of_le (h1 b hb).1 hm.size, (h1 b hb).2⟩, fun b hb => ⟨Nat.lt_of_lt_of_le (h2 b hb).1 hm.size, (h2 b hb).2⟩, h3, h4.far hm (fun b T _ hf _ hk => (h1 b hk).2 (hF b T hf).1) (fun _ _ _ h => h) (fun b T hf => ?_), h5.far hm (fun b T _ hf => ⟨?_, fun _ hz => (h2 b hz).2 (hF b T hf).1⟩) (fun _ _ _ h => h) fun b T hf => ?_⟩
  all_goals rcases (hF b T hf).2 with rfl | rfl | rfl <;> decide
/-- The page's robot, when the page's power has become another one. -/
theorem RRbL.rpf {Z : Nat → Prop} {V : RRV} (h : RRbL B Z w r q S V) (hm : Mod (RPF B) w w') : RRbL B Z w' r q S V := by
  have hno : ∀ T, T ≠ 84 → ∀ b, ¬ RPF B b T := fun T hT b hf => hT hf.2
  exact ⟨h.low, hm.keep h.obj (hno _ (by decide) _), h.bays, h.nts, h.rowV.mod hm fun b _ _ => hno _ (by decide) b, h.rowD.mod hm fun b _ _ => hno _ (by decide) b, h.rowH.mod hm fun b _ _ => hno _ (by decide) b, h.rowU.mod hm fun b _ _ => hno _ (by decide) b, h.hu, h.inV,
    fun x hx => ⟨(h.tape x hx).1.far hm (fun b T _ hf hT => by have := hf.2; subst this; exact absurd hT (by decide)) fun _ _ _ h => h, (h.tape x hx).2⟩, h.vol, fun i x hx hv => by
      obtain ⟨a, k, c, cs, hd, hz⟩ := h.drv i x hx hv
      exact ⟨a, k, c, cs, hd.rpf hm, hz⟩, h.one⟩
theorem RRobP.rpf {Z : Nat → Prop} (h : RRobP B Z w r q S D s) {s' : PS} (hm : Mod (RPF B) w w') (hp : RPow B w' q s') : RRobP B Z w' r q S D s' := by
  obtain ⟨⟨V, h1, h2⟩, h3, _⟩ := h
  exact ⟨⟨V, h1.rpf hm, h2⟩, h3, hp⟩
end Go.Proofs.Ytmaagkdehdmhlaa

/- What RobotExact needs beside: New refused, Put whichever way, a drive of the robot's as it lies. -/
namespace Go.Proofs.Ytmaagkdehdmhlaa
open Go.RowKit

set_option maxRecDepth 100000 in
set_option maxHeartbeats 1000000 in
theorem rob_new_bad (p : Option Addr) (vols size drives : Int) (w : World) (h : p = none ∨ (vols < 1 ∨ 8 < vols) ∨ (size < 1 ∨ 400 < size) ∨ (drives < 1 ∨ 4 < drives)) :
    Calls Try.prog 7 #[.pointer p, .int .i64 vols, .int .i64 size, .int .i64 drives] w fun e w' => e = .returned (.tuple #[.pointer none, .int .i64 1]) ∧ Below w.heap.size w w' := by
  go_enter Try.func7, Try.ntmps7
  cases p with
  | none =>
    clear h
    go_wp2
    go_ret2
    exact ⟨rfl, Below.refl _ _⟩
  | some x =>
    by_cases h0 : vols < 1
    · have e0 : decide (vols < 1) = true := by simpa using h0
      clear h h0
      go_wp2
      go_ret2
      exact ⟨rfl, Below.refl _ _⟩
    have e0 : decide (vols < 1) = false := by simpa using h0
    by_cases h1 : 8 < vols
    · have e1 : decide (vols > 8) = true := by simpa using h1
      clear h h0 h1
      go_wp2
      go_ret2
      exact ⟨rfl, Below.refl _ _⟩
    have e1 : decide (vols > 8) = false := by simpa using h1
    by_cases h2 : size < 1
    · have e2 : decide (size < 1) = true := by simpa using h2
      clear h h0 h1 h2
      go_wp2
      go_ret2
      exact ⟨rfl, Below.refl _ _⟩
    have e2 : decide (size < 1) = false := by simpa using h2
    by_cases h3 : 400 < size
    · have e3 : decide (size > 400) = true := by simpa using h3
      clear h h0 h1 h2 h3
      go_wp2
      go_ret2
      exact ⟨rfl, Below.refl _ _⟩
    have e3 : decide (size > 400) = false := by simpa using h3
    by_cases h4 : drives < 1
    · have e4 : decide (drives < 1) = true := by simpa using h4
      clear h h0 h1 h2 h3 h4
      go_wp2
      go_ret2
      exact ⟨rfl, Below.refl _ _⟩
    have e4 : decide (drives < 1) = false := by simpa using h4
    have e5 : decide (drives > 4) = true := by
      rcases h with h | h | h | h
      · cases h
      · omega
      · omega
      · simp; omega
    clear h h0 h1 h2 h3 h4
    go_wp2
    go_ret2
    exact ⟨rfl, Below.refl _ _⟩
variable {B : Nat} {K Z : Nat → Prop} {w w' : World} {r g rr q : Nat} {S S' : RS} {D E : Nat → Nat} {s : PS}
/-- A drive of the robot's, as it lies. -/
theorem RobP.drvP {i : Nat} {b : Bay} (h : RobP B K w r g S D s) (hi : S.bays[i]? = some b) (hv : 0 ≤ b.vol) : ∃ K', DrvP B K' w (D i) g b.M b.at_ s := by
  obtain ⟨⟨V, h1, h2⟩, h3, h4⟩ := h
  have hib := hi
  rw [h1.bays, List.getElem?_map] at hib
  obtain ⟨x, hx, rfl⟩ := Option.map_eq_some_iff.1 hib
  obtain ⟨a, k, c, cs, hd⟩ := h1.drv i x hx hv
  rw [h2 i x hx hv] at hd
  exact ⟨_, ⟨a, k, c, cs, hd⟩, h4⟩
/-- Put of any tape. -/
def RS.putE (S : RS) (v : Int) (m : Med) : RS × Int := if 0 ≤ v ∧ v < S.vols.length ∧ m.ok = true ∧ m.cap = S.size then (S.put v.toNat m, 0) else (S, 1)
theorem RS.putE_len {v : Int} {m : Med} {Er : Int} (h : S.putE v m = (S', Er)) : S'.vols.length = S.vols.length ∧ S'.bays.length = S.bays.length ∧ S'.size = S.size ∧ S'.asked = S.asked ∧ (S.ok → S'.ok) := by
  unfold RS.putE at h
  split at h
  · rename_i hc
    simp only [Prod.mk.injEq] at h
    obtain ⟨rfl, rfl⟩ := h
    refine ⟨?_, ?_, ?_, ?_, fun hok => RS.put_ok hok ⟨hc.2.2.1, hc.2.2.2⟩⟩ <;> (unfold RS.put; split <;> simp)
  · simp only [Prod.mk.injEq] at h
    obtain ⟨rfl, rfl⟩ := h
    exact ⟨rfl, rfl, rfl, rfl, id⟩
theorem rob_putE {v cap Er : Int} {aM : Option Addr} {cM n : Nat} {us : List CellV} {m : Med} (hr : S.putE v m = (S', Er)) (hm : m = ⟨cap, pls us⟩) (w : World) (h : RobP B K w r g S D s) (hu : Up B K w) (hs : CMat w aM us) (hn : n = us.length) (hn2 : n ≤ 100000) (hx : ∀ x ∈ us, x.d.l.length ≤ 140737488355328) :
    Calls Try.prog 14 #[.pointer (some ⟨r, 0, none⟩), .int .i64 v, .agg #[.int .i64 cap, .slice aM n cM]] w fun e w' => e = .returned (.int .i64 Er) ∧ RobP B K w' r g S' D s ∧ Mod (RobF B K) w w' := by
  subst hm
  unfold RS.putE at hr
  split at hr
  · rename_i hc
    simp only [Prod.mk.injEq] at hr
    obtain ⟨rfl, rfl⟩ := hr
    obtain ⟨vn, rfl⟩ := Int.eq_ofNat_of_zero_le hc.1
    exact rob_put vn cap aM cM n us w h hu hs hn hn2 hx (by have := hc.2.1; omega) hc.2.2.1 hc.2.2.2
  · rename_i hc
    simp only [Prod.mk.injEq] at hr
    obtain ⟨rfl, rfl⟩ := hr
    refine (rob_put_bad v cap aM cM n us w h hs hn hn2 hx ?_).mono ?_
    · by_cases h1 : v < 0
      · exact .inl h1
      by_cases h2 : (S.vols.length : Int) ≤ v
      · exact .inr (.inl h2)
      by_cases h3 : (medOf cap us).ok = true
      · exact .inr (.inr (.inr fun h4 => hc ⟨by omega, by omega, h3, h4⟩))
      · exact .inr (.inr (.inl (by simpa using h3)))
    · rintro e w2 ⟨he, hb⟩
      exact ⟨he, h.ext hb, bmod hb _⟩
theorem rrob_putE {v cap Er : Int} {aM : Option Addr} {cM n : Nat} {us : List CellV} {m : Med} (hr : S.putE v m = (S', Er)) (hm : m = ⟨cap, pls us⟩) (w : World) (h : RRobP B Z w rr q S E s) (hu : Up B Z w) (hs : ∀ w', Mod (RRF B Z) w w' → CMat w' aM us) (hn : n = us.length) (hn2 : n ≤ 100000) (hx : ∀ x ∈ us, x.d.l.length ≤ 140737488355328) :
    Calls Try.prog 15 #[.pointer (some ⟨rr, 0, none⟩), .int .i64 v, .agg #[.int .i64 cap, .slice aM n cM]] w fun e w' => e = .returned (.int .i64 Er) ∧ RRobP B Z w' rr q S' E s ∧ Mod (RRF B Z) w w' := by
  subst hm
  unfold RS.putE at hr
  split at hr
  · rename_i hc
    simp only [Prod.mk.injEq] at hr
    obtain ⟨rfl, rfl⟩ := hr
    obtain ⟨vn, rfl⟩ := Int.eq_ofNat_of_zero_le hc.1
    exact rrob_put vn cap aM cM n us w h hu hs hn hn2 hx (by have := hc.2.1; omega) hc.2.2.1 hc.2.2.2
  · rename_i hc
    simp only [Prod.mk.injEq] at hr
    obtain ⟨rfl, rfl⟩ := hr
    refine (rrob_put_bad v cap aM cM n us w h (hs w (Mod.refl _ w)) hn hn2 ?_).mono ?_
    · by_cases h1 : v < 0
      · exact .inl h1
      by_cases h2 : (S.vols.length : Int) ≤ v
      · exact .inr (.inl h2)
      by_cases h3 : (medOf cap us).ok = true
      · exact .inr (.inr (.inr fun h4 => hc ⟨by omega, by omega, h3, h4⟩))
      · exact .inr (.inr (.inl (by simpa using h3)))
    · rintro e w2 ⟨he, hb⟩
      exact ⟨he, h.ext hb, bmod hb _⟩
theorem drive_len (S : RS) (i : Nat) (M : Med) (a : Int) : (S.drive i M a).vols.length = S.vols.length ∧ (S.drive i M a).bays.length = S.bays.length ∧ (S.drive i M a).size = S.size ∧ (S.drive i M a).asked = S.asked := by
  unfold RS.drive; simp
/-- Medium of any volume. -/
def RS.medE (S : RS) (v : Int) : Med × Int := if 0 ≤ v ∧ v < S.vols.length then (S.tape v.toNat, 0) else (⟨0, []⟩, 1)
theorem RS.medE_short {v Er : Int} {M : Med} (h : S.ok) (hr : S.medE v = (M, Er)) : M.cells.length ≤ 90000 ∧ ∀ x ∈ M.cells, x.data.length ≤ 140737488355328 := by
  unfold RS.medE at hr
  split at hr
  · rename_i hc
    simp only [Prod.mk.injEq] at hr
    obtain ⟨rfl, rfl⟩ := hr
    have := RS.tape_dgood h (v := v.toNat) (by omega)
    exact ⟨this.len, this.short⟩
  · simp only [Prod.mk.injEq] at hr
    obtain ⟨rfl, rfl⟩ := hr
    simp
theorem rob_medE {v Er : Int} {M : Med} (hr : S.medE v = (M, Er)) (w : World) (h : RobP B K w r g S D s) :
    Calls Try.prog 38 #[.pointer (some ⟨r, 0, none⟩), .int .i64 v] w fun e w' => ∃ a k c cs, e = .returned (.tuple #[.agg #[.int .i64 M.cap, .slice a k c], .int .i64 Er]) ∧ MedR w' w.heap.size M a k c cs ∧ k ≤ c ∧ Below w.heap.size w w' := by
  unfold RS.medE at hr
  split at hr
  · rename_i hc
    simp only [Prod.mk.injEq] at hr
    obtain ⟨hr, rfl⟩ := hr
    obtain ⟨vn, rfl⟩ := Int.eq_ofNat_of_zero_le hc.1
    exact rob_medium vn M w h (by have := hc.2; omega) hr
  · rename_i hc
    simp only [Prod.mk.injEq] at hr
    obtain ⟨rfl, rfl⟩ := hr
    refine (rob_medium_arg v w h (by omega)).mono ?_
    rintro e w2 ⟨rfl, hb⟩
    exact ⟨none, 0, 0, [], rfl, MedR.none _ _, Nat.le_refl _, hb⟩
theorem rrob_medE {v Er : Int} {M : Med} (hr : S.medE v = (M, Er)) (w : World) (h : RRobP B Z w rr q S E s) :
    Calls Try.prog 39 #[.pointer (some ⟨rr, 0, none⟩), .int .i64 v] w fun e w' => ∃ a k c cs, e = .returned (.tuple #[.agg #[.int .i64 M.cap, .slice a k c], .int .i64 Er]) ∧ MedR w' w.heap.size M a k c cs ∧ k ≤ c ∧ Below w.heap.size w w' := by
  unfold RS.medE at hr
  split at hr
  · rename_i hc
    simp only [Prod.mk.injEq] at hr
    obtain ⟨hr, rfl⟩ := hr
    obtain ⟨vn, rfl⟩ := Int.eq_ofNat_of_zero_le hc.1
    exact rrob_medium vn M w h (by have := hc.2; omega) hr
  · rename_i hc
    simp only [Prod.mk.injEq] at hr
    obtain ⟨rfl, rfl⟩ := hr
    refine (rrob_medium_arg v w h (by omega)).mono ?_
    rintro e w2 ⟨rfl, hb⟩
    exact ⟨none, 0, 0, [], rfl, MedR.none _ _, Nat.le_refl _, hb⟩
end Go.Proofs.Ytmaagkdehdmhlaa

/- Acts of three numbers, bytes and a number (cellarerlaw12.Act, cellarerlaw13.Act), as they lie. -/
namespace Go.Proofs.Ytmaagkdehdmhlaa
open Go.RowKit
/-- An act, as it lies. -/
structure Act5 where
  what : Int
  n : Int
  m : Int
  b : Bsl
  torn : Int
def Act5.cells (x : Act5) : List Value := [.int .i64 x.what, .int .i64 x.n, .int .i64 x.m, .slice x.b.a x.b.l.length x.b.c, .int .i64 x.torn]
theorem Act5.len (x : Act5) : x.cells.length = 5 := rfl
def Act5.ok (w : World) (x : Act5) : Prop := x.b.ok w ∧ x.b.l.length ≤ x.b.c ∧ (Lit.int .i64 x.n).wf = true ∧ (Lit.int .i64 x.m).wf = true ∧ (Lit.int .i64 x.torn).wf = true
structure A5Mat (w : World) (a : Option Addr) (l : List Act5) : Prop where
  src : Src w a (flt Act5.cells l)
  ok : ∀ y ∈ l, y.ok w
end Go.Proofs.Ytmaagkdehdmhlaa

/- cellarerlaw13.Heavy. -/
namespace Go.Proofs.Ytmaagkdehdmhlaa
open Go.RowKit
/-- The acts that are played are no more than the law plays. -/
def Light13 (l : List Act5) : Prop := l.length ≤ 160 ∧ ∀ (i : Nat) (h : i < l.length), i < 40 → l[i].b.l.length ≤ 300

set_option maxRecDepth 100000 in
set_option maxHeartbeats 1600000 in
theorem heavy13 (a : Option Addr) (c n : Nat) (l : List Act5) (w : World) (hs : Src w a (flt Act5.cells l)) (hn : n = l.length) (hn2 : n ≤ 9223372036854775807) :
    Calls Try.prog 4 #[.slice a n c] w fun e w' => (e = .returned (.bool true) ∧ Below w.heap.size w w') ∨ (e = .returned (.bool false) ∧ Below w.heap.size w w' ∧ Light13 l) := by
  have Hs := Lib.hid hs
  have Hn := Lib.hid hn
  clear hs hn
  by_cases h160 : n ≤ 160
  · have h160' : ¬ 160 < n := by omega
    go_enter Try.func4, Try.ntmps4
    go_wp2_with fail
    go_loopw [3] (fun i wr => ∃ (k : Nat), k ≤ n ∧ i = .int .i64 (k : Int) ∧ Below w.heap.size w wr ∧ (∀ (j : Nat) (h : j < l.length), j < k → j < 40 → l[j].b.l.length ≤ 300)) (fun i _ => n - (intOf i).toNat)
    case atStart => exact ⟨0, by omega, rfl, Below.refl _ _, fun j _ h => by omega⟩
    case round =>
      rename_i wr
      obtain ⟨k, hk, rfl, hbr, hall⟩ := hrel
      have Hall := Lib.hid hall
      clear hall
      by_cases hlt : k < n
      · by_cases h40 : k < 40
        · have hkl : k < l.length := by have := Hn.out; omega
          obtain ⟨b, o, rfl, hlb, hat⟩ := Hs.out.elem Act5.len (by decide) hkl
          have q3 := hat k hkl 3 _ rfl
          obtain ⟨x, hx⟩ : ∃ x, x = l[k] := ⟨_, rfl⟩
          rw [← hx] at q3
          have Hx := Lib.hid hx
          have c3 := (World.cell?_of_block (w := w) (a := ⟨b, o + k * 5 + 3, none⟩) (hbr.block b hlb)).trans q3
          clear hat q3 hx
          by_cases h3 : x.b.l.length ≤ 300
          · have g3 : ¬ 300 < x.b.l.length := by omega
            go_wp2_with fail
            go_roundw
            case rel =>
              refine ⟨k + 1, by omega, by go_num, hbr, fun j hj hjk hj40 => ?_⟩
              by_cases hjk' : j = k
              · subst hjk'
                rw [← Hx.out]
                exact h3
              · exact Hall.out j hj (by omega) hj40
            case measure => simp [intOf]; omega
          · have g3 : 300 < x.b.l.length := by omega
            go_wp2
            go_ret
            exact .inl ⟨rfl, hbr⟩
        · go_wp2
          go_ret
          exact .inr ⟨rfl, hbr, ⟨by rw [← Hn.out]; exact h160, fun j hj hj40 => Hall.out j hj (by omega) hj40⟩⟩
      · go_wp2
        go_ret
        exact .inr ⟨rfl, hbr, ⟨by rw [← Hn.out]; exact h160, fun j hj hj40 => Hall.out j hj (by have := Hn.out; omega) hj40⟩⟩
  · have h160' : 160 < n := by omega
    go_enter Try.func4, Try.ntmps4
    go_wp2
    go_ret
    exact .inl ⟨rfl, Below.refl _ _⟩
end Go.Proofs.Ytmaagkdehdmhlaa

/- SpoilBytes of bytes of one's own, made between two worlds. -/
namespace Go.Proofs.Ytmaagkdehdmhlaa
open Go.RowKit

set_option maxHeartbeats 1000000 in
theorem spoilIn_nil (a : Option Addr) (c : Nat) (w : World) :
    Calls Try.prog 45 #[.slice a 0 c] w fun e w' => e = .returned (.tuple #[]) ∧ Below w.heap.size w w' := by
  go_enter Try.func45, Try.ntmps45
  go_wp2_with fail
  go_loopw [2] (fun i wr => i = .int .i64 0 ∧ Below w.heap.size w wr) (fun i _ => 0)
  case atStart => exact ⟨rfl, Below.refl _ _⟩
  case round =>
    rename_i wr
    obtain ⟨rfl, hb⟩ := hrel
    go_wp2
    go_end0
    exact ⟨rfl, hb⟩
/-- Bytes from B on, below N. -/
def BF (B N : Nat) : Nat → TypeId → Prop := fun b T => B ≤ b ∧ b < N ∧ T = 5
theorem spoil_in {B : Nat} {w2 w : World} {a : Option Addr} {c n : Nat} {l : List Byte} (ho2 : Own w2 B 5 1 a n c (bvs l)) (ho : Own w B 5 1 a n c (bvs l)) (hn : n = l.length) (hl : n ≤ 140737488355328) :
    Calls Try.prog 45 #[.slice a n c] w fun e w' => e = .returned (.tuple #[]) ∧ Mod (BF B w2.heap.size) w w' := by
  obtain ⟨hl2, ⟨rfl, rfl⟩ | ⟨g, cur, ha, hb, hh, _⟩⟩ := id ho2
  · exact (spoilIn_nil a 0 w).mono fun e w' ⟨he, hb⟩ => ⟨he, bmod hb _⟩
  · refine (spoil_mod B a c n l w ho hn hl).mono fun e w' ⟨he, hm, _⟩ => ⟨he, hm.mono fun b T _ hf => ?_⟩
    obtain ⟨h1, h2⟩ := hf
    rw [ha] at h1
    simp only [Option.some.injEq, Addr.mk.injEq, and_self, and_true] at h1
    subst h1
    exact ⟨hb, heap_lt hh, h2⟩
end Go.Proofs.Ytmaagkdehdmhlaa
