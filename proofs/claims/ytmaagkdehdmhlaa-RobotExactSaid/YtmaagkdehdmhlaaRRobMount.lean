/- The page's Mount. -/
import Derived.Test.YtmaagkdehdmhlaaRobotExactPartU
import Derived.Test.YtmaagkdehdmhlaaRobMount2
import Derived.Test.YtmaagkdehdmhlaaRobotExactPartN
import Derived.Test.YtmaagkdehdmhlaaRegionLast
import Derived.Test.YtmaagkdehdmhlaaRegionChainL
import Derived.BigQuiet
namespace Go.Proofs.Ytmaagkdehdmhlaa
open Go.RowKit

/-- The best drive of the first k. -/
def bestN (l : List Bay) (k : Nat) : Nat := ((l.take k).findIdx? fun b => decide (b.vol < 0)).getD (amin l k)
def bestI (l : List Bay) (k : Nat) : Int := if k = 0 then -1 else (bestN l k : Int)
theorem bestN_all (l : List Bay) : bestN l l.length = freeB l := by unfold bestN freeB emptyB; rw [List.take_length]
theorem bestN_one (l : List Bay) (h : 0 < l.length) : bestN l 1 = 0 := by
  unfold bestN
  cases hf : (l.take 1).findIdx? fun b => decide (b.vol < 0) with
  | none => have := amin_le l 1; simp only [Option.getD_none]; omega
  | some i =>
    rw [List.findIdx?_eq_some_iff_getElem] at hf
    obtain ⟨hi, _⟩ := hf
    rw [List.length_take] at hi
    simp only [Option.getD_some]; omega
theorem bestN_lt (l : List Bay) {k : Nat} (h : 0 < k) : bestN l k < k := by
  unfold bestN
  cases hf : (l.take k).findIdx? fun b => decide (b.vol < 0) with
  | none => have := amin_le l k; simp only [Option.getD_none]; omega
  | some i =>
    rw [List.findIdx?_eq_some_iff_getElem] at hf
    obtain ⟨hi, _⟩ := hf
    rw [List.length_take] at hi
    simp only [Option.getD_some]; omega
theorem bestN_step {l : List Bay} {k : Nat} {b c : Bay} (h0 : 0 < k) (hb : l[k]? = some b) (hc : l[bestN l k]? = some c) : bestN l (k + 1) = if 0 ≤ c.vol ∧ (b.vol < 0 ∨ b.asked < c.asked) then k else bestN l k := by
  have hk := (List.getElem?_eq_some_iff.1 hb).1
  have ht : l.take (k + 1) = l.take k ++ [b] := by rw [List.take_succ_eq_append_getElem hk]; rw [List.getElem?_eq_getElem hk] at hb; rw [Option.some.inj hb]
  cases hf : (l.take k).findIdx? fun b => decide (b.vol < 0) with
  | some i =>
    have h1 : bestN l k = i := by unfold bestN; rw [hf]; rfl
    have h2 : bestN l (k + 1) = i := by unfold bestN; rw [ht, List.findIdx?_append, hf]; rfl
    rw [h1] at hc
    rw [List.findIdx?_eq_some_iff_getElem] at hf
    obtain ⟨hi, hp, _⟩ := hf
    have hcv : c.vol < 0 := by
      have : (l.take k)[i]? = some c := by rw [List.getElem?_take, if_pos (by rw [List.length_take] at hi; omega)]; exact hc
      rw [List.getElem?_eq_getElem hi] at this
      rw [← Option.some.inj this]
      simpa using hp
    rw [h2, h1, if_neg (by omega)]
  | none =>
    have h1 : bestN l k = amin l k := by unfold bestN; rw [hf]; rfl
    rw [h1] at hc ⊢
    rw [List.findIdx?_eq_none_iff] at hf
    have hlt : amin l k < k := by have := amin_le l k; omega
    have hcv : 0 ≤ c.vol := by
      have hm : (l.take k)[amin l k]? = some c := by rw [List.getElem?_take, if_pos hlt]; exact hc
      have := hf c (List.mem_of_getElem? hm)
      simpa using this
    have h3 : bestN l (k + 1) = if b.vol < 0 then k else amin l (k + 1) := by
      unfold bestN
      rw [ht, List.findIdx?_append, List.findIdx?_eq_none_iff.2 hf]
      by_cases hbv : b.vol < 0
      · rw [if_pos hbv]
        simp [List.findIdx?_cons, hbv]; omega
      · rw [if_neg hbv]
        simp [List.findIdx?_cons, hbv]
    have h4 : amin l (k + 1) = if b.asked < c.asked then k else amin l k := by
      rw [amin, getD_of _ hb, getD_of _ hc]
    rw [h3, h4]
    by_cases hbv : b.vol < 0
    · rw [if_pos hbv, if_pos ⟨hcv, .inl hbv⟩]
    · rw [if_neg hbv]
      by_cases hba : b.asked < c.asked
      · rw [if_pos hba, if_pos ⟨hcv, .inr hba⟩]
      · rw [if_neg hba, if_neg (by rintro ⟨_, h | h⟩ <;> omega)]

variable {B : Nat} {Z : Nat → Prop} {w w' : World} {r q : Nat} {S : RS} {V : RRV} {D : Nat → Nat} {s : PS}
set_option maxRecDepth 100000 in
set_option maxHeartbeats 1000000 in
theorem rrob_mount_off (v : Int) (w : World) (h : RRobP B Z w r q S D s) (hs : s.off = true) :
    Calls Try.prog 25 #[.pointer (some ⟨r, 0, none⟩), .int .i64 v] w fun e w' => e = .returned (.tuple #[.pointer none, .int .i64 5]) ∧ w = w' := by
  obtain ⟨⟨V, h1, h2⟩, hok, hp⟩ := h
  obtain ⟨q0, q1, q2, q3, q4, q5, q6, hfr, hlr⟩ := h1.cells
  obtain ⟨armed, ta, tn, tc, tear, ka, kc, hq⟩ := hp
  have p0 := cell_of_row _ q 0 _ _ _ hq.obj
  rw [hs] at p0
  clear h1 h2 hok hq hs
  go_enter Try.func25, Try.ntmps25
  go_wp2
  go_ret2
  exact ⟨rfl, rfl⟩
set_option maxRecDepth 100000 in
set_option maxHeartbeats 1000000 in
theorem rrob_mount_arg (v : Int) (w : World) (h : RRobP B Z w r q S D s) (hs : s.off = false) (hv : v < 0 ∨ (S.vols.length : Int) ≤ v) :
    Calls Try.prog 25 #[.pointer (some ⟨r, 0, none⟩), .int .i64 v] w fun e w' => e = .returned (.tuple #[.pointer none, .int .i64 1]) ∧ w = w' := by
  obtain ⟨⟨V, h1, h2⟩, hok, hp⟩ := h
  obtain ⟨q0, q1, q2, q3, q4, q5, q6, hfr, hlr⟩ := h1.cells
  obtain ⟨armed, ta, tn, tc, tear, ka, kc, hq⟩ := hp
  have p0 := cell_of_row _ q 0 _ _ _ hq.obj
  rw [hs] at p0
  obtain ⟨n, hn⟩ : ∃ n, n = S.vols.length := ⟨_, rfl⟩
  rw [← hn] at q1 hv
  clear h1 h2 hok hq hs hn
  by_cases h0 : v < 0
  · clear hv
    go_enter Try.func25, Try.ntmps25
    go_wp2
    go_ret2
    exact ⟨rfl, rfl⟩
  · have h1 : (n : Int) ≤ v := by omega
    clear hv
    go_enter Try.func25, Try.ntmps25
    go_wp2
    go_ret2
    exact ⟨rfl, rfl⟩
/-- The clock goes on. -/
theorem RRbL.clock (h : RRbL B Z w r q S V) : RRbL B Z (w.setCell ⟨r, 5, none⟩ (.int .i64 (S.asked + 1))) r q { S with asked := S.asked + 1 } V ∧ Mod (RR0 B Z) w (w.setCell ⟨r, 5, none⟩ (.int .i64 (S.asked + 1))) := by
  have hx := h.raw.putClock (S.asked + 1)
  exact ⟨RRaw.rob hx.1 h.len.symm h.bays h.nts (fun x hx => (h.tape x hx).2) h.vol (fun i x hi hv => by
    obtain ⟨a, k, c, cs, hd, hz⟩ := h.drv i x hi hv
    exact ⟨a, k, c, cs, rdr_rr0 hd hz hx.2, hz⟩) h.one, hx.2⟩
/-- A drive that is asked for anew. -/
theorem RRbL.askedAt {gU i : Nat} {b : Bay} {t : Int} (h : RRbL B Z w r q S V) (hU : V.aU = some ⟨gU, 0, none⟩) (hi : S.bays[i]? = some b) : ∃ V', RRbL B Z (w.setCell ⟨gU, i, none⟩ (.int .i64 t)) r q { S with bays := S.bays.modify i fun b => { b with asked := t } } V' ∧ (∀ (j : Nat) (y : BayV), V'.bs[j]? = some y → ∃ z, V.bs[j]? = some z ∧ y.d = z.d ∧ y.b.vol = z.b.vol) ∧ V'.aD = V.aD ∧ Mod (RR0 B Z) w (w.setCell ⟨gU, i, none⟩ (.int .i64 t)) := by
  have hil := (List.getElem?_eq_some_iff.1 hi).1
  have hx := h.raw.putU hU hil (.int .i64 t)
  have hkey : ∀ (j : Nat) (y : BayV), (V.bs.modify i fun x => ⟨{ x.b with asked := t }, x.d⟩)[j]? = some y → ∃ z, V.bs[j]? = some z ∧ y.d = z.d ∧ y.b.vol = z.b.vol := fun j y hy => bays_mod hy
  refine ⟨{ V with bs := V.bs.modify i fun x => ⟨{ x.b with asked := t }, x.d⟩ }, ?_, hkey, rfl, hx.2⟩
  have hmp : ∀ {β : Type} (f : BayV → β), (∀ x : BayV, f ⟨{ x.b with asked := t }, x.d⟩ = f x) → (V.bs.modify i fun x => ⟨{ x.b with asked := t }, x.d⟩).map f = V.bs.map f := by
    intro β f hf
    apply List.ext_getElem?
    intro j
    simp only [List.getElem?_map, List.getElem?_modify]
    cases V.bs[j]? with
    | none => rfl
    | some x => by_cases hij : i = j <;> simp [hij, hf]
  have hmu : (V.bs.modify i fun x => ⟨{ x.b with asked := t }, x.d⟩).map BayV.used = (V.bs.map BayV.used).set i (.int .i64 t) := by
    apply List.ext_getElem?
    intro j
    simp only [List.getElem?_map, List.getElem?_modify, List.getElem?_set]
    have hl := h.len
    by_cases hij : i = j
    · subst hij
      rw [List.getElem?_eq_getElem (by omega)]
      simp [BayV.used]; omega
    · cases V.bs[j]? <;> simp [hij]
  refine RRaw.rob (n := S.bays.length) (V := { V with bs := V.bs.modify i fun x => ⟨{ x.b with asked := t }, x.d⟩ }) ?_ (by simp [h.len]) ?_ h.nts (fun x hx => (h.tape x hx).2) (fun v hv hf => h.vol v hv ?_) (fun j x hx2 hv => ?_) (fun j l x y hx2 hy2 h1 h2 he => ?_)
  · show RRaw _ _ _ _ _ _ _ (List.map BayV.ptr (V.bs.modify i fun x => ⟨{ x.b with asked := t }, x.d⟩)) (List.map BayV.held (V.bs.modify i fun x => ⟨{ x.b with asked := t }, x.d⟩)) (List.map BayV.used (V.bs.modify i fun x => ⟨{ x.b with asked := t }, x.d⟩)) _ _
    rw [hmp BayV.ptr (fun x => rfl), hmp BayV.held (fun x => rfl), hmu]
    obtain ⟨a1, a2, a3, a4, a5, a6, a7, a8, a9⟩ := hx.1
    exact ⟨a1, a2, a3, a4, a5, a6, a7, a8, a9⟩
  · show S.bays.modify i _ = _
    rw [h.bays]
    apply List.ext_getElem?
    intro j
    simp only [List.getElem?_map, List.getElem?_modify]
    cases V.bs[j]? with
    | none => rfl
    | some x => by_cases hij : i = j <;> simp [hij]
  · refine findV_none_of fun b' hb' he => ?_
    obtain ⟨j, hj, rfl⟩ := List.mem_iff_getElem.1 hb'
    refine findV_none hf (if i = j then { S.bays[j] with asked := t } else S.bays[j]) ?_ (by split <;> exact he)
    refine List.mem_iff_getElem.2 ⟨j, by simpa using hj, ?_⟩
    simp only [List.getElem_modify]
  · obtain ⟨z, hz, e1, e2⟩ := hkey j x hx2
    obtain ⟨a, k, c, cs, hd, hzz⟩ := h.drv j z hz (by rw [← e2]; exact hv)
    have hxz : x.b.M = z.b.M ∧ x.b.at_ = z.b.at_ := by
      have hx3 : (V.bs.modify i fun x => ⟨{ x.b with asked := t }, x.d⟩)[j]? = some x := hx2
      rw [List.getElem?_modify, hz] at hx3
      by_cases hij : i = j <;> simp [hij] at hx3 <;> rw [← hx3] <;> exact ⟨rfl, rfl⟩
    rw [e1, hxz.1, hxz.2]
    exact ⟨a, k, c, cs, rdr_rr0 hd hzz hx.2, hzz⟩
  · obtain ⟨z1, a1, b1, c1⟩ := hkey j x hx2
    obtain ⟨z2, a2, b2, c2⟩ := hkey l y hy2
    exact h.one j l z1 z2 a1 a2 (by rw [← c1]; exact h1) (by rw [← c2]; exact h2) (by rw [← b1, ← b2, he])
/-- The row of tapes where the drive's tape has gone back. -/
structure TapesTo (S : RS) (V : RRV) (b : Bay) (V2 : RRV) (vs : List Med) : Prop where
  eq : ∃ ts2, V2 = { V with ts := ts2 }
  len : V2.ts.length = S.vols.length
  ok : ∀ x ∈ V2.ts, x.M.ok = true ∧ x.M.cap = S.size
  vol : ∀ v : Nat, v < S.vols.length → (findV v S.bays = none ∨ b.vol = v) → ∃ x, V2.ts[v]? = some x ∧ vs[v]? = some x.M
theorem TapesTo.none {b : Bay} (h : RRbL B Z w r q S V) (hb : b.vol < 0) : TapesTo S V b V S.vols :=
  ⟨⟨V.ts, rfl⟩, h.nts, fun x hx => (h.tape x hx).2, fun v hv hf => h.vol v hv (hf.resolve_right (by omega))⟩
theorem TapesTo.set {b : Bay} {u : Nat} {x : TapeV} (h : RRbL B Z w r q S V) (hb : b.vol = u) (hx : x.M = b.M) (hg : x.M.ok = true ∧ x.M.cap = S.size) : TapesTo S V b { V with ts := V.ts.set u x } (S.vols.set u b.M) := by
  refine ⟨⟨_, rfl⟩, by simp only [List.length_set]; exact h.nts, fun y hy => ?_, fun v hv hf => ?_⟩
  · rcases List.mem_or_eq_of_mem_set hy with hy | rfl
    · exact (h.tape y hy).2
    · exact hg
  · by_cases huv : u = v
    · subst huv
      exact ⟨x, by simp [h.nts, hv], by simp [hv, hx]⟩
    · obtain ⟨y, h1, h2⟩ := h.vol v hv (hf.resolve_right (by omega))
      exact ⟨y, by simpa [huv] using h1, by simpa [huv] using h2⟩
theorem rr_mounted {S' : RS} {V2 : RRV} {v i i' n dn kX c2 : Nat} {b : Bay} {vs : List Med} {m : Med} {a2 : Option Addr} {cs2 : List CellV} {wM : World} (hok : S.ok) (h1 : RRbL B Z w r q S V) (h2 : ∀ (i : Nat) (x : BayV), V.bs[i]? = some x → 0 ≤ x.b.vol → x.d = D i) (hfv : findV v S.bays = none) (hfree : freeB S.bays = i)
    (hbi : S.bays[i]? = some b) (hvs : (if b.vol < 0 then S.vols else S.vols.set b.vol.toNat b.M) = vs) (hN : n = S.bays.length)
    (hx : RRaw B Z wM r q V2 n ((V.bs.map BayV.ptr).set i (.pointer (some ⟨dn, 0, none⟩))) ((V.bs.map BayV.held).set i (.int .i64 (v : Int))) ((V.bs.map BayV.used).set i (.int .i64 (S.asked + 1))) (S.asked + 1) (S.mounts + 1))
    (hm : Mod (RR0 B Z) w wM) (hd : RDr B wM dn q m 0 a2 kX c2 cs2) (hz : RowsIn Z a2 kX c2 cs2) (hsz : w.heap.size ≤ dn) (hv2 : TapesTo S V b V2 vs) (hxv : vs[v]? = some m) (hp : RPow B wM q s) (hr : S.mount v = (S', i')) (ha : S.asked < 4000000000000000000) (hv : v < S.vols.length) :
    ∃ D', (Ending.returned (.tuple #[.pointer (some ⟨dn, 0, none⟩), .int .i64 0])) = .returned (.tuple #[.pointer (some ⟨D' i', 0, none⟩), .int .i64 0]) ∧ RRobP B Z wM r q S' D' s ∧ Mod (RRF B Z) w wM := by
  subst hN
  have hil := (List.getElem?_eq_some_iff.1 hbi).1
  have hlen := h1.len
  rw [RS.mount_none hfv hfree hbi hvs hxv] at hr
  simp only [Prod.mk.injEq] at hr
  obtain ⟨rfl, rfl⟩ := hr
  have hok' := RS.mounted_ok hok ha hv hfv hbi hvs hxv
  obtain ⟨ts2, rfl⟩ := hv2.eq
  refine ⟨fun j => if j = i then dn else D j, by simp, ⟨⟨{ V with ts := ts2, bs := V.bs.set i ⟨⟨v, S.asked + 1, m, 0⟩, dn⟩ }, ?_, fun j x hx2 hxv2 => ?_⟩, hok'.1, hp⟩, RR0.rrf hm⟩
  · refine RRaw.rob (n := S.bays.length) (V := { V with ts := ts2, bs := V.bs.set i ⟨⟨v, S.asked + 1, m, 0⟩, dn⟩ }) ?_ (by simp [h1.len]) ?_ ?_ hv2.ok (fun v' hv' hf => ?_) (fun j x hx2 hxv2 => ?_) (fun j l x y hx2 hy2 e1 e2 he => ?_)
    · show RRaw _ _ _ _ _ _ _ (List.map BayV.ptr (V.bs.set i ⟨⟨v, S.asked + 1, m, 0⟩, dn⟩)) (List.map BayV.held (V.bs.set i ⟨⟨v, S.asked + 1, m, 0⟩, dn⟩)) (List.map BayV.used (V.bs.set i ⟨⟨v, S.asked + 1, m, 0⟩, dn⟩)) _ _
      have e1 : BayV.ptr ⟨⟨v, S.asked + 1, m, 0⟩, dn⟩ = .pointer (some ⟨dn, 0, none⟩) := by unfold BayV.ptr; rw [if_neg (by simp)]
      rw [List.map_set, List.map_set, List.map_set, e1]
      obtain ⟨a1, a2, a3, a4, a5, a6, a7, a8, a9⟩ := hx
      exact ⟨a1, a2, a3, a4, a5, a6, a7, a8, a9⟩
    · show S.bays.set i _ = _
      rw [h1.bays, List.map_set]
    · have hvl : vs.length = S.vols.length := by rw [← hvs]; split <;> simp
      show ts2.length = vs.length
      rw [hvl]; exact hv2.len
    · have hvl : vs.length = S.vols.length := by rw [← hvs]; split <;> simp
      have hf' : findV v' (S.bays.set i ⟨v, S.asked + 1, m, 0⟩) = none := hf
      refine hv2.vol v' (by have : v' < vs.length := hv'; omega) ?_
      by_cases hbv : b.vol = v'
      · exact .inr hbv
      · refine .inl (findV_none_of fun b' hb' he => ?_)
        obtain ⟨j, hj, rfl⟩ := List.mem_iff_getElem.1 hb'
        by_cases hij : i = j
        · subst hij
          rw [List.getElem?_eq_getElem hj] at hbi
          rw [Option.some.inj hbi] at he
          exact hbv he
        · exact findV_none hf' S.bays[j] (List.mem_iff_getElem.2 ⟨j, by simpa using hj, by simp [hij]⟩) he
    · have hx3 : (V.bs.set i ⟨⟨v, S.asked + 1, m, 0⟩, dn⟩)[j]? = some x := hx2
      rw [List.getElem?_set] at hx3
      by_cases hij : i = j
      · subst hij
        rw [if_pos rfl, if_pos (by omega)] at hx3
        obtain rfl := Option.some.inj hx3
        exact ⟨a2, kX, c2, cs2, hd, hz⟩
      · rw [if_neg hij] at hx3
        obtain ⟨a, k, c, cs, hd2, hz2⟩ := h1.drv j x hx3 hxv2
        exact ⟨a, k, c, cs, rdr_rr0 hd2 hz2 hm, hz2⟩
    · have key : ∀ (j : Nat) (x : BayV), (V.bs.set i ⟨⟨v, S.asked + 1, m, 0⟩, dn⟩)[j]? = some x → 0 ≤ x.b.vol → (j = i ∧ x.d = dn) ∨ (j ≠ i ∧ V.bs[j]? = some x ∧ x.d < w.heap.size) := by
        intro j x hx2 hxv2
        rw [List.getElem?_set] at hx2
        by_cases hij : i = j
        · subst hij
          rw [if_pos rfl, if_pos (by omega)] at hx2
          obtain rfl := Option.some.inj hx2
          exact .inl ⟨rfl, rfl⟩
        · rw [if_neg hij] at hx2
          obtain ⟨a, k, c, cs, hd2, hz2⟩ := h1.drv j x hx2 hxv2
          exact .inr ⟨fun h => hij h.symm, hx2, heap_lt hd2.obj⟩
      rcases key j x hx2 e1 with ⟨r1, r2⟩ | ⟨r1, r2, r3⟩
      · rcases key l y hy2 e2 with ⟨t1, t2⟩ | ⟨t1, t2, t3⟩
        · rw [r1, t1]
        · omega
      · rcases key l y hy2 e2 with ⟨t1, t2⟩ | ⟨t1, t2, t3⟩
        · omega
        · exact h1.one j l x y r2 t2 e1 e2 he
  · have hx3 : (V.bs.set i ⟨⟨v, S.asked + 1, m, 0⟩, dn⟩)[j]? = some x := hx2
    rw [List.getElem?_set] at hx3
    by_cases hij : i = j
    · subst hij
      rw [if_pos rfl, if_pos (by omega)] at hx3
      obtain rfl := Option.some.inj hx3
      simp
    · rw [if_neg hij] at hx3
      show x.d = if j = i then dn else D j
      rw [if_neg (fun h => hij h.symm)]
      exact h2 j x hx3 hxv2
theorem own_at0' {e : TypeId} {k n c x : Nat} {a : Option Addr} {xs : List Value} (h : Own w B e k a n c xs) (ha : a = some ⟨x, 0, none⟩) (hn : 0 < n) : ∃ cur, w.heap[x]? = some (.cells cur e (0, 0)) := by
  subst ha
  obtain ⟨_, ⟨h0, _⟩ | ⟨g, cur, ha, hb, hh, _⟩⟩ := h
  · omega
  · simp only [Option.some.injEq, Addr.mk.injEq, and_self, and_true] at ha
    subst ha
    exact ⟨cur, hh⟩
theorem tape_raw {n : Nat} {pD pH pU : List Value} {asked mounts : Int} {v : Nat} (h : RRaw B Z w r q V n pD pH pU asked mounts) (hl : V.ts.length = S.vols.length) (hok : ∀ x ∈ V.ts, x.M.ok = true ∧ x.M.cap = S.size) (hv : v < S.vols.length) : ∃ gV x, V.aV = some ⟨gV, 0, none⟩ ∧ gV < w.heap.size ∧ V.ts[v]? = some x ∧ w.cell? ⟨gV, v * 2, none⟩ = some (.int .i64 x.M.cap) ∧ w.cell? ⟨gV, v * 2 + 1, none⟩ = some (.slice x.a x.k x.c) ∧ TapeIn B Z w x ∧ x.M.ok = true ∧ x.M.cap = S.size ∧ True := by
  have hv2 : v < V.ts.length := by rw [hl]; exact hv
  obtain ⟨gV, eV, _, lV, hat, _⟩ := h.rowV.elem TapeV.len (by decide) hv2
  have ht := h.tape _ (List.getElem_mem hv2)
  have ho := hok _ (List.getElem_mem hv2)
  exact ⟨gV, V.ts[v], eV, lV, List.getElem?_eq_getElem hv2, hat 0 _ rfl, hat 1 _ rfl, ht, ho.1, ho.2, trivial⟩

set_option maxRecDepth 100000 in
set_option maxHeartbeats 16000000 in
theorem rrob_mount {v : Nat} {S' : RS} {i' : Nat} (hr : S.mount v = (S', i')) (w : World) (h : RRobP B Z w r q S D s) (hu : Up B Z w) (hs : s.off = false) (hv : v < S.vols.length) (ha : S.asked < 4000000000000000000) :
    Calls Try.prog 25 #[.pointer (some ⟨r, 0, none⟩), .int .i64 v] w fun e w' => ∃ D', e = .returned (.tuple #[.pointer (some ⟨D' i', 0, none⟩), .int .i64 0]) ∧ RRobP B Z w' r q S' D' s ∧ Mod (RRF B Z) w w' := by
  obtain ⟨⟨V, h1, h2⟩, hok, hp⟩ := h
  obtain ⟨h3, hm3⟩ := h1.clock
  have HP := Lib.hid hp
  have HUp := Lib.hid hu
  have HOK := Lib.hid hok
  have H2D := Lib.hid h2
  have H0 := Lib.hid h1
  have H1 := Lib.hid h3
  have HM1 := Lib.hid hm3
  have Hr := Lib.hid hr
  obtain ⟨r0, r1, r2, r3, r4, r5, _, fr, lr⟩ := h1.cells
  obtain ⟨armed, ta, tn, tc, tear, ka, kc, hq⟩ := hp
  have p0 := cell_of_row _ q 0 _ _ _ hq.obj
  rw [hs] at p0
  obtain ⟨n, hn⟩ : ∃ n, n = S.bays.length := ⟨_, rfl⟩
  obtain ⟨N, hN⟩ : ∃ N, N = S.vols.length := ⟨_, rfl⟩
  have HN := Lib.hid hn.symm
  have HNv := Lib.hid hN.symm
  have hn0 : 0 < n ∧ n ≤ 4 := by have := hok.drives; omega
  have hvN : v < N ∧ N ≤ 8 := by have := hok.vols; omega
  have hwa : IntKind.i64.wrap (S.asked + 1) = S.asked + 1 := by have := hok.asked; rw [IntKind.wrap_i64]; omega
  have e0 : decide ((v : Int) < 0) = false := by simp
  have e1 : decide ((v : Int) ≥ (N : Int)) = false := by simp; omega
  have e2 : decide ((N : Int) ≤ (v : Int)) = false := by simp; omega
  have e3 : decide (N ≤ v) = false := by simp; omega
  rw [← hN] at r1
  obtain ⟨gD, gH, gU, y0, eD, eH, eU, hre1⟩ := h1.at (i := 0) (b := S.bays[0]) (List.getElem?_eq_getElem (by omega))
  obtain ⟨gV, y1, eV, hre2⟩ := h1.tapeAt hv
  have HgD := Lib.hid eD
  have HgH := Lib.hid eH
  have HgU := Lib.hid eU
  have HgV := Lib.hid eV
  clear hre1 hre2 y0 y1
  clear h1 h2 h3 hm3 hok hq hs hr hn hN eD eH eU eV hu
  go_enter Try.func25, Try.ntmps25
  go_wp2_with fail
  clear r0 r1 r2 r3 r4 r5 fr lr e0 e1 e2 e3 hwa p0
  generalize w.setCell ⟨r, 5, none⟩ (.int .i64 (S.asked + 1)) = w1 at *
  obtain ⟨cD, hcD⟩ : ∃ c, c = V.cD := ⟨_, rfl⟩
  obtain ⟨cH, hcH⟩ : ∃ c, c = V.cH := ⟨_, rfl⟩
  obtain ⟨cU, hcU⟩ : ∃ c, c = V.cU := ⟨_, rfl⟩
  obtain ⟨cV, hcV⟩ : ∃ c, c = V.cV := ⟨_, rfl⟩
  have HcD := Lib.hid hcD
  have HcH := Lib.hid hcH
  have HcU := Lib.hid hcU
  have HcV := Lib.hid hcV
  clear hcD hcH hcU hcV
  obtain ⟨qz0, q1, q2, q3, q4, q5, qz6, hfr, hlr⟩ := H1.out.cells
  clear qz0 qz6
  change w1.cell? ⟨r, 1, none⟩ = some (.slice V.aV S.vols.length V.cV) at q1
  change w1.cell? ⟨r, 2, none⟩ = some (.slice V.aD S.bays.length V.cD) at q2
  change w1.cell? ⟨r, 3, none⟩ = some (.slice V.aH S.bays.length V.cH) at q3
  change w1.cell? ⟨r, 4, none⟩ = some (.slice V.aU S.bays.length V.cU) at q4
  change w1.cell? ⟨r, 5, none⟩ = some (.int .i64 (S.asked + 1)) at q5
  rw [HgV.out, HNv.out, ← HcV.out] at q1
  rw [HgD.out, HN.out, ← HcD.out] at q2
  rw [HgH.out, HN.out, ← HcH.out] at q3
  rw [HgU.out, HN.out, ← HcU.out] at q4
  have hbest0 : (-1 : Int) = bestI S.bays 0 := rfl
  go_loopw [6, 7] (fun bv iv wx => ∃ (k : Nat) (wr : World), wr = wx ∧ Below w1.heap.size w1 wr ∧ k ≤ n ∧ iv = .int .i64 (k : Int) ∧ bv = .int .i64 (bestI S.bays k) ∧ ∀ (j : Nat) (b : Bay), j < k → S.bays[j]? = some b → b.vol ≠ (v : Int)) (fun _ iv _ => n - (intOf iv).toNat)
  case atStart => exact ⟨0, _, rfl, Below.refl _ _, by omega, rfl, rfl, fun j b h => by omega⟩
  case round =>
    obtain ⟨k, wr, hwr, hbr, hk, rfl, rfl, hno⟩ := hrel
    subst hwr
    have Hno := Lib.hid hno
    have HBR := Lib.hid hbr
    have H1w := Lib.hid (H1.out.ext hbr)
    have HM1w := Lib.hid (HM1.out.ext hbr)
    clear hno hbest0 hbr H1 HM1 q1 q2 q3 q4 q5 hfr hlr
    have H1 := H1w
    have HM1 := HM1w
    clear H1w HM1w
    obtain ⟨qz0, q1, q2, q3, q4, q5, qz6, hfr, hlr⟩ := H1.out.cells
    clear qz0 qz6
    change wr.cell? ⟨r, 1, none⟩ = some (.slice V.aV S.vols.length V.cV) at q1
    change wr.cell? ⟨r, 2, none⟩ = some (.slice V.aD S.bays.length V.cD) at q2
    change wr.cell? ⟨r, 3, none⟩ = some (.slice V.aH S.bays.length V.cH) at q3
    change wr.cell? ⟨r, 4, none⟩ = some (.slice V.aU S.bays.length V.cU) at q4
    change wr.cell? ⟨r, 5, none⟩ = some (.int .i64 (S.asked + 1)) at q5
    rw [HgV.out, HNv.out, ← HcV.out] at q1
    rw [HgD.out, HN.out, ← HcD.out] at q2
    rw [HgH.out, HN.out, ← HcH.out] at q3
    rw [HgU.out, HN.out, ← HcU.out] at q4
    by_cases hkn : k < n
    · obtain ⟨b, hbk⟩ : ∃ b, S.bays[k]? = some b := ⟨_, List.getElem?_eq_getElem (by have := HN.out; omega)⟩
      obtain ⟨gD', gH', gU', y, eD, eH, eU, lD, lH, lU, hy, hyb, d1, h1, u1, fD, fH, fU, hne⟩ := H1.out.at (i := k) (b := b) hbk
      rw [HgD.out] at eD
      rw [HgH.out] at eH
      rw [HgU.out] at eU
      simp only [Option.some.injEq, Addr.mk.injEq, and_self, and_true] at eD eH eU
      subst eD eH eU
      have Hbk := Lib.hid hbk
      have Hy := Lib.hid hy
      have Hyb := Lib.hid hyb
      clear hbk hy hyb
      by_cases hbv : b.vol = (v : Int)
      · as_aux_lemma =>
          rw [hbv] at h1
          have hfi : findV (v : Int) S.bays = some k := by
            have hkl : k < S.bays.length := by have := HN.out; omega
            refine findV_of hkl (fun j bj hj hb => Hno.out j bj hj hb) ?_
            have := Hbk.out
            rw [List.getElem?_eq_getElem hkl] at this
            rw [Option.some.inj this]; exact hbv
          have hrr := Hr.out
          rw [RS.mount_some hfi] at hrr
          simp only [Prod.mk.injEq] at hrr
          obtain ⟨hS', hi'⟩ := hrr
          have hok2 := RS.asked_ok HOK.out ha Hbk.out
          have HOK2 := Lib.hid hok2
          have HS' := Lib.hid hS'
          have HI' := Lib.hid hi'
          have hyp : y.ptr = .pointer (some ⟨y.d, 0, none⟩) := by
            unfold BayV.ptr
            rw [if_neg (by rw [Hyb.out, hbv]; omega)]
          rw [hyp] at d1
          have hyd := H2D.out k y Hy.out (by rw [Hyb.out, hbv]; omega)
          rw [hyd] at d1
          clear hfi hok2 hS' hi' hyp hyd fD fH fU hbv
          go_wp2_with fail
          refine wp_region_last2 _ _ (by simp only [lastSplit, Option.map_some]; rfl) (by kernel_rfl) [Sp.eq (.pointer (some ⟨r, 0, none⟩)), Sp.eq (.pointer (some ⟨r, 0, none⟩)), Sp.eq (.pointer (some ⟨r, 4, none⟩)), Sp.eq (.slice (some ⟨gU, 0, none⟩) n cU), Sp.eq (.int .i64 (k : Int)), Sp.eq (.pointer (some ⟨r, 0, none⟩)), Sp.eq (.pointer (some ⟨r, 0, none⟩)), Sp.eq (.pointer (some ⟨r, 5, none⟩)), Sp.eq (.int .i64 (S.asked + 1)), Sp.eq (.pointer (some ⟨gU, k, none⟩))] (by kernel_rfl) (by kernel_rfl) ?_ ?_
          · refine stepsOk_cons ?_ (stepsOk_cons ?_ (stepsOk_cons ?_ (stepsOk_cons ?_ (stepsOk_cons ?_ (stepsOk_cons ?_ (stepsOk_cons ?_ (stepsOk_cons ?_ (stepsOk_cons ?_ (stepsOk_cons ?_ (stepsOk_nil))))))))))
            · intro ρ w' E
              have e0 : ρ (.tmp 0) = .pointer (some ⟨r, 0, none⟩) := E.out 0 rfl
              refine step_plain rfl ?_
              exact op_move (.inl rfl) e0 ⟨Below.refl _ _, rfl⟩
            · intro ρ w' E
              have e51 : ρ (.tmp 51) = .pointer (some ⟨r, 0, none⟩) := E.pre 0 rfl
              refine step_plain rfl ?_
              refine op_val (v := .pointer (some ⟨r, 0, none⟩)) (w' := w') ?_ ⟨Below.refl _ _, rfl⟩
              have hcon := E.con
              clear E
              go_simp
            · intro ρ w' E
              have e52 : ρ (.tmp 52) = .pointer (some ⟨r, 0, none⟩) := E.pre 1 rfl
              refine step_plain rfl ?_
              refine op_val (v := .pointer (some ⟨r, 4, none⟩)) (w' := w') ?_ ⟨Below.refl _ _, rfl⟩
              have hcon := E.con
              clear E
              go_simp
            · intro ρ w' E
              have e53 : ρ (.tmp 53) = .pointer (some ⟨r, 4, none⟩) := E.pre 2 rfl
              refine step_plain rfl ?_
              refine op_val (v := .slice (some ⟨gU, 0, none⟩) n cU) (w' := w') ?_ ⟨Below.refl _ _, rfl⟩
              have hk := (World.cell?_of_block (w := wr) (E.below.block _ hlr)).trans q4
              have hcon := E.con
              clear E q1 q2 q3 q4 q5
              go_simp
            · intro ρ w' E
              have e7 : ρ (.tmp 7) = .int .i64 (k : Int) := E.out 7 rfl
              refine step_plain rfl ?_
              exact op_move (.inl rfl) e7 ⟨Below.refl _ _, rfl⟩
            · intro ρ w' E
              have e0 : ρ (.tmp 0) = .pointer (some ⟨r, 0, none⟩) := E.out 0 rfl
              refine step_plain rfl ?_
              exact op_move (.inl rfl) e0 ⟨Below.refl _ _, rfl⟩
            · intro ρ w' E
              have e56 : ρ (.tmp 56) = .pointer (some ⟨r, 0, none⟩) := E.pre 5 rfl
              refine step_plain rfl ?_
              refine op_val (v := .pointer (some ⟨r, 0, none⟩)) (w' := w') ?_ ⟨Below.refl _ _, rfl⟩
              have hcon := E.con
              clear E
              go_simp
            · intro ρ w' E
              have e57 : ρ (.tmp 57) = .pointer (some ⟨r, 0, none⟩) := E.pre 6 rfl
              refine step_plain rfl ?_
              refine op_val (v := .pointer (some ⟨r, 5, none⟩)) (w' := w') ?_ ⟨Below.refl _ _, rfl⟩
              have hcon := E.con
              clear E
              go_simp
            · intro ρ w' E
              have e58 : ρ (.tmp 58) = .pointer (some ⟨r, 5, none⟩) := E.pre 7 rfl
              refine step_plain rfl ?_
              refine op_val (v := .int .i64 (S.asked + 1)) (w' := w') ?_ ⟨Below.refl _ _, rfl⟩
              have hk := (World.cell?_of_block (w := wr) (E.below.block _ hlr)).trans q5
              have hcon := E.con
              clear E q1 q2 q3 q4 q5
              go_simp
            · intro ρ w' E
              have e54 : ρ (.tmp 54) = .slice (some ⟨gU, 0, none⟩) n cU := E.pre 3 rfl
              have e55 : ρ (.tmp 55) = .int .i64 (k : Int) := E.pre 4 rfl
              refine step_plain rfl ?_
              refine op_val (v := .pointer (some ⟨gU, k, none⟩)) (w' := w') ?_ ⟨Below.refl _ _, rfl⟩
              have hcon := E.con
              clear E
              go_simp
          · intro σ w2 hb12 hall
            have h59 : σ 59 = .int .i64 (S.asked + 1) := by obtain ⟨_, _, _, _, _, _, _, _, h, _⟩ := hall; exact h
            have h60 : σ 60 = .pointer (some ⟨gU, k, none⟩) := by obtain ⟨_, _, _, _, _, _, _, _, _, h, _⟩ := hall; exact h
            clear hall
            simp only [upd, updL, dstsOf', elemB, List.filterMap_cons, List.filterMap_nil, Nat.reduceAdd, Nat.reduceBEq, Bool.or_false, Bool.false_or, Bool.or_true, Bool.true_or, cond_true, cond_false, Nat.zero_add, h59, h60]
            have H12 := H1.out.ext hb12
            obtain ⟨V', hV', hkey, hVD, hmU⟩ := H12.askedAt (t := S.asked + 1) HgU.out (i := k) (b := b) Hbk.out
            obtain ⟨gD', gH', gU', y', eD, eH, eU, lD, lH, lU, hy, hyb, d2, h2, u2, fD, fH, fU, hne2⟩ := H12.at (i := k) (b := b) Hbk.out
            rw [HgD.out] at eD
            rw [HgH.out] at eH
            rw [HgU.out] at eU
            simp only [Option.some.injEq, Addr.mk.injEq, and_self, and_true] at eD eH eU
            subst eD eH eU
            have hdt : gU ≠ gD := by
              rintro rfl
              have h1 := H12.rowD
              have h2 := H12.rowU
              obtain ⟨_, hh1⟩ := own_at0' h1 HgD.out (by rw [H12.len]; show 0 < S.bays.length; have := HN.out; omega)
              obtain ⟨_, hh2⟩ := own_at0' h2 HgU.out (by rw [H12.len]; show 0 < S.bays.length; have := HN.out; omega)
              rw [hh1] at hh2
              simp at hh2
            have d3 := (World.cell?_setCell_other (w := w2) (a := ⟨gU, k, none⟩) (b := ⟨gD, k, none⟩) (v := Value.int .i64 (S.asked + 1)) (fun h => hdt (Addr.mk.inj h).1)).trans ((World.cell?_of_block (w := wr) (a := ⟨gD, k, none⟩) (hb12.block gD (by
              exact cell_lt d1))).trans d1)
            have HV' := Lib.hid hV'
            have HK' := Lib.hid hkey
            have HMU := Lib.hid ((HM1.out.ext hb12).trans hmU)
            have fUk := fU k
            have hlD2 := cell_lt d3
            have hrt : gU ≠ r := by
              rintro rfl
              have h2 := H12.rowU
              obtain ⟨_, hh2⟩ := own_at0' h2 HgU.out (by rw [H12.len]; show 0 < S.bays.length; have := HN.out; omega)
              have h3 := H12.obj
              rw [hh2] at h3
              simp at h3
            obtain ⟨_, _, z2, _, _, _, _, _, lrz⟩ := H12.cells
            have z2' := (World.cell?_setCell_other (w := w2) (a := ⟨gU, k, none⟩) (b := ⟨r, 2, none⟩) (v := Value.int .i64 (S.asked + 1)) (fun h => hrt (Addr.mk.inj h).1)).trans z2
            change (World.cell? _ _) = some (Value.slice V.aD S.bays.length V.cD) at z2'
            rw [HgD.out, HN.out] at z2'
            have hsz2 : r < (w2.setCell ⟨gU, k, none⟩ (.int .i64 (S.asked + 1))).heap.size := by rw [World.size_setCell]; exact lrz
            clear hb12 h59 h60 hV' hkey hmU hy hyb d2 h2 fD fH fU hne hne2 d1 h1 u1 q1 q2 q3 q4 q5 H12 z2 hrt hdt
            go_wp2
            go_ret2
            rw [← HS'.out, ← HI'.out]
            refine ⟨D, rfl, ⟨⟨V', HV'.out, fun j x hx hxv => ?_⟩, HOK2.out, HP.out.rr0 HMU.out⟩, RR0.rrf HMU.out⟩
            obtain ⟨zz, hz1, hz2, hz3⟩ := HK'.out j x hx
            rw [hz2]
            exact H2D.out j zz hz1 (by rw [← hz3]; exact hxv)
      · as_aux_lemma =>
          have ebv : (b.vol == (v : Int)) = false := by simpa using hbv
          have hno2 : ∀ (j : Nat) (b : Bay), j < k + 1 → S.bays[j]? = some b → b.vol ≠ (v : Int) := by
            intro j bj hj hb
            by_cases hjk : j = k
            · subst hjk
              rw [Hbk.out] at hb
              rw [← Option.some.inj hb]; exact hbv
            · exact Hno.out j bj (by omega) hb
          have Hno2 := Lib.hid hno2
          clear hno2
          by_cases hk0 : k = 0
          · have hb1 : bestI S.bays (0 + 1) = ((0 : Nat) : Int) := by
              have := bestN_one S.bays (by have := HN.out; omega)
              unfold bestI
              rw [if_neg (by decide), this]
            have hb0 : bestI S.bays 0 = -1 := rfl
            have HB1 := Lib.hid hb1
            have Hk0 := Lib.hid hk0
            rw [hk0, hb0]
            clear hb1 hb0 hbv
            rw [hk0] at h1 u1 hkn hk
            clear hk0
            go_wp2_with fail
            go_quiet (fail)
            go_wp2_with fail
            go_roundw
            case rel => exact ⟨0 + 1, _, rfl, bthen HBR.out (ext_drewN wr _ wr.heap.size) (Nat.le_refl _), by omega, by go_num, by rw [HB1.out], by rw [← Hk0.out]; exact Hno2.out⟩
            case measure => simp [intOf]; omega
          · have hbi : bestI S.bays k = (bestN S.bays k : Int) := by unfold bestI; rw [if_neg hk0]
            have hbi1 : bestI S.bays (k + 1) = (bestN S.bays (k + 1) : Int) := by unfold bestI; rw [if_neg (by omega)]
            have hlt := bestN_lt S.bays (k := k) (by omega)
            obtain ⟨c, hc⟩ : ∃ c, S.bays[bestN S.bays k]? = some c := ⟨_, List.getElem?_eq_getElem (by have := HN.out; omega)⟩
            have hst := bestN_step (by omega) Hbk.out hc
            obtain ⟨gD', gH', gU', y', eD, eH, eU, lD', lH', lU', hy, hyb, d2, h2, u2, fD', fH', fU', hne2⟩ := H1.out.at (i := bestN S.bays k) (b := c) hc
            rw [HgD.out] at eD
            rw [HgH.out] at eH
            rw [HgU.out] at eU
            simp only [Option.some.injEq, Addr.mk.injEq, and_self, and_true] at eD eH eU
            subst eD eH eU
            obtain ⟨i0, hi0⟩ : ∃ i, i = bestN S.bays k := ⟨_, rfl⟩
            rw [← hi0] at hbi hlt h2 u2 hst
            rw [hbi]
            have hi0' : decide ((i0 : Int) < 0) = false := by simp
            have Hst := Lib.hid hst
            have Hbi1 := Lib.hid hbi1
            have hlt4 : i0 < n := by omega
            clear hbi hbi1 hst hi0 hc hy hyb d2 fD' fH' fU' hne2 lD' lU' hbv hk0 fD fH fU lD lU d1
            by_cases hcv : 0 ≤ c.vol
            · have ecv : decide (c.vol ≥ 0) = true := by simpa using hcv
              by_cases hbv2 : b.vol < 0
              · have hb1 : bestI S.bays (k + 1) = (k : Int) := by rw [Hbi1.out, Hst.out, if_pos ⟨hcv, .inl hbv2⟩]
                have HB1 := Lib.hid hb1
                have ebw : decide (b.vol < 0) = true := by simpa using hbv2
                clear hb1
                go_wp2_with fail
                go_quiet (fail)
                go_wp2_with fail
                go_roundw
                case rel => exact ⟨k + 1, _, rfl, bthen HBR.out (ext_drewN wr _ wr.heap.size) (Nat.le_refl _), by omega, by go_num, by rw [HB1.out], Hno2.out⟩
                case measure => simp [intOf]; omega
              · have ebw : decide (b.vol < 0) = false := by simpa using hbv2
                by_cases hba : b.asked < c.asked
                · have hb1 : bestI S.bays (k + 1) = (k : Int) := by rw [Hbi1.out, Hst.out, if_pos ⟨hcv, .inr hba⟩]
                  have HB1 := Lib.hid hb1
                  have eba : decide (b.asked < c.asked) = true := by simpa using hba
                  clear hb1
                  go_wp2_with fail
                  go_quiet (fail)
                  go_wp2_with fail
                  go_roundw
                  case rel => exact ⟨k + 1, _, rfl, bthen HBR.out (ext_drewN wr _ wr.heap.size) (Nat.le_refl _), by omega, by go_num, by rw [HB1.out], Hno2.out⟩
                  case measure => simp [intOf]; omega
                · have hb1 : bestI S.bays (k + 1) = (i0 : Int) := by rw [Hbi1.out, Hst.out, if_neg (by rintro ⟨_, h | h⟩; exact hbv2 h; exact hba h)]
                  have HB1 := Lib.hid hb1
                  have eba : decide (b.asked < c.asked) = false := by simpa using hba
                  clear hb1
                  go_wp2_with fail
                  go_quiet (fail)
                  go_wp2_with fail
                  go_roundw
                  case rel => exact ⟨k + 1, _, rfl, bthen HBR.out (ext_drewN wr _ wr.heap.size) (Nat.le_refl _), by omega, by go_num, by rw [HB1.out], Hno2.out⟩
                  case measure => simp [intOf]; omega
            · have hb1 : bestI S.bays (k + 1) = (i0 : Int) := by rw [Hbi1.out, Hst.out, if_neg (by rintro ⟨h, _⟩; exact hcv h)]
              have HB1 := Lib.hid hb1
              have ecv : decide (c.vol ≥ 0) = false := by simpa using hcv
              clear hb1
              go_wp2_with fail
              go_quiet (fail)
              go_wp2_with fail
              go_roundw
              case rel => exact ⟨k + 1, _, rfl, bthen HBR.out (ext_drewN wr _ wr.heap.size) (Nat.le_refl _), by omega, by go_num, by rw [HB1.out], Hno2.out⟩
              case measure => simp [intOf]; omega
    · as_aux_lemma =>
        obtain rfl : n = k := by omega
        have hfi : findV (v : Int) S.bays = none := findV_no fun j bj hj hb => Hno.out j bj (by have := HN.out; omega) hb
        have hfr0 : bestI S.bays n = (freeB S.bays : Int) := by
          unfold bestI
          rw [if_neg (by omega), ← HN.out, bestN_all]
        obtain ⟨i, hi⟩ : ∃ i, i = freeB S.bays := ⟨_, rfl⟩
        rw [← hi] at hfr0
        have hin : i < n := by have := freeB_lt (l := S.bays) (by have := HN.out; omega); have := HN.out; omega
        obtain ⟨b, hbi⟩ : ∃ b, S.bays[i]? = some b := ⟨_, List.getElem?_eq_getElem (by have := HN.out; omega)⟩
        obtain ⟨gD', gH', gU', y, eD, eH, eU, lhD, lhH, lhU, hy, hyb, d1, h1, u1, fD, fH, fU, hne⟩ := H1.out.at (i := i) (b := b) hbi
        rw [HgD.out] at eD
        rw [HgH.out] at eH
        rw [HgU.out] at eU
        simp only [Option.some.injEq, Addr.mk.injEq, and_self, and_true] at eD eH eU
        subst eD eH eU
        have Hfv := Lib.hid hfi
        have Hfree := Lib.hid hi.symm
        have Hbi := Lib.hid hbi
        have Hy := Lib.hid hy
        have Hyb := Lib.hid hyb
        have hlH := lhH
        have hlD := lhD
        rw [hfr0]
        clear hfi hfr0 hi hbi hy hyb lhD lhH lhU u1 fD fH fU hne Hno HBR
        have hn04 := hn0.2
        have hn0 := hn0.1
        have Hbv := Lib.hid (HOK.out.bay b (List.mem_of_getElem? Hbi.out))
        by_cases hbv : b.vol < 0
        · as_aux_lemma =>
            have ebv : decide (b.vol ≥ 0) = false := by simpa using hbv
            have hvs2 : (if b.vol < 0 then S.vols else S.vols.set b.vol.toNat b.M) = S.vols := by rw [if_pos hbv]
            obtain ⟨V2, vs, HV2, Hvs, HX2⟩ : ∃ V2 vs, Hid (TapesTo S V b V2 vs) ∧ Hid ((if b.vol < 0 then S.vols else S.vols.set b.vol.toNat b.M) = vs) ∧ Hid (RRaw B Z wr r q V2 n (V.bs.map BayV.ptr) (V.bs.map BayV.held) (V.bs.map BayV.used) (S.asked + 1) S.mounts) :=
              ⟨V, S.vols, Lib.hid (TapesTo.none H0.out hbv), Lib.hid hvs2, Lib.hid (by have := H1.out.raw; rw [← HN.out]; exact this)⟩
            have HM2 := HM1
            clear hvs2 hbv d1
            go_wp2_with fail
            clear q1 q2 q3 q4 q5 h1 hfr hlr HM1
            generalize wr = w2 at *
            obtain ⟨ts2, hts2⟩ := HV2.out.eq
            have HgD2 := Lib.hid (show V2.aD = some ⟨gD, 0, none⟩ by rw [hts2]; exact HgD.out)
            have HgH2 := Lib.hid (show V2.aH = some ⟨gH, 0, none⟩ by rw [hts2]; exact HgH.out)
            have HgU2 := Lib.hid (show V2.aU = some ⟨gU, 0, none⟩ by rw [hts2]; exact HgU.out)
            have HgV2 := Lib.hid (show V2.aV = some ⟨gV, 0, none⟩ by rw [hts2]; exact HgV.out)
            have HcD2 := Lib.hid (show cD = V2.cD by rw [hts2]; exact HcD.out)
            have HcH2 := Lib.hid (show cH = V2.cH by rw [hts2]; exact HcH.out)
            have HcU2 := Lib.hid (show cU = V2.cU by rw [hts2]; exact HcU.out)
            have HcV2 := Lib.hid (show cV = V2.cV by rw [hts2]; exact HcV.out)
            clear hts2 HgD HgH HgU HgV HcD HcH HcU HcV
            have HgD := HgD2
            have HgH := HgH2
            have HgU := HgU2
            have HgV := HgV2
            clear HgD2 HgH2 HgU2 HgV2
            obtain ⟨gV', xv, eV', lV, hts, v0, v1, hTI, hXok, hXcap, _⟩ := tape_raw HX2.out (v := v) HV2.out.len HV2.out.ok hv
            rw [HgV.out] at eV'
            simp only [Option.some.injEq, Addr.mk.injEq, and_self, and_true] at eV'
            subst eV'
            have hxm : vs[v]? = some xv.M := by
              obtain ⟨y, e1, e2⟩ := HV2.out.vol v hv (.inl Hfv.out)
              rw [hts] at e1
              cases e1
              exact e2
            obtain ⟨m, hmM⟩ : ∃ m, m = xv.M := ⟨_, rfl⟩
            obtain ⟨aX, hAX⟩ : ∃ a, a = xv.a := ⟨_, rfl⟩
            obtain ⟨kX, hKX⟩ : ∃ k, k = xv.k := ⟨_, rfl⟩
            obtain ⟨cX, hCX⟩ : ∃ c, c = xv.c := ⟨_, rfl⟩
            obtain ⟨csX, hSX⟩ : ∃ c, c = xv.cs := ⟨_, rfl⟩
            have HX : Hid (MedR w2 B m aX kX cX csX) := Lib.hid (by rw [hmM, hAX, hKX, hCX, hSX]; exact hTI.r)
            have HXs := Lib.hid (show ∀ y ∈ csX, y.d.l.length ≤ 140737488355328 from by rw [hSX]; exact hTI.r.short (DGood.short (at_ := 0) ⟨hXok, 0, rfl, Nat.zero_le _⟩))
            have hkX : kX ≤ 100000 := by
              have h1 := HX.out.size
              have h2 := DGood.len (at_ := 0) (⟨hXok, 0, rfl, Nat.zero_le _⟩ : DGood xv.M 0)
              rw [hmM] at h1
              omega
            rw [← hmM] at v0 hxm
            rw [← hAX, ← hKX, ← hCX] at v1
            have Hxv := Lib.hid hxm
            obtain ⟨curV, hvo⟩ := own_at0' HX2.out.rowV HgV.out (by rw [HV2.out.len]; omega)
            have hob := HX2.out.obj
            obtain ⟨q0, q1, q2, q3, q4, q5, _, hfr, hlr⟩ := HX2.out.cells
            rw [HgV.out, HV2.out.len, HNv.out, ← HcV2.out] at q1
            rw [HgD.out, ← HcD2.out] at q2
            rw [HgH.out, ← HcH2.out] at q3
            rw [HgU.out, ← HcU2.out] at q4
            clear hts hTI hXok hXcap hxm hmM hAX hKX hCX hSX
            refine wp_region_chainL (by kernel_rfl) [26, 27, 28, 35, 37, 39] (Mod.rel (RB7 gD gH gU)) [SpT.eq (.pointer (some ⟨r, 0, none⟩)), SpT.eq (.pointer (some ⟨r, 0, none⟩)), SpT.eq (.pointer (some ⟨r, 2, none⟩)), SpT.eq (.slice (some ⟨gD, 0, none⟩) n cD), SpT.eq (.int .i64 (i : Int)), SpT.eq (.pointer (some ⟨r, 0, none⟩)), SpT.eq (.pointer (some ⟨r, 0, none⟩)), SpT.eq (.pointer (some ⟨r, 3, none⟩)), SpT.eq (.slice (some ⟨gH, 0, none⟩) n cH), SpT.eq (.int .i64 (i : Int)), SpT.eq (.pointer (some ⟨r, 0, none⟩)), SpT.eq (.pointer (some ⟨r, 0, none⟩)), SpT.eq (.pointer (some ⟨r, 4, none⟩)), SpT.eq (.slice (some ⟨gU, 0, none⟩) n cU), SpT.eq (.int .i64 (i : Int)), SpT.eq (.pointer (some ⟨r, 0, none⟩)), SpT.eq (.pointer (some ⟨r, 0, none⟩)), SpT.eq (.pointer (some ⟨r, 0, none⟩)), SpT.eq (.pointer (some ⟨q, 0, none⟩)), SpT.eq (.pointer (some ⟨r, 0, none⟩)), SpT.eq (.pointer (some ⟨r, 0, none⟩)), SpT.eq (.pointer (some ⟨r, 1, none⟩)), SpT.eq (.slice (some ⟨gV, 0, none⟩) N cV), SpT.eq (.int .i64 (v : Int)), SpT.eq (.pointer (some ⟨gV, v * 2, none⟩)), SpT.eq (.agg #[.int .i64 m.cap, .slice aX kX cX]), SpT.top, SpT.top, SpT.top, SpT.eq (.int .i64 (v : Int)), SpT.eq (.pointer (some ⟨r, 0, none⟩)), SpT.eq (.pointer (some ⟨r, 0, none⟩)), SpT.eq (.pointer (some ⟨r, 5, none⟩)), SpT.eq (.int .i64 (S.asked + 1)), SpT.eq (.pointer (some ⟨gD, i, none⟩)), SpT.top, SpT.eq (.pointer (some ⟨gH, i, none⟩)), SpT.top, SpT.eq (.pointer (some ⟨gU, i, none⟩)), SpT.top] (by kernel_rfl) (by kernel_rfl) (by kernel_rfl) (by kernel_rfl) ?_ ?_
            · refine stepsL_free rfl ?_ (stepsL_free rfl ?_ (stepsL_free rfl ?_ (stepsL_free rfl ?_ (stepsL_free rfl ?_ (stepsL_free rfl ?_ (stepsL_free rfl ?_ (stepsL_free rfl ?_ (stepsL_free rfl ?_ (stepsL_free rfl ?_ (stepsL_free rfl ?_ (stepsL_free rfl ?_ (stepsL_free rfl ?_ (stepsL_free rfl ?_ (stepsL_free rfl ?_ (stepsL_free rfl ?_ (stepsL_free rfl ?_ (stepsL_free rfl ?_ (stepsL_free rfl ?_ (stepsL_free rfl ?_ (stepsL_free rfl ?_ (stepsL_free rfl ?_ (stepsL_free rfl ?_ (stepsL_free rfl ?_ (stepsL_free rfl ?_ (stepsL_free rfl ?_ (stepsL_chain rfl (stepsL_chain rfl (stepsL_chain rfl (stepsL_free rfl ?_ (stepsL_free rfl ?_ (stepsL_free rfl ?_ (stepsL_free rfl ?_ (stepsL_free rfl ?_ (stepsL_free rfl ?_ (stepsL_chain rfl (stepsL_free rfl ?_ (stepsL_chain rfl (stepsL_free rfl ?_ (stepsL_chain rfl (stepsL_nil))))))))))))))))))))))))))))))))))))))))
              · intro ρ w' E
                have e0 : ρ (.tmp 0) = .pointer (some ⟨r, 0, none⟩) := E.out 0 rfl
                refine step_plain rfl ?_
                exact op_move (.inl rfl) e0 ⟨Below.refl _ _, rfl⟩
              · intro ρ w' E
                have e138 : ρ (.tmp 138) = .pointer (some ⟨r, 0, none⟩) := E.pre 0 rfl rfl
                refine step_plain rfl ?_
                refine op_val (v := .pointer (some ⟨r, 0, none⟩)) (w' := w') ?_ ⟨Below.refl _ _, rfl⟩
                have hcon := E.con
                clear E
                go_simp
              · intro ρ w' E
                have e139 : ρ (.tmp 139) = .pointer (some ⟨r, 0, none⟩) := E.pre 1 rfl rfl
                refine step_plain rfl ?_
                refine op_val (v := .pointer (some ⟨r, 2, none⟩)) (w' := w') ?_ ⟨Below.refl _ _, rfl⟩
                have hcon := E.con
                clear E
                go_simp
              · intro ρ w' E
                have e140 : ρ (.tmp 140) = .pointer (some ⟨r, 2, none⟩) := E.pre 2 rfl rfl
                refine step_plain rfl ?_
                refine op_val (v := .slice (some ⟨gD, 0, none⟩) n cD) (w' := w') ?_ ⟨Below.refl _ _, rfl⟩
                have hk : w'.cell? ⟨r, 2, none⟩ = some (.slice (some ⟨gD, 0, none⟩) n cD) := (World.cell?_of_block (w := w2) ((E.t.keep hob (RB7_no _ (by decide) (by decide))).trans hob.symm)).trans q2
                have hcon := E.con
                clear E q0 q1 q2 q3 q4 q5 v0 v1
                go_simp
              · intro ρ w' E
                have e6 : ρ (.tmp 6) = .int .i64 (i : Int) := E.out 6 rfl
                refine step_plain rfl ?_
                exact op_move (.inl rfl) e6 ⟨Below.refl _ _, rfl⟩
              · intro ρ w' E
                have e0 : ρ (.tmp 0) = .pointer (some ⟨r, 0, none⟩) := E.out 0 rfl
                refine step_plain rfl ?_
                exact op_move (.inl rfl) e0 ⟨Below.refl _ _, rfl⟩
              · intro ρ w' E
                have e143 : ρ (.tmp 143) = .pointer (some ⟨r, 0, none⟩) := E.pre 5 rfl rfl
                refine step_plain rfl ?_
                refine op_val (v := .pointer (some ⟨r, 0, none⟩)) (w' := w') ?_ ⟨Below.refl _ _, rfl⟩
                have hcon := E.con
                clear E
                go_simp
              · intro ρ w' E
                have e144 : ρ (.tmp 144) = .pointer (some ⟨r, 0, none⟩) := E.pre 6 rfl rfl
                refine step_plain rfl ?_
                refine op_val (v := .pointer (some ⟨r, 3, none⟩)) (w' := w') ?_ ⟨Below.refl _ _, rfl⟩
                have hcon := E.con
                clear E
                go_simp
              · intro ρ w' E
                have e145 : ρ (.tmp 145) = .pointer (some ⟨r, 3, none⟩) := E.pre 7 rfl rfl
                refine step_plain rfl ?_
                refine op_val (v := .slice (some ⟨gH, 0, none⟩) n cH) (w' := w') ?_ ⟨Below.refl _ _, rfl⟩
                have hk : w'.cell? ⟨r, 3, none⟩ = some (.slice (some ⟨gH, 0, none⟩) n cH) := (World.cell?_of_block (w := w2) ((E.t.keep hob (RB7_no _ (by decide) (by decide))).trans hob.symm)).trans q3
                have hcon := E.con
                clear E q0 q1 q2 q3 q4 q5 v0 v1
                go_simp
              · intro ρ w' E
                have e6 : ρ (.tmp 6) = .int .i64 (i : Int) := E.out 6 rfl
                refine step_plain rfl ?_
                exact op_move (.inl rfl) e6 ⟨Below.refl _ _, rfl⟩
              · intro ρ w' E
                have e0 : ρ (.tmp 0) = .pointer (some ⟨r, 0, none⟩) := E.out 0 rfl
                refine step_plain rfl ?_
                exact op_move (.inl rfl) e0 ⟨Below.refl _ _, rfl⟩
              · intro ρ w' E
                have e148 : ρ (.tmp 148) = .pointer (some ⟨r, 0, none⟩) := E.pre 10 rfl rfl
                refine step_plain rfl ?_
                refine op_val (v := .pointer (some ⟨r, 0, none⟩)) (w' := w') ?_ ⟨Below.refl _ _, rfl⟩
                have hcon := E.con
                clear E
                go_simp
              · intro ρ w' E
                have e149 : ρ (.tmp 149) = .pointer (some ⟨r, 0, none⟩) := E.pre 11 rfl rfl
                refine step_plain rfl ?_
                refine op_val (v := .pointer (some ⟨r, 4, none⟩)) (w' := w') ?_ ⟨Below.refl _ _, rfl⟩
                have hcon := E.con
                clear E
                go_simp
              · intro ρ w' E
                have e150 : ρ (.tmp 150) = .pointer (some ⟨r, 4, none⟩) := E.pre 12 rfl rfl
                refine step_plain rfl ?_
                refine op_val (v := .slice (some ⟨gU, 0, none⟩) n cU) (w' := w') ?_ ⟨Below.refl _ _, rfl⟩
                have hk : w'.cell? ⟨r, 4, none⟩ = some (.slice (some ⟨gU, 0, none⟩) n cU) := (World.cell?_of_block (w := w2) ((E.t.keep hob (RB7_no _ (by decide) (by decide))).trans hob.symm)).trans q4
                have hcon := E.con
                clear E q0 q1 q2 q3 q4 q5 v0 v1
                go_simp
              · intro ρ w' E
                have e6 : ρ (.tmp 6) = .int .i64 (i : Int) := E.out 6 rfl
                refine step_plain rfl ?_
                exact op_move (.inl rfl) e6 ⟨Below.refl _ _, rfl⟩
              · intro ρ w' E
                have e0 : ρ (.tmp 0) = .pointer (some ⟨r, 0, none⟩) := E.out 0 rfl
                refine step_plain rfl ?_
                exact op_move (.inl rfl) e0 ⟨Below.refl _ _, rfl⟩
              · intro ρ w' E
                have e153 : ρ (.tmp 153) = .pointer (some ⟨r, 0, none⟩) := E.pre 15 rfl rfl
                refine step_plain rfl ?_
                refine op_val (v := .pointer (some ⟨r, 0, none⟩)) (w' := w') ?_ ⟨Below.refl _ _, rfl⟩
                have hcon := E.con
                clear E
                go_simp
              · intro ρ w' E
                have e154 : ρ (.tmp 154) = .pointer (some ⟨r, 0, none⟩) := E.pre 16 rfl rfl
                refine step_plain rfl ?_
                refine op_val (v := .pointer (some ⟨r, 0, none⟩)) (w' := w') ?_ ⟨Below.refl _ _, rfl⟩
                have hcon := E.con
                clear E
                go_simp
              · intro ρ w' E
                have e155 : ρ (.tmp 155) = .pointer (some ⟨r, 0, none⟩) := E.pre 17 rfl rfl
                refine step_plain rfl ?_
                refine op_val (v := .pointer (some ⟨q, 0, none⟩)) (w' := w') ?_ ⟨Below.refl _ _, rfl⟩
                have hk : w'.cell? ⟨r, 0, none⟩ = some (.pointer (some ⟨q, 0, none⟩)) := (World.cell?_of_block (w := w2) ((E.t.keep hob (RB7_no _ (by decide) (by decide))).trans hob.symm)).trans q0
                have hcon := E.con
                clear E q0 q1 q2 q3 q4 q5 v0 v1
                go_simp
              · intro ρ w' E
                have e0 : ρ (.tmp 0) = .pointer (some ⟨r, 0, none⟩) := E.out 0 rfl
                refine step_plain rfl ?_
                exact op_move (.inl rfl) e0 ⟨Below.refl _ _, rfl⟩
              · intro ρ w' E
                have e157 : ρ (.tmp 157) = .pointer (some ⟨r, 0, none⟩) := E.pre 19 rfl rfl
                refine step_plain rfl ?_
                refine op_val (v := .pointer (some ⟨r, 0, none⟩)) (w' := w') ?_ ⟨Below.refl _ _, rfl⟩
                have hcon := E.con
                clear E
                go_simp
              · intro ρ w' E
                have e158 : ρ (.tmp 158) = .pointer (some ⟨r, 0, none⟩) := E.pre 20 rfl rfl
                refine step_plain rfl ?_
                refine op_val (v := .pointer (some ⟨r, 1, none⟩)) (w' := w') ?_ ⟨Below.refl _ _, rfl⟩
                have hcon := E.con
                clear E
                go_simp
              · intro ρ w' E
                have e159 : ρ (.tmp 159) = .pointer (some ⟨r, 1, none⟩) := E.pre 21 rfl rfl
                refine step_plain rfl ?_
                refine op_val (v := .slice (some ⟨gV, 0, none⟩) N cV) (w' := w') ?_ ⟨Below.refl _ _, rfl⟩
                have hk : w'.cell? ⟨r, 1, none⟩ = some (.slice (some ⟨gV, 0, none⟩) N cV) := (World.cell?_of_block (w := w2) ((E.t.keep hob (RB7_no _ (by decide) (by decide))).trans hob.symm)).trans q1
                have hcon := E.con
                clear E q0 q1 q2 q3 q4 q5 v0 v1
                go_simp
              · intro ρ w' E
                have e1 : ρ (.tmp 1) = .int .i64 (v : Int) := E.out 1 rfl
                refine step_plain rfl ?_
                exact op_move (.inl rfl) e1 ⟨Below.refl _ _, rfl⟩
              · intro ρ w' E
                have e160 : ρ (.tmp 160) = .slice (some ⟨gV, 0, none⟩) N cV := E.pre 22 rfl rfl
                have e161 : ρ (.tmp 161) = .int .i64 (v : Int) := E.pre 23 rfl rfl
                refine step_plain rfl ?_
                refine op_val (v := .pointer (some ⟨gV, v * 2, none⟩)) (w' := w') ?_ ⟨Below.refl _ _, rfl⟩
                have hcon := E.con
                clear E
                go_simp
              · intro ρ w' E
                have e162 : ρ (.tmp 162) = .pointer (some ⟨gV, v * 2, none⟩) := E.pre 24 rfl rfl
                refine step_plain rfl ?_
                refine op_val (v := .agg #[.int .i64 m.cap, .slice aX kX cX]) (w' := w') ?_ ⟨Below.refl _ _, rfl⟩
                have hvb := (E.t.keep hvo (RB7_no _ (by decide) (by decide))).trans hvo.symm
                have k1 := (World.cell?_of_block (w := w2) hvb).trans v0
                have k2 := (World.cell?_of_block (w := w2) hvb).trans v1
                have hcon := E.con
                clear E hvb q0 q1 q2 q3 q4 q5 v0 v1
                go_simp
              · intro ρ w' E
                have e1 : ρ (.tmp 1) = .int .i64 (v : Int) := E.out 1 rfl
                refine step_plain rfl ?_
                exact op_move (.inl rfl) e1 ⟨Below.refl _ _, rfl⟩
              · intro ρ w' E
                have e0 : ρ (.tmp 0) = .pointer (some ⟨r, 0, none⟩) := E.out 0 rfl
                refine step_plain rfl ?_
                exact op_move (.inl rfl) e0 ⟨Below.refl _ _, rfl⟩
              · intro ρ w' E
                have e168 : ρ (.tmp 168) = .pointer (some ⟨r, 0, none⟩) := E.pre 30 rfl rfl
                refine step_plain rfl ?_
                refine op_val (v := .pointer (some ⟨r, 0, none⟩)) (w' := w') ?_ ⟨Below.refl _ _, rfl⟩
                have hcon := E.con
                clear E
                go_simp
              · intro ρ w' E
                have e169 : ρ (.tmp 169) = .pointer (some ⟨r, 0, none⟩) := E.pre 31 rfl rfl
                refine step_plain rfl ?_
                refine op_val (v := .pointer (some ⟨r, 5, none⟩)) (w' := w') ?_ ⟨Below.refl _ _, rfl⟩
                have hcon := E.con
                clear E
                go_simp
              · intro ρ w' E
                have e170 : ρ (.tmp 170) = .pointer (some ⟨r, 5, none⟩) := E.pre 32 rfl rfl
                refine step_plain rfl ?_
                refine op_val (v := .int .i64 (S.asked + 1)) (w' := w') ?_ ⟨Below.refl _ _, rfl⟩
                have hk : w'.cell? ⟨r, 5, none⟩ = some (.int .i64 (S.asked + 1)) := (World.cell?_of_block (w := w2) ((E.t.keep hob (RB7_no _ (by decide) (by decide))).trans hob.symm)).trans q5
                have hcon := E.con
                clear E q0 q1 q2 q3 q4 q5 v0 v1
                go_simp
              · intro ρ w' E
                have e141 : ρ (.tmp 141) = .slice (some ⟨gD, 0, none⟩) n cD := E.pre 3 rfl rfl
                have e142 : ρ (.tmp 142) = .int .i64 (i : Int) := E.pre 4 rfl rfl
                refine step_plain rfl ?_
                refine op_val (v := .pointer (some ⟨gD, i, none⟩)) (w' := w') ?_ ⟨Below.refl _ _, rfl⟩
                have hcon := E.con
                clear E
                go_simp
              · intro ρ w' E
                have e146 : ρ (.tmp 146) = .slice (some ⟨gH, 0, none⟩) n cH := E.pre 8 rfl rfl
                have e147 : ρ (.tmp 147) = .int .i64 (i : Int) := E.pre 9 rfl rfl
                refine step_plain rfl ?_
                refine op_val (v := .pointer (some ⟨gH, i, none⟩)) (w' := w') ?_ ⟨Below.refl _ _, rfl⟩
                have hcon := E.con
                clear E
                go_simp
              · intro ρ w' E
                have e151 : ρ (.tmp 151) = .slice (some ⟨gU, 0, none⟩) n cU := E.pre 13 rfl rfl
                have e152 : ρ (.tmp 152) = .int .i64 (i : Int) := E.pre 14 rfl rfl
                refine step_plain rfl ?_
                refine op_val (v := .pointer (some ⟨gU, i, none⟩)) (w' := w') ?_ ⟨Below.refl _ _, rfl⟩
                have hcon := E.con
                clear E
                go_simp
            · intro ρ1 w1c G1 E1
              have e163 : ρ1 (.tmp 163) = .agg #[.int .i64 m.cap, .slice aX kX cX] := E1.pre 25 rfl rfl
              refine step_plain rfl ?_
              refine op_call (f := 13) (args := #[.agg #[.int .i64 m.cap, .slice aX kX cX]]) (w' := w1c) (by have hcon := E1.con; have hfn := E1.fn; clear E1 q0 q1 q2 q3 q4 q5 v0 v1; go_simp) ?_
              refine (twinmed_any m.cap aX cX kX csX w1c (HX.out.ext G1).mat HX.out.len.symm hkX HXs.out).mono ?_
              rintro e wx1 ⟨a2, c2, cs2, rfl, hl2, ho2, hp2, hb2⟩
              refine ⟨_, rfl, (Mod.rel (RB7 gD gH gU)).of hb2, ?_⟩
              intro ρ2 w2c G2 E2
              have e156 : ρ2 (.tmp 156) = .pointer (some ⟨q, 0, none⟩) := E2.pre 18 rfl rfl
              have e164 : ρ2 (.tmp 164) = .agg #[.int .i64 m.cap, .slice a2 kX c2] := E2.chn 26 164 rfl rfl rfl
              refine step_plain rfl ?_
              refine op_val (v := .agg #[.pointer (some ⟨q, 0, none⟩), .int .i64 m.cap, .slice a2 kX c2, .int .i64 0]) (w' := w2c) (by have hcon := E2.con; clear E2 q0 q1 q2 q3 q4 q5 v0 v1; go_simp) ⟨(Mod.rel (RB7 gD gH gU)).of (Below.refl _ _), ?_⟩
              intro ρ3 w3c G3 E3
              have e165 : ρ3 (.tmp 165) = .agg #[.pointer (some ⟨q, 0, none⟩), .int .i64 m.cap, .slice a2 kX c2, .int .i64 0] := E3.chn 27 165 rfl rfl rfl
              refine step_plain rfl ?_
              refine op_val (v := .pointer (some ⟨w3c.heap.size, 0, none⟩)) (w' := w3c.alloc (.cells #[.pointer (some ⟨q, 0, none⟩), .int .i64 m.cap, .slice a2 kX c2, .int .i64 0] 63)) (by have hcon := E3.con; clear E3 q0 q1 q2 q3 q4 q5 v0 v1; go_simp) ⟨(Mod.rel (RB7 gD gH gU)).of (ext_alloc _ _), ?_⟩
              intro ρ4 w4c G4 E4
              have e172 : ρ4 (.tmp 172) = .pointer (some ⟨gD, i, none⟩) := E4.pre 34 rfl rfl
              have e166 : ρ4 (.tmp 166) = .pointer (some ⟨w3c.heap.size, 0, none⟩) := E4.chn 28 166 rfl rfl rfl
              refine step_plain rfl ?_
              have hb04 := bthen (bthen (bthen G1 hb2 (Nat.le_refl _)) G2 (Nat.le_refl _)) G3 (Nat.le_refl _)
              have hb4 := bthen (ext_alloc w3c (.cells #[.pointer (some ⟨q, 0, none⟩), .int .i64 m.cap, .slice a2 kX c2, .int .i64 0] 63)) G4 (Nat.le_refl _)
              have hb05 := bthen hb04 hb4 (Nat.le_refl _)
              have hX4 := HX2.out.ext hb05
              obtain ⟨gD', eD', _, lD, atD, fD⟩ := hX4.rowD.at (i := i) hin
              rw [HgD.out] at eD'
              simp only [Option.some.injEq, Addr.mk.injEq, and_self, and_true] at eD'
              subst eD'
              refine op_store rfl e172 e166 rfl (atD i (by have := hX4.rowD.1; omega)) (fD _) (by kernel_rfl) ⟨hX4.mD hn0 HgD.out i _, ?_⟩
              have pD4 := hX4.putD HgD.out hin (.pointer (some ⟨w3c.heap.size, 0, none⟩))
              intro ρ5 w5c G5 E5
              have e173 : ρ5 (.tmp 173) = .pointer (some ⟨gH, i, none⟩) := E5.pre 36 rfl rfl
              have e167 : ρ5 (.tmp 167) = .int .i64 (v : Int) := E5.pre 29 rfl rfl
              refine step_plain rfl ?_
              have hX5 := pD4.1.ext G5
              obtain ⟨gH', eH', _, lH, atH, fH⟩ := hX5.rowH.at (i := i) hin
              rw [HgH.out] at eH'
              simp only [Option.some.injEq, Addr.mk.injEq, and_self, and_true] at eH'
              subst eH'
              refine op_store rfl e173 e167 rfl (atH i (by have := hX5.rowH.1; omega)) (fH _) (by kernel_rfl) ⟨hX5.mH hn0 HgH.out i _, ?_⟩
              have pH5 := hX5.putH HgH.out hin (.int .i64 (v : Int))
              intro ρ6 w6c G6 E6
              have e174 : ρ6 (.tmp 174) = .pointer (some ⟨gU, i, none⟩) := E6.pre 38 rfl rfl
              have e171 : ρ6 (.tmp 171) = .int .i64 (S.asked + 1) := E6.pre 33 rfl rfl
              refine step_plain rfl ?_
              have hX6 := pH5.1.ext G6
              obtain ⟨gU', eU', _, lU, atU, fU⟩ := hX6.rowU.at (i := i) hin
              rw [HgU.out] at eU'
              simp only [Option.some.injEq, Addr.mk.injEq, and_self, and_true] at eU'
              subst eU'
              refine op_store rfl e174 e171 rfl (atU i (by have := hX6.rowU.1; omega)) (fU _) (by kernel_rfl) ⟨trivial, ?_⟩
              intro σ wF GF hκ
              simp only [upd, updL, dstsOf', elemB, List.filterMap_cons, List.filterMap_nil, Nat.reduceAdd, Nat.reduceBEq, Bool.or_false, Bool.false_or, Bool.or_true, Bool.true_or, cond_true, cond_false, Nat.zero_add]
              have pU6 := hX6.putU HgU.out hin (.int .i64 (S.asked + 1))
              have hX7 := pU6.1.ext GF
              have hm06 : Mod (RR0 B Z) w2 wF := ((((((bmod hb05 _).trans pD4.2).ext G5).trans pH5.2).ext G6).trans pU6.2).ext GF
              have hMR : MedR wx1 B m a2 kX c2 cs2 := ⟨ho2.mono (by have := HX2.out.low; have := hlr; have := HUp.out.le; have := HM2.out.size; have := G1.size; omega), hl2, by rw [hp2]; exact HX.out.pls⟩
              have hbx : Below wx1.heap.size wx1 w4c := bthen (bthen G2 G3 (Nat.le_refl _)) hb4 (Nat.le_refl _)
              have hdn : w4c.heap[w3c.heap.size]? = _ := (G4.block w3c.heap.size (by rw [World.size_alloc]; omega)).trans (heap_alloc_at w3c (.cells #[.pointer (some ⟨q, 0, none⟩), .int .i64 m.cap, .slice a2 kX c2, .int .i64 0] 63))
              have hzn : RowsIn Z a2 kX c2 cs2 := (MedR.newRow (⟨ho2, hl2, by rw [hp2]; exact HX.out.pls⟩ : MedR wx1 w1c.heap.size m a2 kX c2 cs2)).mono fun b hb => HUp.out.up b (by have := HM2.out.size; have := G1.size; omega)
              have hszd : w.heap.size ≤ w3c.heap.size := Nat.le_trans HM2.out.size hb04.size
              have hk2 : kX ≤ c2 := by
                have := ho2.row.len
                rw [hl2] at this
                exact this.1
              have hrd : RDr B w4c w3c.heap.size q m 0 a2 kX c2 cs2 := ⟨Nat.le_trans HUp.out.le hszd, hdn, hMR.ext hbx, hk2⟩
              have hm46 : Mod (RR0 B Z) w4c wF := ((((pD4.2.ext G5).trans pH5.2).ext G6).trans pU6.2).ext GF
              have hrdF := rdr_rr0 hrd hzn hm46
              have HRD := Lib.hid hrdF
              have HZN := Lib.hid hzn
              have HXF := Lib.hid hX7
              have HMF := Lib.hid (HM2.out.trans hm06)
              have HSZ := Lib.hid hszd
              generalize w3c.heap.size = dn at *
              clear hX4 hX5 hX6 hX7 pD4 pH5 pU6 hm06 hMR hbx hdn hzn hszd hk2 hrd hm46 hrdF hb05 hb04 hb4 G1 G2 G3 G4 G5 G6 GF E1 E2 E3 E4 E5 E6 hκ ho2 hl2 hp2 hb2 atD fD atH fH atU fU lD lH lU q0 q1 q2 q3 q4 q5 v0 v1 hvo hob e163 e164 e165 e166 e167 e171 e172 e173 e174 e156
              obtain ⟨_, _, q2, _, _, _, q6, hfr, hlr2⟩ := HXF.out.cells
              rw [HgD.out] at q2
              obtain ⟨gD', eD', _, lD, atD, _⟩ := HXF.out.rowD.at (i := i) hin
              rw [HgD.out] at eD'
              simp only [Option.some.injEq, Addr.mk.injEq, and_self, and_true] at eD'
              subst eD'
              have dF : wF.cell? ⟨gD, i, none⟩ = some (.pointer (some ⟨dn, 0, none⟩)) := by
                have h1 := atD i (by have := HXF.out.rowD.1; omega)
                rw [h1]
                simp
              have hwm : IntKind.i64.wrap (S.mounts + 1) = S.mounts + 1 := by have := HOK.out.mounts; have := HOK.out.asked; rw [IntKind.wrap_i64]; omega
              have hXM := HXF.out.putMounts (S.mounts + 1)
              have HXM := Lib.hid hXM.1
              have HMM := Lib.hid (HMF.out.trans hXM.2)
              have HRM := Lib.hid (rdr_rr0 HRD.out HZN.out hXM.2)
              have dM : (wF.setCell ⟨r, 6, none⟩ (.int .i64 (S.mounts + 1))).cell? ⟨gD, i, none⟩ = some (.pointer (some ⟨dn, 0, none⟩)) := (World.cell?_setCell_other (w := wF) (a := ⟨r, 6, none⟩) (b := ⟨gD, i, none⟩) (v := Value.int .i64 (S.mounts + 1)) (by
                intro h
                have := (Addr.mk.inj h).1
                subst this
                have h1 := HXF.out.obj
                have h2 := HXF.out.rowD
                rw [HgD.out] at h2
                obtain ⟨_, cur, hh⟩ := own_at1 h2 hn0
                rw [hh] at h1
                simp at h1)).trans dF
              clear hXM atD
              go_wp2
              go_ret2
              exact rr_mounted HOK.out H0.out H2D.out Hfv.out Hfree.out Hbi.out Hvs.out HN.out.symm HXM.out HMM.out HRM.out HZN.out HSZ.out HV2.out Hxv.out (HP.out.rr0 HMM.out) Hr.out ha hv
        · as_aux_lemma =>
            have ebv : decide (b.vol ≥ 0) = true := by simpa using hbv
            obtain ⟨u, hu⟩ := Int.eq_ofNat_of_zero_le (show 0 ≤ b.vol by omega)
            have hun : u < N := by have := Hbv.out.vol.2; have := HNv.out; omega
            obtain ⟨aT, kT, cT, csT, hdT, hzT⟩ := H1.out.drv i y Hy.out (by rw [Hyb.out]; omega)
            have hyp : y.ptr = .pointer (some ⟨y.d, 0, none⟩) := by
              unfold BayV.ptr
              rw [if_neg (by rw [Hyb.out]; exact hbv)]
            rw [hyp] at d1
            rw [Hyb.out] at hdT
            obtain ⟨d0, hd0⟩ : ∃ d, d = y.d := ⟨_, rfl⟩
            rw [← hd0] at d1 hdT
            obtain ⟨Mb, hMb⟩ : ∃ M, M = b.M := ⟨_, rfl⟩
            rw [← hMb] at hdT
            have t1 := cell_of_row _ d0 1 _ _ _ hdT.obj
            have t2 := cell_of_row _ d0 2 _ _ _ hdT.obj
            have hlT := heap_lt hdT.obj
            rw [hu] at h1 ebv
            have HDT := Lib.hid hdT
            have HZT := Lib.hid hzT
            have HMb := Lib.hid hMb
            have HUu := Lib.hid hu
            have Hgood := Lib.hid (Hbv.out.good (by omega))
            clear hyp hd0 hMb hdT hzT hu hbv
            go_wp2_with fail
            refine wp_region_last2 _ _ (by simp only [lastSplit, Option.map_some]; rfl) (by kernel_rfl) [Sp.eq (.pointer (some ⟨r, 0, none⟩)), Sp.eq (.pointer (some ⟨r, 0, none⟩)), Sp.eq (.pointer (some ⟨r, 1, none⟩)), Sp.eq (.slice (some ⟨gV, 0, none⟩) N cV), Sp.eq (.pointer (some ⟨r, 0, none⟩)), Sp.eq (.pointer (some ⟨r, 0, none⟩)), Sp.eq (.pointer (some ⟨r, 3, none⟩)), Sp.eq (.slice (some ⟨gH, 0, none⟩) n cH), Sp.eq (.int .i64 (i : Int)), Sp.eq (.pointer (some ⟨gH, i, none⟩)), Sp.eq (.int .i64 (u : Int)), Sp.eq (.pointer (some ⟨r, 0, none⟩)), Sp.eq (.pointer (some ⟨r, 0, none⟩)), Sp.eq (.pointer (some ⟨r, 2, none⟩)), Sp.eq (.slice (some ⟨gD, 0, none⟩) n cD), Sp.eq (.int .i64 (i : Int)), Sp.eq (.pointer (some ⟨gD, i, none⟩)), Sp.eq (.pointer (some ⟨d0, 0, none⟩)), Sp.eq (.pointer (some ⟨d0, 0, none⟩)), Sp.eq (.pointer (some ⟨d0, 1, none⟩)), Sp.eq (.agg #[.int .i64 Mb.cap, .slice aT kT cT]), Sp.eq (.pointer (some ⟨gV, u * 2, none⟩))] (by kernel_rfl) (by kernel_rfl) ?_ ?_
            · refine stepsOk_cons ?_ (stepsOk_cons ?_ (stepsOk_cons ?_ (stepsOk_cons ?_ (stepsOk_cons ?_ (stepsOk_cons ?_ (stepsOk_cons ?_ (stepsOk_cons ?_ (stepsOk_cons ?_ (stepsOk_cons ?_ (stepsOk_cons ?_ (stepsOk_cons ?_ (stepsOk_cons ?_ (stepsOk_cons ?_ (stepsOk_cons ?_ (stepsOk_cons ?_ (stepsOk_cons ?_ (stepsOk_cons ?_ (stepsOk_cons ?_ (stepsOk_cons ?_ (stepsOk_cons ?_ (stepsOk_cons ?_ (stepsOk_nil))))))))))))))))))))))
              · intro ρ w' E
                have e0 : ρ (.tmp 0) = .pointer (some ⟨r, 0, none⟩) := E.out 0 rfl
                refine step_plain rfl ?_
                exact op_move (.inl rfl) e0 ⟨Below.refl _ _, rfl⟩
              · intro ρ w' E
                have e116 : ρ (.tmp 116) = .pointer (some ⟨r, 0, none⟩) := E.pre 0 rfl
                refine step_plain rfl ?_
                refine op_val (v := .pointer (some ⟨r, 0, none⟩)) (w' := w') ?_ ⟨Below.refl _ _, rfl⟩
                have hcon := E.con
                clear E
                go_simp
              · intro ρ w' E
                have e117 : ρ (.tmp 117) = .pointer (some ⟨r, 0, none⟩) := E.pre 1 rfl
                refine step_plain rfl ?_
                refine op_val (v := .pointer (some ⟨r, 1, none⟩)) (w' := w') ?_ ⟨Below.refl _ _, rfl⟩
                have hcon := E.con
                clear E
                go_simp
              · intro ρ w' E
                have e118 : ρ (.tmp 118) = .pointer (some ⟨r, 1, none⟩) := E.pre 2 rfl
                refine step_plain rfl ?_
                refine op_val (v := .slice (some ⟨gV, 0, none⟩) N cV) (w' := w') ?_ ⟨Below.refl _ _, rfl⟩
                have hk := (World.cell?_of_block (w := wr) (E.below.block _ hlr)).trans q1
                have hcon := E.con
                clear E q1 q2 q3 q4 q5 d1 h1 t1 t2
                go_simp
              · intro ρ w' E
                have e0 : ρ (.tmp 0) = .pointer (some ⟨r, 0, none⟩) := E.out 0 rfl
                refine step_plain rfl ?_
                exact op_move (.inl rfl) e0 ⟨Below.refl _ _, rfl⟩
              · intro ρ w' E
                have e120 : ρ (.tmp 120) = .pointer (some ⟨r, 0, none⟩) := E.pre 4 rfl
                refine step_plain rfl ?_
                refine op_val (v := .pointer (some ⟨r, 0, none⟩)) (w' := w') ?_ ⟨Below.refl _ _, rfl⟩
                have hcon := E.con
                clear E
                go_simp
              · intro ρ w' E
                have e121 : ρ (.tmp 121) = .pointer (some ⟨r, 0, none⟩) := E.pre 5 rfl
                refine step_plain rfl ?_
                refine op_val (v := .pointer (some ⟨r, 3, none⟩)) (w' := w') ?_ ⟨Below.refl _ _, rfl⟩
                have hcon := E.con
                clear E
                go_simp
              · intro ρ w' E
                have e122 : ρ (.tmp 122) = .pointer (some ⟨r, 3, none⟩) := E.pre 6 rfl
                refine step_plain rfl ?_
                refine op_val (v := .slice (some ⟨gH, 0, none⟩) n cH) (w' := w') ?_ ⟨Below.refl _ _, rfl⟩
                have hk := (World.cell?_of_block (w := wr) (E.below.block _ hlr)).trans q3
                have hcon := E.con
                clear E q1 q2 q3 q4 q5 d1 h1 t1 t2
                go_simp
              · intro ρ w' E
                have e6 : ρ (.tmp 6) = .int .i64 (i : Int) := E.out 6 rfl
                refine step_plain rfl ?_
                exact op_move (.inl rfl) e6 ⟨Below.refl _ _, rfl⟩
              · intro ρ w' E
                have e123 : ρ (.tmp 123) = .slice (some ⟨gH, 0, none⟩) n cH := E.pre 7 rfl
                have e124 : ρ (.tmp 124) = .int .i64 (i : Int) := E.pre 8 rfl
                refine step_plain rfl ?_
                refine op_val (v := .pointer (some ⟨gH, i, none⟩)) (w' := w') ?_ ⟨Below.refl _ _, rfl⟩
                have hcon := E.con
                clear E
                go_simp
              · intro ρ w' E
                have e125 : ρ (.tmp 125) = .pointer (some ⟨gH, i, none⟩) := E.pre 9 rfl
                refine step_plain rfl ?_
                refine op_val (v := .int .i64 (u : Int)) (w' := w') ?_ ⟨Below.refl _ _, rfl⟩
                have hk := (World.cell?_of_block (w := wr) (E.below.block _ hlH)).trans h1
                have hcon := E.con
                clear E q1 q2 q3 q4 q5 d1 h1 t1 t2
                go_simp
              · intro ρ w' E
                have e0 : ρ (.tmp 0) = .pointer (some ⟨r, 0, none⟩) := E.out 0 rfl
                refine step_plain rfl ?_
                exact op_move (.inl rfl) e0 ⟨Below.refl _ _, rfl⟩
              · intro ρ w' E
                have e127 : ρ (.tmp 127) = .pointer (some ⟨r, 0, none⟩) := E.pre 11 rfl
                refine step_plain rfl ?_
                refine op_val (v := .pointer (some ⟨r, 0, none⟩)) (w' := w') ?_ ⟨Below.refl _ _, rfl⟩
                have hcon := E.con
                clear E
                go_simp
              · intro ρ w' E
                have e128 : ρ (.tmp 128) = .pointer (some ⟨r, 0, none⟩) := E.pre 12 rfl
                refine step_plain rfl ?_
                refine op_val (v := .pointer (some ⟨r, 2, none⟩)) (w' := w') ?_ ⟨Below.refl _ _, rfl⟩
                have hcon := E.con
                clear E
                go_simp
              · intro ρ w' E
                have e129 : ρ (.tmp 129) = .pointer (some ⟨r, 2, none⟩) := E.pre 13 rfl
                refine step_plain rfl ?_
                refine op_val (v := .slice (some ⟨gD, 0, none⟩) n cD) (w' := w') ?_ ⟨Below.refl _ _, rfl⟩
                have hk := (World.cell?_of_block (w := wr) (E.below.block _ hlr)).trans q2
                have hcon := E.con
                clear E q1 q2 q3 q4 q5 d1 h1 t1 t2
                go_simp
              · intro ρ w' E
                have e6 : ρ (.tmp 6) = .int .i64 (i : Int) := E.out 6 rfl
                refine step_plain rfl ?_
                exact op_move (.inl rfl) e6 ⟨Below.refl _ _, rfl⟩
              · intro ρ w' E
                have e130 : ρ (.tmp 130) = .slice (some ⟨gD, 0, none⟩) n cD := E.pre 14 rfl
                have e131 : ρ (.tmp 131) = .int .i64 (i : Int) := E.pre 15 rfl
                refine step_plain rfl ?_
                refine op_val (v := .pointer (some ⟨gD, i, none⟩)) (w' := w') ?_ ⟨Below.refl _ _, rfl⟩
                have hcon := E.con
                clear E
                go_simp
              · intro ρ w' E
                have e132 : ρ (.tmp 132) = .pointer (some ⟨gD, i, none⟩) := E.pre 16 rfl
                refine step_plain rfl ?_
                refine op_val (v := .pointer (some ⟨d0, 0, none⟩)) (w' := w') ?_ ⟨Below.refl _ _, rfl⟩
                have hk := (World.cell?_of_block (w := wr) (E.below.block _ hlD)).trans d1
                have hcon := E.con
                clear E q1 q2 q3 q4 q5 d1 h1 t1 t2
                go_simp
              · intro ρ w' E
                have e133 : ρ (.tmp 133) = .pointer (some ⟨d0, 0, none⟩) := E.pre 17 rfl
                refine step_plain rfl ?_
                refine op_val (v := .pointer (some ⟨d0, 0, none⟩)) (w' := w') ?_ ⟨Below.refl _ _, rfl⟩
                have hcon := E.con
                clear E
                go_simp
              · intro ρ w' E
                have e134 : ρ (.tmp 134) = .pointer (some ⟨d0, 0, none⟩) := E.pre 18 rfl
                refine step_plain rfl ?_
                refine op_val (v := .pointer (some ⟨d0, 1, none⟩)) (w' := w') ?_ ⟨Below.refl _ _, rfl⟩
                have hcon := E.con
                clear E
                go_simp
              · intro ρ w' E
                have e135 : ρ (.tmp 135) = .pointer (some ⟨d0, 1, none⟩) := E.pre 19 rfl
                refine step_plain rfl ?_
                refine op_val (v := .agg #[.int .i64 Mb.cap, .slice aT kT cT]) (w' := w') ?_ ⟨Below.refl _ _, rfl⟩
                have k1 := (World.cell?_of_block (w := wr) (E.below.block _ hlT)).trans t1
                have k2 := (World.cell?_of_block (w := wr) (E.below.block _ hlT)).trans t2
                have hcon := E.con
                clear E q1 q2 q3 q4 q5 d1 h1 t1 t2
                go_simp
              · intro ρ w' E
                have e119 : ρ (.tmp 119) = .slice (some ⟨gV, 0, none⟩) N cV := E.pre 3 rfl
                have e126 : ρ (.tmp 126) = .int .i64 (u : Int) := E.pre 10 rfl
                refine step_plain rfl ?_
                refine op_val (v := .pointer (some ⟨gV, u * 2, none⟩)) (w' := w') ?_ ⟨Below.refl _ _, rfl⟩
                have hcon := E.con
                clear E
                go_simp
            · intro σ wq hb12 hall
              have h136 : σ 136 = .agg #[.int .i64 Mb.cap, .slice aT kT cT] := by obtain ⟨_, _, _, _, _, _, _, _, _, _, _, _, _, _, _, _, _, _, _, _, h, _⟩ := hall; exact h
              have h137 : σ 137 = .pointer (some ⟨gV, u * 2, none⟩) := by obtain ⟨_, _, _, _, _, _, _, _, _, _, _, _, _, _, _, _, _, _, _, _, _, h, _⟩ := hall; exact h
              clear hall
              simp only [upd, updL, dstsOf', elemB, List.filterMap_cons, List.filterMap_nil, Nat.reduceAdd, Nat.reduceBEq, Bool.or_false, Bool.false_or, Bool.or_true, Bool.true_or, cond_true, cond_false, Nat.zero_add, h136, h137]
              have hXq := H1.out.raw.ext hb12
              have hown := hXq.rowV
              rw [HgV.out] at hown
              have hts : V.ts.length = N := by rw [← HNv.out]; exact H0.out.nts
              have hTI : TapeIn B Z wq ⟨Mb, aT, kT, cT, csT⟩ := ⟨(HDT.out.ext hb12).r, HDT.out.cap, HZT.out⟩
              have HTI := Lib.hid hTI
              have HXq := Lib.hid hXq
              have HMq := Lib.hid (HM1.out.ext hb12)
              have hown2 := hown
              clear q1 q2 q3 q4 q5 h1 d1 t1 t2 hfr hlr hlT hlH hlD HM1 hXq hTI hb12
              go_wp2_with (refine wpList_store_elem rfl rfl 45 (.tmp 137) (.tmp 136) rfl TapeV.cells 2 TapeV.len (by decide) hown2 u ⟨Mb, aT, kT, cT, csT⟩ (by rw [hts]; exact hun) rfl rfl (by kernel_rfl) (TapeV.one _) ?_; intro w2 ho3 hbe3 hot3 hm3 hz3)
              have hpv := HXq.out.putV HgV.out (by rw [hts]; exact hun) HTI.out ho3 hm3
              obtain ⟨V2, vs, HV2, Hvs, HX2⟩ : ∃ V2 vs, Hid (TapesTo S V b V2 vs) ∧ Hid ((if b.vol < 0 then S.vols else S.vols.set b.vol.toNat b.M) = vs) ∧ Hid (RRaw B Z w2 r q V2 n (V.bs.map BayV.ptr) (V.bs.map BayV.held) (V.bs.map BayV.used) (S.asked + 1) S.mounts) :=
                ⟨{ V with ts := V.ts.set u ⟨Mb, aT, kT, cT, csT⟩ }, S.vols.set u b.M, Lib.hid (TapesTo.set H0.out HUu.out HMb.out (by rw [show (⟨Mb, aT, kT, cT, csT⟩ : TapeV).M = b.M from HMb.out]; exact ⟨Hgood.out.1.ok, Hgood.out.2⟩)), Lib.hid (by rw [if_neg (by rw [HUu.out]; omega), HUu.out]; rfl), Lib.hid (by have := hpv.1; rw [← HN.out]; exact this)⟩
              have HM2 := Lib.hid (HMq.out.trans hpv.2)
              clear hpv ho3 hbe3 hot3 hm3 hz3 hown hown2 HXq HMq HTI h136 h137 hts
              obtain ⟨ts2, hts2⟩ := HV2.out.eq
              have HgD2 := Lib.hid (show V2.aD = some ⟨gD, 0, none⟩ by rw [hts2]; exact HgD.out)
              have HgH2 := Lib.hid (show V2.aH = some ⟨gH, 0, none⟩ by rw [hts2]; exact HgH.out)
              have HgU2 := Lib.hid (show V2.aU = some ⟨gU, 0, none⟩ by rw [hts2]; exact HgU.out)
              have HgV2 := Lib.hid (show V2.aV = some ⟨gV, 0, none⟩ by rw [hts2]; exact HgV.out)
              have HcD2 := Lib.hid (show cD = V2.cD by rw [hts2]; exact HcD.out)
              have HcH2 := Lib.hid (show cH = V2.cH by rw [hts2]; exact HcH.out)
              have HcU2 := Lib.hid (show cU = V2.cU by rw [hts2]; exact HcU.out)
              have HcV2 := Lib.hid (show cV = V2.cV by rw [hts2]; exact HcV.out)
              clear hts2 HgD HgH HgU HgV HcD HcH HcU HcV
              have HgD := HgD2
              have HgH := HgH2
              have HgU := HgU2
              have HgV := HgV2
              clear HgD2 HgH2 HgU2 HgV2
              obtain ⟨gV', xv, eV', lV, hts, v0, v1, hTI, hXok, hXcap, _⟩ := tape_raw HX2.out (v := v) HV2.out.len HV2.out.ok hv
              rw [HgV.out] at eV'
              simp only [Option.some.injEq, Addr.mk.injEq, and_self, and_true] at eV'
              subst eV'
              have hxm : vs[v]? = some xv.M := by
                obtain ⟨y, e1, e2⟩ := HV2.out.vol v hv (.inl Hfv.out)
                rw [hts] at e1
                cases e1
                exact e2
              obtain ⟨m, hmM⟩ : ∃ m, m = xv.M := ⟨_, rfl⟩
              obtain ⟨aX, hAX⟩ : ∃ a, a = xv.a := ⟨_, rfl⟩
              obtain ⟨kX, hKX⟩ : ∃ k, k = xv.k := ⟨_, rfl⟩
              obtain ⟨cX, hCX⟩ : ∃ c, c = xv.c := ⟨_, rfl⟩
              obtain ⟨csX, hSX⟩ : ∃ c, c = xv.cs := ⟨_, rfl⟩
              have HX : Hid (MedR w2 B m aX kX cX csX) := Lib.hid (by rw [hmM, hAX, hKX, hCX, hSX]; exact hTI.r)
              have HXs := Lib.hid (show ∀ y ∈ csX, y.d.l.length ≤ 140737488355328 from by rw [hSX]; exact hTI.r.short (DGood.short (at_ := 0) ⟨hXok, 0, rfl, Nat.zero_le _⟩))
              have hkX : kX ≤ 100000 := by
                have h1 := HX.out.size
                have h2 := DGood.len (at_ := 0) (⟨hXok, 0, rfl, Nat.zero_le _⟩ : DGood xv.M 0)
                rw [hmM] at h1
                omega
              rw [← hmM] at v0 hxm
              rw [← hAX, ← hKX, ← hCX] at v1
              have Hxv := Lib.hid hxm
              obtain ⟨curV, hvo⟩ := own_at0' HX2.out.rowV HgV.out (by rw [HV2.out.len]; omega)
              have hob := HX2.out.obj
              obtain ⟨q0, q1, q2, q3, q4, q5, _, hfr, hlr⟩ := HX2.out.cells
              rw [HgV.out, HV2.out.len, HNv.out, ← HcV2.out] at q1
              rw [HgD.out, ← HcD2.out] at q2
              rw [HgH.out, ← HcH2.out] at q3
              rw [HgU.out, ← HcU2.out] at q4
              clear hts hTI hXok hXcap hxm hmM hAX hKX hCX hSX
              refine wp_region_chainL (by kernel_rfl) [26, 27, 28, 35, 37, 39] (Mod.rel (RB7 gD gH gU)) [SpT.eq (.pointer (some ⟨r, 0, none⟩)), SpT.eq (.pointer (some ⟨r, 0, none⟩)), SpT.eq (.pointer (some ⟨r, 2, none⟩)), SpT.eq (.slice (some ⟨gD, 0, none⟩) n cD), SpT.eq (.int .i64 (i : Int)), SpT.eq (.pointer (some ⟨r, 0, none⟩)), SpT.eq (.pointer (some ⟨r, 0, none⟩)), SpT.eq (.pointer (some ⟨r, 3, none⟩)), SpT.eq (.slice (some ⟨gH, 0, none⟩) n cH), SpT.eq (.int .i64 (i : Int)), SpT.eq (.pointer (some ⟨r, 0, none⟩)), SpT.eq (.pointer (some ⟨r, 0, none⟩)), SpT.eq (.pointer (some ⟨r, 4, none⟩)), SpT.eq (.slice (some ⟨gU, 0, none⟩) n cU), SpT.eq (.int .i64 (i : Int)), SpT.eq (.pointer (some ⟨r, 0, none⟩)), SpT.eq (.pointer (some ⟨r, 0, none⟩)), SpT.eq (.pointer (some ⟨r, 0, none⟩)), SpT.eq (.pointer (some ⟨q, 0, none⟩)), SpT.eq (.pointer (some ⟨r, 0, none⟩)), SpT.eq (.pointer (some ⟨r, 0, none⟩)), SpT.eq (.pointer (some ⟨r, 1, none⟩)), SpT.eq (.slice (some ⟨gV, 0, none⟩) N cV), SpT.eq (.int .i64 (v : Int)), SpT.eq (.pointer (some ⟨gV, v * 2, none⟩)), SpT.eq (.agg #[.int .i64 m.cap, .slice aX kX cX]), SpT.top, SpT.top, SpT.top, SpT.eq (.int .i64 (v : Int)), SpT.eq (.pointer (some ⟨r, 0, none⟩)), SpT.eq (.pointer (some ⟨r, 0, none⟩)), SpT.eq (.pointer (some ⟨r, 5, none⟩)), SpT.eq (.int .i64 (S.asked + 1)), SpT.eq (.pointer (some ⟨gD, i, none⟩)), SpT.top, SpT.eq (.pointer (some ⟨gH, i, none⟩)), SpT.top, SpT.eq (.pointer (some ⟨gU, i, none⟩)), SpT.top] (by kernel_rfl) (by kernel_rfl) (by kernel_rfl) (by kernel_rfl) ?_ ?_
              · refine stepsL_free rfl ?_ (stepsL_free rfl ?_ (stepsL_free rfl ?_ (stepsL_free rfl ?_ (stepsL_free rfl ?_ (stepsL_free rfl ?_ (stepsL_free rfl ?_ (stepsL_free rfl ?_ (stepsL_free rfl ?_ (stepsL_free rfl ?_ (stepsL_free rfl ?_ (stepsL_free rfl ?_ (stepsL_free rfl ?_ (stepsL_free rfl ?_ (stepsL_free rfl ?_ (stepsL_free rfl ?_ (stepsL_free rfl ?_ (stepsL_free rfl ?_ (stepsL_free rfl ?_ (stepsL_free rfl ?_ (stepsL_free rfl ?_ (stepsL_free rfl ?_ (stepsL_free rfl ?_ (stepsL_free rfl ?_ (stepsL_free rfl ?_ (stepsL_free rfl ?_ (stepsL_chain rfl (stepsL_chain rfl (stepsL_chain rfl (stepsL_free rfl ?_ (stepsL_free rfl ?_ (stepsL_free rfl ?_ (stepsL_free rfl ?_ (stepsL_free rfl ?_ (stepsL_free rfl ?_ (stepsL_chain rfl (stepsL_free rfl ?_ (stepsL_chain rfl (stepsL_free rfl ?_ (stepsL_chain rfl (stepsL_nil))))))))))))))))))))))))))))))))))))))))
                · intro ρ w' E
                  have e0 : ρ (.tmp 0) = .pointer (some ⟨r, 0, none⟩) := E.out 0 rfl
                  refine step_plain rfl ?_
                  exact op_move (.inl rfl) e0 ⟨Below.refl _ _, rfl⟩
                · intro ρ w' E
                  have e138 : ρ (.tmp 138) = .pointer (some ⟨r, 0, none⟩) := E.pre 0 rfl rfl
                  refine step_plain rfl ?_
                  refine op_val (v := .pointer (some ⟨r, 0, none⟩)) (w' := w') ?_ ⟨Below.refl _ _, rfl⟩
                  have hcon := E.con
                  clear E
                  go_simp
                · intro ρ w' E
                  have e139 : ρ (.tmp 139) = .pointer (some ⟨r, 0, none⟩) := E.pre 1 rfl rfl
                  refine step_plain rfl ?_
                  refine op_val (v := .pointer (some ⟨r, 2, none⟩)) (w' := w') ?_ ⟨Below.refl _ _, rfl⟩
                  have hcon := E.con
                  clear E
                  go_simp
                · intro ρ w' E
                  have e140 : ρ (.tmp 140) = .pointer (some ⟨r, 2, none⟩) := E.pre 2 rfl rfl
                  refine step_plain rfl ?_
                  refine op_val (v := .slice (some ⟨gD, 0, none⟩) n cD) (w' := w') ?_ ⟨Below.refl _ _, rfl⟩
                  have hk : w'.cell? ⟨r, 2, none⟩ = some (.slice (some ⟨gD, 0, none⟩) n cD) := (World.cell?_of_block (w := w2) ((E.t.keep hob (RB7_no _ (by decide) (by decide))).trans hob.symm)).trans q2
                  have hcon := E.con
                  clear E q0 q1 q2 q3 q4 q5 v0 v1
                  go_simp
                · intro ρ w' E
                  have e6 : ρ (.tmp 6) = .int .i64 (i : Int) := E.out 6 rfl
                  refine step_plain rfl ?_
                  exact op_move (.inl rfl) e6 ⟨Below.refl _ _, rfl⟩
                · intro ρ w' E
                  have e0 : ρ (.tmp 0) = .pointer (some ⟨r, 0, none⟩) := E.out 0 rfl
                  refine step_plain rfl ?_
                  exact op_move (.inl rfl) e0 ⟨Below.refl _ _, rfl⟩
                · intro ρ w' E
                  have e143 : ρ (.tmp 143) = .pointer (some ⟨r, 0, none⟩) := E.pre 5 rfl rfl
                  refine step_plain rfl ?_
                  refine op_val (v := .pointer (some ⟨r, 0, none⟩)) (w' := w') ?_ ⟨Below.refl _ _, rfl⟩
                  have hcon := E.con
                  clear E
                  go_simp
                · intro ρ w' E
                  have e144 : ρ (.tmp 144) = .pointer (some ⟨r, 0, none⟩) := E.pre 6 rfl rfl
                  refine step_plain rfl ?_
                  refine op_val (v := .pointer (some ⟨r, 3, none⟩)) (w' := w') ?_ ⟨Below.refl _ _, rfl⟩
                  have hcon := E.con
                  clear E
                  go_simp
                · intro ρ w' E
                  have e145 : ρ (.tmp 145) = .pointer (some ⟨r, 3, none⟩) := E.pre 7 rfl rfl
                  refine step_plain rfl ?_
                  refine op_val (v := .slice (some ⟨gH, 0, none⟩) n cH) (w' := w') ?_ ⟨Below.refl _ _, rfl⟩
                  have hk : w'.cell? ⟨r, 3, none⟩ = some (.slice (some ⟨gH, 0, none⟩) n cH) := (World.cell?_of_block (w := w2) ((E.t.keep hob (RB7_no _ (by decide) (by decide))).trans hob.symm)).trans q3
                  have hcon := E.con
                  clear E q0 q1 q2 q3 q4 q5 v0 v1
                  go_simp
                · intro ρ w' E
                  have e6 : ρ (.tmp 6) = .int .i64 (i : Int) := E.out 6 rfl
                  refine step_plain rfl ?_
                  exact op_move (.inl rfl) e6 ⟨Below.refl _ _, rfl⟩
                · intro ρ w' E
                  have e0 : ρ (.tmp 0) = .pointer (some ⟨r, 0, none⟩) := E.out 0 rfl
                  refine step_plain rfl ?_
                  exact op_move (.inl rfl) e0 ⟨Below.refl _ _, rfl⟩
                · intro ρ w' E
                  have e148 : ρ (.tmp 148) = .pointer (some ⟨r, 0, none⟩) := E.pre 10 rfl rfl
                  refine step_plain rfl ?_
                  refine op_val (v := .pointer (some ⟨r, 0, none⟩)) (w' := w') ?_ ⟨Below.refl _ _, rfl⟩
                  have hcon := E.con
                  clear E
                  go_simp
                · intro ρ w' E
                  have e149 : ρ (.tmp 149) = .pointer (some ⟨r, 0, none⟩) := E.pre 11 rfl rfl
                  refine step_plain rfl ?_
                  refine op_val (v := .pointer (some ⟨r, 4, none⟩)) (w' := w') ?_ ⟨Below.refl _ _, rfl⟩
                  have hcon := E.con
                  clear E
                  go_simp
                · intro ρ w' E
                  have e150 : ρ (.tmp 150) = .pointer (some ⟨r, 4, none⟩) := E.pre 12 rfl rfl
                  refine step_plain rfl ?_
                  refine op_val (v := .slice (some ⟨gU, 0, none⟩) n cU) (w' := w') ?_ ⟨Below.refl _ _, rfl⟩
                  have hk : w'.cell? ⟨r, 4, none⟩ = some (.slice (some ⟨gU, 0, none⟩) n cU) := (World.cell?_of_block (w := w2) ((E.t.keep hob (RB7_no _ (by decide) (by decide))).trans hob.symm)).trans q4
                  have hcon := E.con
                  clear E q0 q1 q2 q3 q4 q5 v0 v1
                  go_simp
                · intro ρ w' E
                  have e6 : ρ (.tmp 6) = .int .i64 (i : Int) := E.out 6 rfl
                  refine step_plain rfl ?_
                  exact op_move (.inl rfl) e6 ⟨Below.refl _ _, rfl⟩
                · intro ρ w' E
                  have e0 : ρ (.tmp 0) = .pointer (some ⟨r, 0, none⟩) := E.out 0 rfl
                  refine step_plain rfl ?_
                  exact op_move (.inl rfl) e0 ⟨Below.refl _ _, rfl⟩
                · intro ρ w' E
                  have e153 : ρ (.tmp 153) = .pointer (some ⟨r, 0, none⟩) := E.pre 15 rfl rfl
                  refine step_plain rfl ?_
                  refine op_val (v := .pointer (some ⟨r, 0, none⟩)) (w' := w') ?_ ⟨Below.refl _ _, rfl⟩
                  have hcon := E.con
                  clear E
                  go_simp
                · intro ρ w' E
                  have e154 : ρ (.tmp 154) = .pointer (some ⟨r, 0, none⟩) := E.pre 16 rfl rfl
                  refine step_plain rfl ?_
                  refine op_val (v := .pointer (some ⟨r, 0, none⟩)) (w' := w') ?_ ⟨Below.refl _ _, rfl⟩
                  have hcon := E.con
                  clear E
                  go_simp
                · intro ρ w' E
                  have e155 : ρ (.tmp 155) = .pointer (some ⟨r, 0, none⟩) := E.pre 17 rfl rfl
                  refine step_plain rfl ?_
                  refine op_val (v := .pointer (some ⟨q, 0, none⟩)) (w' := w') ?_ ⟨Below.refl _ _, rfl⟩
                  have hk : w'.cell? ⟨r, 0, none⟩ = some (.pointer (some ⟨q, 0, none⟩)) := (World.cell?_of_block (w := w2) ((E.t.keep hob (RB7_no _ (by decide) (by decide))).trans hob.symm)).trans q0
                  have hcon := E.con
                  clear E q0 q1 q2 q3 q4 q5 v0 v1
                  go_simp
                · intro ρ w' E
                  have e0 : ρ (.tmp 0) = .pointer (some ⟨r, 0, none⟩) := E.out 0 rfl
                  refine step_plain rfl ?_
                  exact op_move (.inl rfl) e0 ⟨Below.refl _ _, rfl⟩
                · intro ρ w' E
                  have e157 : ρ (.tmp 157) = .pointer (some ⟨r, 0, none⟩) := E.pre 19 rfl rfl
                  refine step_plain rfl ?_
                  refine op_val (v := .pointer (some ⟨r, 0, none⟩)) (w' := w') ?_ ⟨Below.refl _ _, rfl⟩
                  have hcon := E.con
                  clear E
                  go_simp
                · intro ρ w' E
                  have e158 : ρ (.tmp 158) = .pointer (some ⟨r, 0, none⟩) := E.pre 20 rfl rfl
                  refine step_plain rfl ?_
                  refine op_val (v := .pointer (some ⟨r, 1, none⟩)) (w' := w') ?_ ⟨Below.refl _ _, rfl⟩
                  have hcon := E.con
                  clear E
                  go_simp
                · intro ρ w' E
                  have e159 : ρ (.tmp 159) = .pointer (some ⟨r, 1, none⟩) := E.pre 21 rfl rfl
                  refine step_plain rfl ?_
                  refine op_val (v := .slice (some ⟨gV, 0, none⟩) N cV) (w' := w') ?_ ⟨Below.refl _ _, rfl⟩
                  have hk : w'.cell? ⟨r, 1, none⟩ = some (.slice (some ⟨gV, 0, none⟩) N cV) := (World.cell?_of_block (w := w2) ((E.t.keep hob (RB7_no _ (by decide) (by decide))).trans hob.symm)).trans q1
                  have hcon := E.con
                  clear E q0 q1 q2 q3 q4 q5 v0 v1
                  go_simp
                · intro ρ w' E
                  have e1 : ρ (.tmp 1) = .int .i64 (v : Int) := E.out 1 rfl
                  refine step_plain rfl ?_
                  exact op_move (.inl rfl) e1 ⟨Below.refl _ _, rfl⟩
                · intro ρ w' E
                  have e160 : ρ (.tmp 160) = .slice (some ⟨gV, 0, none⟩) N cV := E.pre 22 rfl rfl
                  have e161 : ρ (.tmp 161) = .int .i64 (v : Int) := E.pre 23 rfl rfl
                  refine step_plain rfl ?_
                  refine op_val (v := .pointer (some ⟨gV, v * 2, none⟩)) (w' := w') ?_ ⟨Below.refl _ _, rfl⟩
                  have hcon := E.con
                  clear E
                  go_simp
                · intro ρ w' E
                  have e162 : ρ (.tmp 162) = .pointer (some ⟨gV, v * 2, none⟩) := E.pre 24 rfl rfl
                  refine step_plain rfl ?_
                  refine op_val (v := .agg #[.int .i64 m.cap, .slice aX kX cX]) (w' := w') ?_ ⟨Below.refl _ _, rfl⟩
                  have hvb := (E.t.keep hvo (RB7_no _ (by decide) (by decide))).trans hvo.symm
                  have k1 := (World.cell?_of_block (w := w2) hvb).trans v0
                  have k2 := (World.cell?_of_block (w := w2) hvb).trans v1
                  have hcon := E.con
                  clear E hvb q0 q1 q2 q3 q4 q5 v0 v1
                  go_simp
                · intro ρ w' E
                  have e1 : ρ (.tmp 1) = .int .i64 (v : Int) := E.out 1 rfl
                  refine step_plain rfl ?_
                  exact op_move (.inl rfl) e1 ⟨Below.refl _ _, rfl⟩
                · intro ρ w' E
                  have e0 : ρ (.tmp 0) = .pointer (some ⟨r, 0, none⟩) := E.out 0 rfl
                  refine step_plain rfl ?_
                  exact op_move (.inl rfl) e0 ⟨Below.refl _ _, rfl⟩
                · intro ρ w' E
                  have e168 : ρ (.tmp 168) = .pointer (some ⟨r, 0, none⟩) := E.pre 30 rfl rfl
                  refine step_plain rfl ?_
                  refine op_val (v := .pointer (some ⟨r, 0, none⟩)) (w' := w') ?_ ⟨Below.refl _ _, rfl⟩
                  have hcon := E.con
                  clear E
                  go_simp
                · intro ρ w' E
                  have e169 : ρ (.tmp 169) = .pointer (some ⟨r, 0, none⟩) := E.pre 31 rfl rfl
                  refine step_plain rfl ?_
                  refine op_val (v := .pointer (some ⟨r, 5, none⟩)) (w' := w') ?_ ⟨Below.refl _ _, rfl⟩
                  have hcon := E.con
                  clear E
                  go_simp
                · intro ρ w' E
                  have e170 : ρ (.tmp 170) = .pointer (some ⟨r, 5, none⟩) := E.pre 32 rfl rfl
                  refine step_plain rfl ?_
                  refine op_val (v := .int .i64 (S.asked + 1)) (w' := w') ?_ ⟨Below.refl _ _, rfl⟩
                  have hk : w'.cell? ⟨r, 5, none⟩ = some (.int .i64 (S.asked + 1)) := (World.cell?_of_block (w := w2) ((E.t.keep hob (RB7_no _ (by decide) (by decide))).trans hob.symm)).trans q5
                  have hcon := E.con
                  clear E q0 q1 q2 q3 q4 q5 v0 v1
                  go_simp
                · intro ρ w' E
                  have e141 : ρ (.tmp 141) = .slice (some ⟨gD, 0, none⟩) n cD := E.pre 3 rfl rfl
                  have e142 : ρ (.tmp 142) = .int .i64 (i : Int) := E.pre 4 rfl rfl
                  refine step_plain rfl ?_
                  refine op_val (v := .pointer (some ⟨gD, i, none⟩)) (w' := w') ?_ ⟨Below.refl _ _, rfl⟩
                  have hcon := E.con
                  clear E
                  go_simp
                · intro ρ w' E
                  have e146 : ρ (.tmp 146) = .slice (some ⟨gH, 0, none⟩) n cH := E.pre 8 rfl rfl
                  have e147 : ρ (.tmp 147) = .int .i64 (i : Int) := E.pre 9 rfl rfl
                  refine step_plain rfl ?_
                  refine op_val (v := .pointer (some ⟨gH, i, none⟩)) (w' := w') ?_ ⟨Below.refl _ _, rfl⟩
                  have hcon := E.con
                  clear E
                  go_simp
                · intro ρ w' E
                  have e151 : ρ (.tmp 151) = .slice (some ⟨gU, 0, none⟩) n cU := E.pre 13 rfl rfl
                  have e152 : ρ (.tmp 152) = .int .i64 (i : Int) := E.pre 14 rfl rfl
                  refine step_plain rfl ?_
                  refine op_val (v := .pointer (some ⟨gU, i, none⟩)) (w' := w') ?_ ⟨Below.refl _ _, rfl⟩
                  have hcon := E.con
                  clear E
                  go_simp
              · intro ρ1 w1c G1 E1
                have e163 : ρ1 (.tmp 163) = .agg #[.int .i64 m.cap, .slice aX kX cX] := E1.pre 25 rfl rfl
                refine step_plain rfl ?_
                refine op_call (f := 13) (args := #[.agg #[.int .i64 m.cap, .slice aX kX cX]]) (w' := w1c) (by have hcon := E1.con; have hfn := E1.fn; clear E1 q0 q1 q2 q3 q4 q5 v0 v1; go_simp) ?_
                refine (twinmed_any m.cap aX cX kX csX w1c (HX.out.ext G1).mat HX.out.len.symm hkX HXs.out).mono ?_
                rintro e wx1 ⟨a2, c2, cs2, rfl, hl2, ho2, hp2, hb2⟩
                refine ⟨_, rfl, (Mod.rel (RB7 gD gH gU)).of hb2, ?_⟩
                intro ρ2 w2c G2 E2
                have e156 : ρ2 (.tmp 156) = .pointer (some ⟨q, 0, none⟩) := E2.pre 18 rfl rfl
                have e164 : ρ2 (.tmp 164) = .agg #[.int .i64 m.cap, .slice a2 kX c2] := E2.chn 26 164 rfl rfl rfl
                refine step_plain rfl ?_
                refine op_val (v := .agg #[.pointer (some ⟨q, 0, none⟩), .int .i64 m.cap, .slice a2 kX c2, .int .i64 0]) (w' := w2c) (by have hcon := E2.con; clear E2 q0 q1 q2 q3 q4 q5 v0 v1; go_simp) ⟨(Mod.rel (RB7 gD gH gU)).of (Below.refl _ _), ?_⟩
                intro ρ3 w3c G3 E3
                have e165 : ρ3 (.tmp 165) = .agg #[.pointer (some ⟨q, 0, none⟩), .int .i64 m.cap, .slice a2 kX c2, .int .i64 0] := E3.chn 27 165 rfl rfl rfl
                refine step_plain rfl ?_
                refine op_val (v := .pointer (some ⟨w3c.heap.size, 0, none⟩)) (w' := w3c.alloc (.cells #[.pointer (some ⟨q, 0, none⟩), .int .i64 m.cap, .slice a2 kX c2, .int .i64 0] 63)) (by have hcon := E3.con; clear E3 q0 q1 q2 q3 q4 q5 v0 v1; go_simp) ⟨(Mod.rel (RB7 gD gH gU)).of (ext_alloc _ _), ?_⟩
                intro ρ4 w4c G4 E4
                have e172 : ρ4 (.tmp 172) = .pointer (some ⟨gD, i, none⟩) := E4.pre 34 rfl rfl
                have e166 : ρ4 (.tmp 166) = .pointer (some ⟨w3c.heap.size, 0, none⟩) := E4.chn 28 166 rfl rfl rfl
                refine step_plain rfl ?_
                have hb04 := bthen (bthen (bthen G1 hb2 (Nat.le_refl _)) G2 (Nat.le_refl _)) G3 (Nat.le_refl _)
                have hb4 := bthen (ext_alloc w3c (.cells #[.pointer (some ⟨q, 0, none⟩), .int .i64 m.cap, .slice a2 kX c2, .int .i64 0] 63)) G4 (Nat.le_refl _)
                have hb05 := bthen hb04 hb4 (Nat.le_refl _)
                have hX4 := HX2.out.ext hb05
                obtain ⟨gD', eD', _, lD, atD, fD⟩ := hX4.rowD.at (i := i) hin
                rw [HgD.out] at eD'
                simp only [Option.some.injEq, Addr.mk.injEq, and_self, and_true] at eD'
                subst eD'
                refine op_store rfl e172 e166 rfl (atD i (by have := hX4.rowD.1; omega)) (fD _) (by kernel_rfl) ⟨hX4.mD hn0 HgD.out i _, ?_⟩
                have pD4 := hX4.putD HgD.out hin (.pointer (some ⟨w3c.heap.size, 0, none⟩))
                intro ρ5 w5c G5 E5
                have e173 : ρ5 (.tmp 173) = .pointer (some ⟨gH, i, none⟩) := E5.pre 36 rfl rfl
                have e167 : ρ5 (.tmp 167) = .int .i64 (v : Int) := E5.pre 29 rfl rfl
                refine step_plain rfl ?_
                have hX5 := pD4.1.ext G5
                obtain ⟨gH', eH', _, lH, atH, fH⟩ := hX5.rowH.at (i := i) hin
                rw [HgH.out] at eH'
                simp only [Option.some.injEq, Addr.mk.injEq, and_self, and_true] at eH'
                subst eH'
                refine op_store rfl e173 e167 rfl (atH i (by have := hX5.rowH.1; omega)) (fH _) (by kernel_rfl) ⟨hX5.mH hn0 HgH.out i _, ?_⟩
                have pH5 := hX5.putH HgH.out hin (.int .i64 (v : Int))
                intro ρ6 w6c G6 E6
                have e174 : ρ6 (.tmp 174) = .pointer (some ⟨gU, i, none⟩) := E6.pre 38 rfl rfl
                have e171 : ρ6 (.tmp 171) = .int .i64 (S.asked + 1) := E6.pre 33 rfl rfl
                refine step_plain rfl ?_
                have hX6 := pH5.1.ext G6
                obtain ⟨gU', eU', _, lU, atU, fU⟩ := hX6.rowU.at (i := i) hin
                rw [HgU.out] at eU'
                simp only [Option.some.injEq, Addr.mk.injEq, and_self, and_true] at eU'
                subst eU'
                refine op_store rfl e174 e171 rfl (atU i (by have := hX6.rowU.1; omega)) (fU _) (by kernel_rfl) ⟨trivial, ?_⟩
                intro σ wF GF hκ
                simp only [upd, updL, dstsOf', elemB, List.filterMap_cons, List.filterMap_nil, Nat.reduceAdd, Nat.reduceBEq, Bool.or_false, Bool.false_or, Bool.or_true, Bool.true_or, cond_true, cond_false, Nat.zero_add]
                have pU6 := hX6.putU HgU.out hin (.int .i64 (S.asked + 1))
                have hX7 := pU6.1.ext GF
                have hm06 : Mod (RR0 B Z) w2 wF := ((((((bmod hb05 _).trans pD4.2).ext G5).trans pH5.2).ext G6).trans pU6.2).ext GF
                have hMR : MedR wx1 B m a2 kX c2 cs2 := ⟨ho2.mono (by have := HX2.out.low; have := hlr; have := HUp.out.le; have := HM2.out.size; have := G1.size; omega), hl2, by rw [hp2]; exact HX.out.pls⟩
                have hbx : Below wx1.heap.size wx1 w4c := bthen (bthen G2 G3 (Nat.le_refl _)) hb4 (Nat.le_refl _)
                have hdn : w4c.heap[w3c.heap.size]? = _ := (G4.block w3c.heap.size (by rw [World.size_alloc]; omega)).trans (heap_alloc_at w3c (.cells #[.pointer (some ⟨q, 0, none⟩), .int .i64 m.cap, .slice a2 kX c2, .int .i64 0] 63))
                have hzn : RowsIn Z a2 kX c2 cs2 := (MedR.newRow (⟨ho2, hl2, by rw [hp2]; exact HX.out.pls⟩ : MedR wx1 w1c.heap.size m a2 kX c2 cs2)).mono fun b hb => HUp.out.up b (by have := HM2.out.size; have := G1.size; omega)
                have hszd : w.heap.size ≤ w3c.heap.size := Nat.le_trans HM2.out.size hb04.size
                have hk2 : kX ≤ c2 := by
                  have := ho2.row.len
                  rw [hl2] at this
                  exact this.1
                have hrd : RDr B w4c w3c.heap.size q m 0 a2 kX c2 cs2 := ⟨Nat.le_trans HUp.out.le hszd, hdn, hMR.ext hbx, hk2⟩
                have hm46 : Mod (RR0 B Z) w4c wF := ((((pD4.2.ext G5).trans pH5.2).ext G6).trans pU6.2).ext GF
                have hrdF := rdr_rr0 hrd hzn hm46
                have HRD := Lib.hid hrdF
                have HZN := Lib.hid hzn
                have HXF := Lib.hid hX7
                have HMF := Lib.hid (HM2.out.trans hm06)
                have HSZ := Lib.hid hszd
                generalize w3c.heap.size = dn at *
                clear hX4 hX5 hX6 hX7 pD4 pH5 pU6 hm06 hMR hbx hdn hzn hszd hk2 hrd hm46 hrdF hb05 hb04 hb4 G1 G2 G3 G4 G5 G6 GF E1 E2 E3 E4 E5 E6 hκ ho2 hl2 hp2 hb2 atD fD atH fH atU fU lD lH lU q0 q1 q2 q3 q4 q5 v0 v1 hvo hob e163 e164 e165 e166 e167 e171 e172 e173 e174 e156
                obtain ⟨_, _, q2, _, _, _, q6, hfr, hlr2⟩ := HXF.out.cells
                rw [HgD.out] at q2
                obtain ⟨gD', eD', _, lD, atD, _⟩ := HXF.out.rowD.at (i := i) hin
                rw [HgD.out] at eD'
                simp only [Option.some.injEq, Addr.mk.injEq, and_self, and_true] at eD'
                subst eD'
                have dF : wF.cell? ⟨gD, i, none⟩ = some (.pointer (some ⟨dn, 0, none⟩)) := by
                  have h1 := atD i (by have := HXF.out.rowD.1; omega)
                  rw [h1]
                  simp
                have hwm : IntKind.i64.wrap (S.mounts + 1) = S.mounts + 1 := by have := HOK.out.mounts; have := HOK.out.asked; rw [IntKind.wrap_i64]; omega
                have hXM := HXF.out.putMounts (S.mounts + 1)
                have HXM := Lib.hid hXM.1
                have HMM := Lib.hid (HMF.out.trans hXM.2)
                have HRM := Lib.hid (rdr_rr0 HRD.out HZN.out hXM.2)
                have dM : (wF.setCell ⟨r, 6, none⟩ (.int .i64 (S.mounts + 1))).cell? ⟨gD, i, none⟩ = some (.pointer (some ⟨dn, 0, none⟩)) := (World.cell?_setCell_other (w := wF) (a := ⟨r, 6, none⟩) (b := ⟨gD, i, none⟩) (v := Value.int .i64 (S.mounts + 1)) (by
                  intro h
                  have := (Addr.mk.inj h).1
                  subst this
                  have h1 := HXF.out.obj
                  have h2 := HXF.out.rowD
                  rw [HgD.out] at h2
                  obtain ⟨_, cur, hh⟩ := own_at1 h2 hn0
                  rw [hh] at h1
                  simp at h1)).trans dF
                clear hXM atD
                go_wp2
                go_ret2
                exact rr_mounted HOK.out H0.out H2D.out Hfv.out Hfree.out Hbi.out Hvs.out HN.out.symm HXM.out HMM.out HRM.out HZN.out HSZ.out HV2.out Hxv.out (HP.out.rr0 HMM.out) Hr.out ha hv
end Go.Proofs.Ytmaagkdehdmhlaa
