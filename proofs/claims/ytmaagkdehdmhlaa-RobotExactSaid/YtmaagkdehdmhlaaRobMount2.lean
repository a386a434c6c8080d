/- robot: Mount, walked. -/
import Derived.Test.YtmaagkdehdmhlaaRobotExactPartR
namespace Go.Proofs.Ytmaagkdehdmhlaa
open Go.RowKit

variable {B : Nat} {K : Nat → Prop} {w w' : World} {r g : Nat} {S : RS} {V : RobV} {D : Nat → Nat} {s : PS}
theorem getD_of {α : Type} {l : List α} {i : Nat} {x : α} (d : α) (h : l[i]? = some x) : l.getD i d = x := by rw [List.getD_eq_getElem?_getD, h]; rfl
theorem RS.mount_some {v i : Nat} (h : findV v S.bays = some i) : S.mount v = ({ S with asked := S.asked + 1, bays := S.bays.modify i fun b => { b with asked := S.asked + 1 } }, i) := by unfold RS.mount; rw [h]
theorem RS.mount_none {v i : Nat} {b : Bay} (h : findV v S.bays = none) (hi : freeB S.bays = i) (hb : S.bays[i]? = some b) {vs : List Med} (hvs : (if b.vol < 0 then S.vols else S.vols.set b.vol.toNat b.M) = vs) {m : Med} (hm : vs[v]? = some m) : S.mount v = (⟨S.size, vs, S.bays.set i ⟨v, S.asked + 1, m, 0⟩, S.asked + 1, S.mounts + 1⟩, i) := by
  unfold RS.mount
  rw [h]
  simp only [hi, getD_of _ hb, hvs, getD_of _ hm]
theorem RS.asked_ok (h : S.ok) (ha : S.asked < 4000000000000000000) {i : Nat} {b : Bay} (hi : S.bays[i]? = some b) : ({ S with asked := S.asked + 1, bays := S.bays.modify i fun b => { b with asked := S.asked + 1 } } : RS).ok := by
  have hil := (List.getElem?_eq_some_iff.1 hi).1
  have h0 := h.asked
  have h1 := h.mounts
  refine ⟨h.vols, ?_, h.size, h.good, ?_, ?_, ⟨by show 0 ≤ S.asked + 1; omega, by show S.asked + 1 ≤ _; omega⟩, ⟨h1.1, by show S.mounts ≤ S.asked + 1; omega⟩⟩
  · show 1 ≤ (S.bays.modify i _).length ∧ (S.bays.modify i _).length ≤ 4
    rw [List.length_modify]; exact h.drives
  · intro x hx
    change x ∈ S.bays.modify i _ at hx
    rw [modify_get hi] at hx
    rcases List.mem_or_eq_of_mem_set hx with hx | rfl
    · have := h.bay x hx; exact ⟨this.vol, ⟨this.asked.1, by show _ ≤ S.asked + 1; have := this.asked.2; omega⟩, this.good⟩
    · have := h.bay b (List.mem_of_getElem? hi); exact ⟨this.vol, ⟨by show 0 ≤ S.asked + 1; omega, Int.le_refl _⟩, this.good⟩
  · intro j k bj bk hj hk hv h0
    change (S.bays.modify i _)[j]? = _ at hj
    change (S.bays.modify i _)[k]? = _ at hk
    rw [modify_get hi, List.getElem?_set] at hj hk
    have key : ∀ n bn, (if i = n then (if i < S.bays.length then some { b with asked := S.asked + 1 } else none) else S.bays[n]?) = some bn → ∃ bn', S.bays[n]? = some bn' ∧ bn'.vol = bn.vol := by
      intro n bn hn
      split at hn
      · rename_i hin
        subst hin
        simp only [hil, if_true, Option.some.injEq] at hn
        exact ⟨b, hi, by rw [← hn]⟩
      · exact ⟨bn, hn, rfl⟩
    obtain ⟨b1, h1, e1⟩ := key j bj hj
    obtain ⟨b2, h2, e2⟩ := key k bk hk
    exact h.one j k b1 b2 h1 h2 (by rw [e1, e2]; exact hv) (by rw [e1]; exact h0)
theorem RS.mounted_ok (h : S.ok) (ha : S.asked < 4000000000000000000) {v i : Nat} {b : Bay} (hv : v < S.vols.length) (hf : findV v S.bays = none) (hi : S.bays[i]? = some b) {vs : List Med} (hvs : (if b.vol < 0 then S.vols else S.vols.set b.vol.toNat b.M) = vs) {m : Med} (hm : vs[v]? = some m) :
    (⟨S.size, vs, S.bays.set i ⟨v, S.asked + 1, m, 0⟩, S.asked + 1, S.mounts + 1⟩ : RS).ok ∧ vs.length = S.vols.length ∧ m.ok = true ∧ m.cap = S.size := by
  have hil := (List.getElem?_eq_some_iff.1 hi).1
  have h0 := h.asked
  have h1 := h.mounts
  have hbk := h.bay b (List.mem_of_getElem? hi)
  have hl : vs.length = S.vols.length := by rw [← hvs]; split <;> simp
  have hg : ∀ x ∈ vs, x.ok = true ∧ x.cap = S.size := by
    intro x hx
    rw [← hvs] at hx
    split at hx
    · exact h.good x hx
    · rename_i hnv
      rcases List.mem_or_eq_of_mem_set hx with hx | rfl
      · exact h.good x hx
      · have := hbk.good (by omega); exact ⟨this.1.ok, this.2⟩
  have hmg := hg m (List.mem_of_getElem? hm)
  refine ⟨⟨?_, ?_, h.size, hg, ?_, ?_, ⟨by show 0 ≤ S.asked + 1; omega, by show S.asked + 1 ≤ _; omega⟩, ⟨by show 0 ≤ S.mounts + 1; omega, by show S.mounts + 1 ≤ S.asked + 1; omega⟩⟩, hl, hmg⟩
  · show 1 ≤ vs.length ∧ vs.length ≤ 8
    rw [hl]; exact h.vols
  · show 1 ≤ (S.bays.set i _).length ∧ (S.bays.set i _).length ≤ 4
    rw [List.length_set]; exact h.drives
  · intro x hx
    rcases List.mem_or_eq_of_mem_set hx with hx | rfl
    · have := h.bay x hx; exact ⟨by show -1 ≤ x.vol ∧ x.vol < (vs.length : Int); rw [hl]; exact this.vol, ⟨this.asked.1, by show _ ≤ S.asked + 1; have := this.asked.2; omega⟩, this.good⟩
    · exact ⟨by show -1 ≤ (v : Int) ∧ (v : Int) < (vs.length : Int); omega, ⟨by show 0 ≤ S.asked + 1; omega, Int.le_refl _⟩, fun _ => ⟨⟨hmg.1, 0, rfl, Nat.zero_le _⟩, hmg.2⟩⟩
  · intro j k bj bk hj hk hv h0
    change (S.bays.set i _)[j]? = _ at hj
    change (S.bays.set i _)[k]? = _ at hk
    rw [List.getElem?_set] at hj hk
    have hno := findV_none hf
    by_cases hij : i = j
    · subst hij
      by_cases hik : i = k
      · exact hik
      · rw [if_neg hik] at hk
        simp only [if_true, hil, Option.some.injEq] at hj
        exact absurd (by rw [← hv, ← hj]) (hno bk (List.mem_of_getElem? hk))
    · rw [if_neg hij] at hj
      by_cases hik : i = k
      · subst hik
        simp only [if_true, hil, Option.some.injEq] at hk
        exact absurd (by rw [hv, ← hk]) (hno bj (List.mem_of_getElem? hj))
      · rw [if_neg hik] at hk
        exact h.one j k bj bk hj hk hv h0

theorem bays_mod {l : List BayV} {i j : Nat} {q : Int} {y : BayV} (h : (l.modify i fun x => ⟨{ x.b with asked := q }, x.d⟩)[j]? = some y) : ∃ z, l[j]? = some z ∧ y.d = z.d ∧ y.b.vol = z.b.vol := by
  rw [List.getElem?_modify] at h
  cases hz : l[j]? with
  | none => rw [hz] at h; cases h
  | some z =>
    rw [hz] at h
    replace h := Option.some.inj h
    refine ⟨z, rfl, ?_⟩
    by_cases hij : i = j
    · subst hij; dsimp only at h; rw [if_pos rfl] at h; rw [← h]; exact ⟨rfl, rfl⟩
    · dsimp only at h; rw [if_neg hij] at h; rw [← h]; exact ⟨rfl, rfl⟩
theorem rob_mount_off (v : Int) (w : World) (h : RobP B K w r g S D s) (hs : s.off = true) :
    Calls Try.prog 24 #[.pointer (some ⟨r, 0, none⟩), .int .i64 v] w fun e w' => e = .returned (.tuple #[.pointer none, .int .i64 5]) ∧ w = w' := by
  obtain ⟨⟨V, h1, h2⟩, hok, hp⟩ := h
  obtain ⟨r0, r1, r2, r3, r4, r5⟩ := h1.cells
  clear h1 h2 hok
  go_enter Try.func24, Try.ntmps24
  go_wp2_with fail
  refine (off_at hp hs).mono ?_
  rintro e w1 ⟨rfl, rfl⟩
  clear hp hs
  go_wp2
  go_ret2
  exact ⟨rfl, rfl⟩
theorem rob_mount_arg (v : Int) (w : World) (h : RobP B K w r g S D s) (hs : s.off = false) (hv : v < 0 ∨ (S.vols.length : Int) ≤ v) :
    Calls Try.prog 24 #[.pointer (some ⟨r, 0, none⟩), .int .i64 v] w fun e w' => e = .returned (.tuple #[.pointer none, .int .i64 1]) ∧ w = w' := by
  obtain ⟨⟨V, h1, h2⟩, hok, hp⟩ := h
  obtain ⟨r0, r1, r2, r3, r4, r5⟩ := h1.cells
  have hn8 := hok.vols.2
  clear h1 h2 hok
  generalize S.vols.length = n at *
  go_enter Try.func24, Try.ntmps24
  go_wp2_with fail
  refine (off_at hp hs).mono ?_
  rintro e w1 ⟨rfl, rfl⟩
  clear hp hs
  by_cases h0 : v < 0
  · have e0 : decide (v < 0) = true := by simpa using h0
    clear hv
    go_wp2
    go_ret2
    exact ⟨rfl, rfl⟩
  · have e0 : decide (v < 0) = false := by simpa using h0
    have e1 : decide (v ≥ (n : Int)) = true := by simp; omega
    clear hv
    go_wp2
    go_ret2
    exact ⟨rfl, rfl⟩

set_option maxRecDepth 100000 in
set_option maxHeartbeats 2000000 in
theorem rob_mount_found (v : Nat) (i : Nat) (w : World) (h : RobP B K w r g S D s) (hs : s.off = false) (hv : v < S.vols.length) (ha : S.asked < 4000000000000000000) (hf : findV v S.bays = some i) :
    Calls Try.prog 24 #[.pointer (some ⟨r, 0, none⟩), .int .i64 v] w fun e w' => e = .returned (.tuple #[.pointer (some ⟨D i, 0, none⟩), .int .i64 0]) ∧ RobP B K w' r g { S with asked := S.asked + 1, bays := S.bays.modify i fun b => { b with asked := S.asked + 1 } } D s ∧ Mod (RobG B K) w w' := by
  obtain ⟨⟨V, h1, h2⟩, hok, hp⟩ := h
  obtain ⟨b, hbi, hbv, hbl⟩ := findV_some hf
  have hil := (List.getElem?_eq_some_iff.1 hbi).1
  obtain ⟨bB, hB, _, hlB, hat, hfz⟩ := h1.bay (by omega)
  obtain ⟨r0, r1, r2, r3, r4, r5⟩ := h1.cells
  have hne := h1.ne hB (by omega)
  have fr := frozen_of_row w r 4 _ _ h1.obj
  obtain ⟨h3, hm3⟩ := h1.setAsked (S.asked + 1)
  have hok2 := RS.asked_ok hok ha hbi
  have hlr := heap_lt h1.obj
  have HF := Lib.hid hf
  have H3 := Lib.hid h3
  have HM3 := Lib.hid hm3
  have HB := Lib.hid hB
  have HBI := Lib.hid hbi
  have HD := Lib.hid hok.drives
  have HA := Lib.hid hok.asked
  have HP := Lib.hid hp
  have HOK2 := Lib.hid hok2
  have hn8 := hok.vols.2
  have hvn : ∃ n, n = S.vols.length ∧ v < n ∧ n ≤ 8 := ⟨_, rfl, hv, hn8⟩
  obtain ⟨n, hn, hvn, hn8'⟩ := hvn
  have hwa : IntKind.i64.wrap (S.asked + 1) = S.asked + 1 := by have := hok.asked; rw [IntKind.wrap_i64]; omega
  have e0 : decide ((v : Int) < 0) = false := by simp
  have e1 : decide ((v : Int) ≥ (n : Int)) = false := by simp; omega
  have h2' : D i = D i ∧ ∀ y, V.bs[i]? = some y → 0 ≤ y.b.vol → y.d = D i := ⟨rfl, fun y hy hv => h2 i y hy hv⟩
  have H2 := Lib.hid h2
  rw [← hn] at r2
  clear h1 h2 h2' hok hok2 h3 hm3 hf hB hv hn8 hn hbl ha
  go_enter Try.func24, Try.ntmps24
  go_wp2_with fail
  refine (off_at hp hs).mono ?_
  rintro e w1 ⟨rfl, rfl⟩
  clear hp hs
  go_wp2_with fail
  refine (rob_in (v : Int) (some ⟨bB, i * 3, none⟩) bB _ H3.out HD.out HB.out (by rw [HF.out]; rfl)).mono ?_
  rintro e w2 ⟨rfl, rfl⟩
  obtain ⟨bB', hB', _, hlB2, hat2, hfz2⟩ := H3.out.bay (by show 0 < S.bays.length; omega)
  rw [HB.out] at hB'
  simp only [Option.some.injEq, Addr.mk.injEq, and_true] at hB'
  subst hB'
  obtain ⟨c1, c2, c0⟩ := hat2 i hil
  have hbe : S.bays[i] = b := by have := HBI.out; rw [List.getElem?_eq_getElem hil] at this; exact Option.some.inj this
  obtain ⟨y, hy, hyb, c0⟩ := c0 (by show 0 ≤ S.bays[i].vol; rw [hbe, hbv]; omega)
  have hyd : y.d = D i := H2.out i y hy (by rw [hyb]; show 0 ≤ S.bays[i].vol; rw [hbe, hbv]; omega)
  rw [hyd] at c0
  obtain ⟨q0, q1, q2, q3, q4, q5⟩ := H3.out.cells
  obtain ⟨h5, hm5⟩ := H3.out.setBayAsked (i := i) (b := b) HB.out HBI.out (S.asked + 1)
  have H5 := Lib.hid h5
  have HM5 := Lib.hid (HM3.out.trans hm5)
  have hfi := hfz2 (i * 3 + 2)
  clear h5 hm5 hat hat2 hfz hfz2 HF r0 r1 r2 r3 r4 r5 hy hyb q0 q1 q2 q3 q5 H3 hyd fr e0 e1 hwa
  change _ = some (Value.int .i64 (S.asked + 1)) at q4
  have HP5 := Lib.hid (RobG.pow HM5.out HP.out)
  generalize w.setCell ⟨r, 4, none⟩ (.int .i64 (S.asked + 1)) = w2 at *
  have c0' := (World.cell?_setCell_other (w := w2) (a := ⟨bB, i * 3 + 2, none⟩) (b := ⟨bB, i * 3, none⟩) (v := Value.int .i64 (S.asked + 1)) (by simp)).trans c0
  go_wp2
  go_ret2
  refine ⟨rfl, ⟨⟨_, H5.out, fun j y hy hv => ?_⟩, HOK2.out, HP5.out⟩, HM5.out⟩
  change (V.bs.modify i _)[j]? = some y at hy
  obtain ⟨z, hz, e1, e2⟩ := bays_mod hy
  rw [e1]
  exact H2.out j z hz (by rw [← e2]; exact hv)

set_option maxRecDepth 100000 in
set_option maxHeartbeats 4000000 in
theorem rob_mount_new (v : Nat) (i : Nat) (b : Bay) (vs : List Med) (m : Med) (w : World) (h : RobP B K w r g S D s) (hu : Up B K w) (hs : s.off = false) (hv : v < S.vols.length) (ha : S.asked < 4000000000000000000) (hf : findV v S.bays = none) (hfr : freeB S.bays = i) (hbi : S.bays[i]? = some b)
    (hvs : (if b.vol < 0 then S.vols else S.vols.set b.vol.toNat b.M) = vs) (hm : vs[v]? = some m) :
    Calls Try.prog 24 #[.pointer (some ⟨r, 0, none⟩), .int .i64 v] w fun e w' => ∃ d, e = .returned (.tuple #[.pointer (some ⟨d, 0, none⟩), .int .i64 0]) ∧ w.heap.size ≤ d ∧ RobP B K w' r g ⟨S.size, vs, S.bays.set i ⟨v, S.asked + 1, m, 0⟩, S.asked + 1, S.mounts + 1⟩ (fun j => if j = i then d else D j) s ∧ Mod (RobG B K) w w' := by
  obtain ⟨⟨V, h1, h2⟩, hok, hp⟩ := h
  have hil := (List.getElem?_eq_some_iff.1 hbi).1
  obtain ⟨hokN, hvl, hmok, hmcap⟩ := RS.mounted_ok hok ha hv hf hbi hvs hm
  obtain ⟨bB, hB, _, hlB, hat, hfz⟩ := h1.bay (by omega)
  obtain ⟨r0, r1, r2, r3, r4, r5⟩ := h1.cells
  have hne := h1.ne hB (by omega)
  have fr := frozen_of_row w r 4 _ _ h1.obj
  obtain ⟨h3, hm3⟩ := h1.setAsked (S.asked + 1)
  have hlr := heap_lt h1.obj
  have HOK := Lib.hid hok
  have HF := Lib.hid hf
  have HFR := Lib.hid hfr
  have H3 := Lib.hid h3
  have HM3 := Lib.hid hm3
  have HB := Lib.hid hB
  have HBI := Lib.hid hbi
  have HD := Lib.hid hok.drives
  have HA := Lib.hid hok.asked
  have HP := Lib.hid hp
  have HVS := Lib.hid hvs
  have HM := Lib.hid hm
  have HVL := Lib.hid hvl
  have HOKN := Lib.hid hokN
  have HMOK := Lib.hid hmok
  have HU := Lib.hid hu
  obtain ⟨n, hn, hvn, hn8⟩ : ∃ n, n = S.vols.length ∧ v < n ∧ n ≤ 8 := ⟨_, rfl, hv, hok.vols.2⟩
  have HN := Lib.hid hn
  have hwa : IntKind.i64.wrap (S.asked + 1) = S.asked + 1 := by have := hok.asked; rw [IntKind.wrap_i64]; omega
  have e0 : decide ((v : Int) < 0) = false := by simp
  have e1 : decide ((v : Int) ≥ (n : Int)) = false := by simp; omega
  have H2 := Lib.hid h2
  rw [← hn] at r2
  clear h1 h2 hok h3 hm3 hf hB hv hn ha hvs hm hvl hokN hmok hmcap hu hbi hfr
  go_enter Try.func24, Try.ntmps24
  go_wp2_with fail
  refine (off_at hp hs).mono ?_
  rintro e w1 ⟨rfl, rfl⟩
  clear hp hs
  go_wp2_with fail
  refine (rob_in (v : Int) none bB _ H3.out HD.out HB.out (by rw [HF.out]; rfl)).mono ?_
  rintro e w2 ⟨rfl, rfl⟩
  clear hat hfz HF r0 r1 r2 r3 r4 r5 fr e0 e1 hwa
  generalize w.setCell ⟨r, 4, none⟩ (.int .i64 (S.asked + 1)) = w2 at *
  go_wp2_with fail
  refine (rob_free i bB _ H3.out HD.out HB.out HFR.out).mono ?_
  rintro e wx ⟨rfl, hb3⟩
  have H4 := Lib.hid (H3.out.ext hb3)
  have HM4 := Lib.hid (HM3.out.trans (bmod hb3 _))
  clear H3 HM3 hb3
  obtain ⟨x9, hx9, _, hlB, hat9, _⟩ := H4.out.bay (by show 0 < S.bays.length; omega)
  rw [HB.out] at hx9
  simp only [Option.some.injEq, Addr.mk.injEq, and_true] at hx9
  subst hx9
  obtain ⟨b1, b2, b0⟩ := hat9 i hil
  have hbe : S.bays[i] = b := by have := HBI.out; rw [List.getElem?_eq_getElem hil] at this; exact Option.some.inj this
  change _ = some (Value.int .i64 S.bays[i].vol) at b1
  rw [hbe] at b1
  by_cases hbv : b.vol < 0
  · have eb : decide (b.vol ≥ 0) = false := by simp; omega
    obtain ⟨Vx, hVx⟩ : ∃ Vx, Vx = V := ⟨_, rfl⟩
    have hvs0 := HVS.out
    rw [if_pos hbv] at hvs0
    have HX : Hid (RobL B K wx r g ⟨S.size, vs, S.bays, S.asked + 1, S.mounts⟩ Vx) := Lib.hid (by rw [hVx, ← hvs0]; exact H4.out)
    have HMX := HM4
    have HBx : Hid (Vx.aB = some ⟨bB, 0, none⟩) := Lib.hid (by rw [hVx]; exact HB.out)
    have HH2 : Hid (∀ i x, Vx.bs[i]? = some x → 0 ≤ x.b.vol → x.d = D i) := Lib.hid (by rw [hVx]; exact H2.out)
    clear hVx hvs0 H4 HM4 b0 b2 hat9 hbe HVS
    generalize b.vol = bvol at b1 eb
    go_wp2_with fail
    clear b1 eb hbv
    -- world wx; HX: RobL B K wx r g ⟨S.size, vs, S.bays, S.asked + 1, S.mounts⟩ Vx; HMX: Mod (RobG B K) w wx; HBx: Vx.aB; HH2
    have hvl2 : v < Vx.ts.length := by rw [HX.out.tlen]; show v < vs.length; rw [HVL.out, ← HN.out]; exact hvn
    obtain ⟨nM, hnM, _, hlM, hatM, _⟩ := HX.out.rowM.elem TapeV.len (by decide) (i := v) hvl2
    have m0 := hatM 0 _ rfl
    have m1 := hatM 1 _ rfl
    have htv : m = Vx.ts[v].M := by
      have h1 := HM.out
      have h2 : vs = Vx.ts.map TapeV.M := HX.out.vols
      rw [h2, List.getElem?_map, List.getElem?_eq_getElem hvl2] at h1
      exact (Option.some.inj h1).symm
    have hTV := HX.out.tape Vx.ts[v] (List.getElem_mem hvl2)
    generalize Vx.ts[v] = tv at *
    obtain ⟨Mx, ax, kx, cx, usx⟩ := tv
    dsimp only at m0 m1 htv hTV
    subst htv
    rw [Nat.add_zero] at m0
    have hmg : DGood m 0 := ⟨HMOK.out, 0, rfl, Nat.zero_le _⟩
    have HTx := Lib.hid hTV.r.mat
    have Hkx : Hid (kx = usx.length ∧ kx ≤ 100000 ∧ ∀ x ∈ usx, x.d.l.length ≤ 140737488355328) := Lib.hid ⟨hTV.r.len.symm, by have := hmg.len; rw [← hTV.r.pls, pls_length, hTV.r.len] at this; change kx ≤ 90000 at this; omega, hTV.r.short hmg.short⟩
    have Hokx : Hid ((medOf m.cap usx).ok = true) := Lib.hid (by rw [hTV.r.of]; exact HMOK.out)
    have Hpx : Hid (⟨m.cap, pls usx⟩ = m) := Lib.hid hTV.r.of
    obtain ⟨r0, r1, r2, r3, r4, r5⟩ := HX.out.cells
    have hlr := heap_lt HX.out.obj
    rw [hnM] at r2
    change _ = some (Value.slice _ vs.length _) at r2
    rw [show vs.length = n from HVL.out.trans HN.out.symm] at r2
    have hcapx : ∃ capx, capx = m.cap := ⟨_, rfl⟩
    obtain ⟨capx, hcapx⟩ := hcapx
    rw [← hcapx] at m0 Hokx Hpx
    generalize Vx.cM = cM at *
    clear hTV hatM hmg r1 r3 r4 r5 hcapx
    go_wp2_with fail
    refine wp_region_phase (by kernel_rfl) [] (by kernel_rfl) (by kernel_rfl) ?_
    refine stage_last [Sp.eq (.pointer (some ⟨r, 0, none⟩)), Sp.eq (.pointer (some ⟨r, 0, none⟩)), Sp.eq (.pointer (some ⟨r, 0, none⟩)), Sp.eq (.pointer (some ⟨g, 0, none⟩)), Sp.eq (.pointer (some ⟨r, 0, none⟩)), Sp.eq (.pointer (some ⟨r, 0, none⟩)), Sp.eq (.pointer (some ⟨r, 2, none⟩)), Sp.eq (.slice (some ⟨nM, 0, none⟩) n cM), Sp.eq (.int .i64 (v : Int)), Sp.eq (.pointer (some ⟨nM, v * 2, none⟩)), Sp.eq (.agg #[.int .i64 capx, .slice ax kx cx]), ⟨fun w v => ∃ p, v = .tuple #[p, .int .i64 0] ∧ AnsD wx.heap.size g ⟨capx, pls usx⟩ w p, fun _ _ _ ⟨p, h, hd⟩ hb => ⟨p, h, AnsD.st _ _ _ hd hb⟩⟩, ⟨fun w v => ∃ p, v = .tuple #[p, .int .i64 0] ∧ AnsD wx.heap.size g ⟨capx, pls usx⟩ w p, fun _ _ _ ⟨p, h, hd⟩ hb => ⟨p, h, AnsD.st _ _ _ hd hb⟩⟩, ⟨AnsD wx.heap.size g ⟨capx, pls usx⟩, AnsD.st⟩, Sp.eq (.int .i64 0), ⟨AnsD wx.heap.size g ⟨capx, pls usx⟩, AnsD.st⟩, Sp.eq (.int .i64 0)] ?_ ?_
    · refine stepsG_cons ?_ (stepsG_cons ?_ (stepsG_cons ?_ (stepsG_cons ?_ (stepsG_cons ?_ (stepsG_cons ?_ (stepsG_cons ?_ (stepsG_cons ?_ (stepsG_cons ?_ (stepsG_cons ?_ (stepsG_cons ?_ (stepsG_cons ?_ (stepsG_cons ?_ (stepsG_cons ?_ (stepsG_cons ?_ (stepsG_cons ?_ (stepsG_cons ?_ (stepsG_nil)))))))))))))))))
      · intro ρ w' E
        have e0 : ρ (.tmp 0) = .pointer (some ⟨r, 0, none⟩) := E.out 0 rfl
        refine step_plain rfl ?_
        exact op_move (.inl rfl) e0 ⟨Below.refl _ _, rfl⟩
      · intro ρ w' E
        have e63 : ρ (.tmp 63) = .pointer (some ⟨r, 0, none⟩) := E.pre 0 rfl rfl
        refine step_plain rfl ?_
        refine op_val (v := .pointer (some ⟨r, 0, none⟩)) (w' := w') ?_ ⟨Below.refl _ _, rfl⟩
        have hcon := E.con
        clear E
        go_simp
      · intro ρ w' E
        have e64 : ρ (.tmp 64) = .pointer (some ⟨r, 0, none⟩) := E.pre 1 rfl rfl
        refine step_plain rfl ?_
        refine op_val (v := .pointer (some ⟨r, 0, none⟩)) (w' := w') ?_ ⟨Below.refl _ _, rfl⟩
        have hcon := E.con
        clear E
        go_simp
      · intro ρ w' E
        have e65 : ρ (.tmp 65) = .pointer (some ⟨r, 0, none⟩) := E.pre 2 rfl rfl
        refine step_plain rfl ?_
        refine op_val (v := .pointer (some ⟨g, 0, none⟩)) (w' := w') ?_ ⟨Below.refl _ _, rfl⟩
        have hk := (World.cell?_of_block (w := wx) (E.below.block _ hlr)).trans r0
        have hcon := E.con
        clear E r0 r2 m0 m1
        go_simp
      · intro ρ w' E
        have e0 : ρ (.tmp 0) = .pointer (some ⟨r, 0, none⟩) := E.out 0 rfl
        refine step_plain rfl ?_
        exact op_move (.inl rfl) e0 ⟨Below.refl _ _, rfl⟩
      · intro ρ w' E
        have e67 : ρ (.tmp 67) = .pointer (some ⟨r, 0, none⟩) := E.pre 4 rfl rfl
        refine step_plain rfl ?_
        refine op_val (v := .pointer (some ⟨r, 0, none⟩)) (w' := w') ?_ ⟨Below.refl _ _, rfl⟩
        have hcon := E.con
        clear E
        go_simp
      · intro ρ w' E
        have e68 : ρ (.tmp 68) = .pointer (some ⟨r, 0, none⟩) := E.pre 5 rfl rfl
        refine step_plain rfl ?_
        refine op_val (v := .pointer (some ⟨r, 2, none⟩)) (w' := w') ?_ ⟨Below.refl _ _, rfl⟩
        have hcon := E.con
        clear E
        go_simp
      · intro ρ w' E
        have e69 : ρ (.tmp 69) = .pointer (some ⟨r, 2, none⟩) := E.pre 6 rfl rfl
        refine step_plain rfl ?_
        refine op_val (v := .slice (some ⟨nM, 0, none⟩) n cM) (w' := w') ?_ ⟨Below.refl _ _, rfl⟩
        have hk := (World.cell?_of_block (w := wx) (E.below.block _ hlr)).trans r2
        have hcon := E.con
        clear E r0 r2 m0 m1
        go_simp
      · intro ρ w' E
        have e1 : ρ (.tmp 1) = .int .i64 (v : Int) := E.out 1 rfl
        refine step_plain rfl ?_
        exact op_move (.inl rfl) e1 ⟨Below.refl _ _, rfl⟩
      · intro ρ w' E
        have e70 : ρ (.tmp 70) = .slice (some ⟨nM, 0, none⟩) n cM := E.pre 7 rfl rfl
        have e71 : ρ (.tmp 71) = .int .i64 (v : Int) := E.pre 8 rfl rfl
        refine step_plain rfl ?_
        refine op_val (v := .pointer (some ⟨nM, v * 2, none⟩)) (w' := w') ?_ ⟨Below.refl _ _, rfl⟩
        have hcon := E.con
        clear E
        go_simp
      · intro ρ w' E
        have e72 : ρ (.tmp 72) = .pointer (some ⟨nM, v * 2, none⟩) := E.pre 9 rfl rfl
        refine step_plain rfl ?_
        refine op_val (v := .agg #[.int .i64 capx, .slice ax kx cx]) (w' := w') ?_ ⟨Below.refl _ _, rfl⟩
        have k0 := (World.cell?_of_block (w := wx) (E.below.block _ hlM)).trans m0
        have k1 := (World.cell?_of_block (w := wx) (E.below.block _ hlM)).trans m1
        have hcon := E.con
        clear E r0 r2 m0 m1
        go_simp
      · intro ρ w' E
        have e66 : ρ (.tmp 66) = .pointer (some ⟨g, 0, none⟩) := E.pre 3 rfl rfl
        have e73 : ρ (.tmp 73) = .agg #[.int .i64 capx, .slice ax kx cx] := E.pre 10 rfl rfl
        refine step_plain rfl ?_
        refine op_call (f := 50) (args := #[.pointer (some ⟨g, 0, none⟩), .agg #[.int .i64 capx, .slice ax kx cx]]) (w' := w') (by have hcon := E.con; have hfn := E.fn; clear E; go_simp) ?_
        refine (drv_new (g := g) capx ax cx kx usx w' (HTx.out.ext E.below) Hkx.out.1 Hkx.out.2.1 Hkx.out.2.2 Hokx.out).mono ?_
        rintro e w2 ⟨d, a, c, cs, rfl, hd, hb⟩
        exact ⟨_, rfl, hb, _, rfl, d, a, kx, c, cs, rfl, hd.mono E.below.size fun b _ h => Nat.le_trans E.below.size h⟩
      · intro ρ w' E
        have p74 : (fun w v => ∃ p, v = .tuple #[p, .int .i64 0] ∧ AnsD wx.heap.size g ⟨capx, pls usx⟩ w p) w' (ρ (.tmp 74)) := E.pre 11 rfl rfl
        refine step_plain rfl ?_
        exact op_move (.inl rfl) rfl ⟨Below.refl _ _, p74⟩
      · intro ρ w' E
        have p62 : (fun w v => ∃ p, v = .tuple #[p, .int .i64 0] ∧ AnsD wx.heap.size g ⟨capx, pls usx⟩ w p) w' (ρ (.tmp 62)) := E.pre 12 rfl rfl
        refine step_plain rfl ?_
        obtain ⟨p, e62, hd⟩ := p62
        refine op_val (v := p) (w' := w') (by have hcon := E.con; clear E r0 r2 m0 m1 hd; go_simp) ⟨Below.refl _ _, hd⟩
      · intro ρ w' E
        have p62 : (fun w v => ∃ p, v = .tuple #[p, .int .i64 0] ∧ AnsD wx.heap.size g ⟨capx, pls usx⟩ w p) w' (ρ (.tmp 62)) := E.pre 12 rfl rfl
        refine step_plain rfl ?_
        refine op_val (v := .int .i64 0) (w' := w') ?_ ⟨Below.refl _ _, rfl⟩
        obtain ⟨p, e62, hd⟩ := p62
        clear hd
        have hcon := E.con
        clear E r0 r2 m0 m1
        go_simp
      · intro ρ w' E
        have p75 : (AnsD wx.heap.size g ⟨capx, pls usx⟩) w' (ρ (.tmp 75)) := E.pre 13 rfl rfl
        refine step_plain rfl ?_
        exact op_move (.inr rfl) rfl ⟨Below.refl _ _, p75⟩
      · intro ρ w' E
        have e76 : ρ (.tmp 76) = .int .i64 0 := E.pre 14 rfl rfl
        refine step_plain rfl ?_
        exact op_move (.inr rfl) e76 ⟨Below.refl _ _, rfl⟩
    · intro σF wF GF OF HF
      have x7 : (AnsD wx.heap.size g ⟨capx, pls usx⟩) wF (σF 7) := HF 15 rfl rfl
      have s8 : σF 8 = .int .i64 0 := HF 16 rfl rfl
      clear OF HF
      obtain ⟨d, aD, kD, cD, csD, e7, hDn⟩ := x7
      rw [Hpx.out] at hDn
      have hbX := GF
      have hX1 := HX.out.far (K' := K) (fun b => if b < wx.heap.size then Vx.ow b else 99) (bmod hbX fun _ _ => False) (fun _ _ _ hf => hf.elim) (fun _ _ _ h => h) (fun b hb => if_pos hb)
      have hUx : ∀ b, wx.heap.size ≤ b → K b := fun b hb => HU.out.up b (Nat.le_trans HMX.out.size hb)
      have hd4 : S.bays.length ≤ 4 := HD.out.2
      have hdB : w.heap.size ≤ d := Nat.le_trans HMX.out.size hDn.low
      obtain ⟨h2, hm2⟩ := hX1.setBay (i := i) (b := b) (M := m) (v := (v : Int)) (d := d) (ow' := fun b => if b < wx.heap.size then (if Vx.ow b = i + 1 then 99 else Vx.ow b) else i + 1) HBx.out HBI.out (by omega)
        (fun b _ h5 hne => by
          dsimp only at h5 hne ⊢
          by_cases hb : b < wx.heap.size
          · rw [if_pos hb] at h5 hne ⊢
            rw [if_pos hb, if_neg hne]
          · rw [if_neg hb] at h5; omega)
        (hDn.mono (Nat.le_trans HX.out.low (Nat.le_of_lt (heap_lt HX.out.obj))) fun b hb hk => ⟨hUx b hb, by rw [if_neg (by omega)]⟩) hd4
      obtain ⟨h3, hm3⟩ := h2.setMounts (S.mounts + 1)
      have hbset : (S.bays.set i ⟨(v : Int), b.asked, m, 0⟩)[i]? = some ⟨(v : Int), b.asked, m, 0⟩ := by rw [List.getElem?_set, if_pos rfl, if_pos hil]
      obtain ⟨h4, hm4⟩ := h3.setBayAsked (i := i) (b := ⟨(v : Int), b.asked, m, 0⟩) HBx.out hbset (S.asked + 1)
      have hfin : (S.bays.set i ⟨(v : Int), b.asked, m, 0⟩).modify i (fun b => { b with asked := S.asked + 1 }) = S.bays.set i ⟨(v : Int), S.asked + 1, m, 0⟩ := by
        rw [modify_get hbset, List.set_set]
      have HMF := Lib.hid ((HMX.out.trans (bmod hbX _)).trans ((hm2.trans hm3).trans hm4))
      have HPF := Lib.hid (RobG.pow HMF.out HP.out)
      have hil4 : i < (S.bays.set i ⟨(v : Int), b.asked, m, 0⟩).length := by rw [List.length_set]; exact hil
      have hbay2 := h2.bay (by show 0 < (S.bays.set i _).length; omega)
      have hbay3 := h3.bay (by show 0 < (S.bays.set i _).length; omega)
      have hbay4 := h4.bay (by show 0 < ((S.bays.set i _).modify i _).length; rw [List.length_modify]; omega)
      have hbay1 := hX1.bay (by show 0 < S.bays.length; omega)
      obtain ⟨xB, hx1, _, _, hat1, hfz1⟩ := hbay1
      change Vx.aB = _ at hx1
      rw [HBx.out] at hx1
      simp only [Option.some.injEq, Addr.mk.injEq, and_true] at hx1
      subst hx1
      obtain ⟨xB, hx1, _, _, hat3, _⟩ := hbay3
      change Vx.aB = _ at hx1
      rw [HBx.out] at hx1
      simp only [Option.some.injEq, Addr.mk.injEq, and_true] at hx1
      subst hx1
      obtain ⟨xB, hx1, _, _, hat4, _⟩ := hbay4
      change Vx.aB = _ at hx1
      rw [HBx.out] at hx1
      simp only [Option.some.injEq, Addr.mk.injEq, and_true] at hx1
      subst hx1
      have fz0 := hfz1 (i * 3)
      have fz1 := hfz1 (i * 3 + 1)
      have fz2 := hfz1 (i * 3 + 2)
      have fr5 := frozen_of_row wF r 5 _ _ hX1.obj
      obtain ⟨g1, g2, _⟩ := hat1 i hil
      have hrowB := hX1.rowB
      rw [show ({ Vx with ow := fun b => if b < wx.heap.size then Vx.ow b else 99 } : RobV).aB = some ⟨bB, 0, none⟩ from HBx.out] at hrowB
      have g0 : ∃ u, wF.cell? ⟨bB, i * 3, none⟩ = some u := by
        have hl0 : i < Vx.bs.length := by have := HX.out.blen; change _ = S.bays.length at this; omega
        obtain ⟨x', ha', _, _, hq, _⟩ := hrowB.elem BayV.len (by decide) (i := i) hl0
        simp only [Option.some.injEq, Addr.mk.injEq, and_true] at ha'
        subst ha'
        have := hq 0 _ rfl
        rw [Nat.add_zero] at this
        exact ⟨_, this⟩
      obtain ⟨u0, g0⟩ := g0
      have g1' := (World.cell?_setCell_other (w := wF) (a := ⟨bB, i * 3, none⟩) (b := ⟨bB, i * 3 + 1, none⟩) (v := Value.pointer (some ⟨d, 0, none⟩)) (by simp)).trans g1
      obtain ⟨_, _, _, _, _, k5⟩ := h2.cells
      obtain ⟨_, _, _, _, k4, _⟩ := h3.cells
      change _ = some (Value.int .i64 S.mounts) at k5
      change _ = some (Value.int .i64 (S.asked + 1)) at k4
      obtain ⟨_, k2, _⟩ := hat3 i hil4
      have hil5 : i < ((S.bays.set i ⟨(v : Int), b.asked, m, 0⟩).modify i fun b => { b with asked := S.asked + 1 }).length := by rw [List.length_modify]; exact hil4
      obtain ⟨_, _, k0⟩ := hat4 i hil5
      have hbe : ((S.bays.set i ⟨(v : Int), b.asked, m, 0⟩).modify i fun b => { b with asked := S.asked + 1 })[i] = ⟨(v : Int), S.asked + 1, m, 0⟩ := by
        have : ((S.bays.set i ⟨(v : Int), b.asked, m, 0⟩).modify i fun b => { b with asked := S.asked + 1 })[i]? = some ⟨(v : Int), S.asked + 1, m, 0⟩ := by rw [hfin, List.getElem?_set, if_pos rfl, if_pos hil]
        rw [List.getElem?_eq_getElem hil5] at this
        exact Option.some.inj this
      obtain ⟨y, hy, hyb, k0⟩ := k0 (by show 0 ≤ (((S.bays.set i ⟨(v : Int), b.asked, m, 0⟩).modify i fun b => { b with asked := S.asked + 1 })[i]).vol; rw [hbe]; show 0 ≤ (v : Int); omega)
      have hbl : i < Vx.bs.length := by have := HX.out.blen; change _ = S.bays.length at this; omega
      have hyd : y.d = d := by
        change ((Vx.bs.set i ⟨⟨(v : Int), b.asked, m, 0⟩, d⟩).modify i _)[i]? = some y at hy
        obtain ⟨z, hz, e1, _⟩ := bays_mod hy
        rw [List.getElem?_set, if_pos rfl, if_pos hbl] at hz
        rw [e1, ← Option.some.inj hz]
      rw [hyd] at k0
      have hwm : IntKind.i64.wrap (S.mounts + 1) = S.mounts + 1 := by have h8 := HA.out; have h9 := HOK.out.mounts; rw [IntKind.wrap_i64]; omega
      have H4F : Hid (RobL B K (World.setCell (World.setCell (World.setCell (World.setCell wF ⟨bB, i * 3, none⟩ (.pointer (some ⟨d, 0, none⟩))) ⟨bB, i * 3 + 1, none⟩ (.int .i64 (v : Int))) ⟨r, 5, none⟩ (.int .i64 (S.mounts + 1))) ⟨bB, i * 3 + 2, none⟩ (.int .i64 (S.asked + 1))) r g ⟨S.size, vs, S.bays.set i ⟨v, S.asked + 1, m, 0⟩, S.asked + 1, S.mounts + 1⟩ _) := Lib.hid (by rw [← hfin]; exact h4)
      have HDF : Hid (∀ j y, ((Vx.bs.set i ⟨⟨(v : Int), b.asked, m, 0⟩, d⟩).modify i fun x => ⟨{ x.b with asked := S.asked + 1 }, x.d⟩)[j]? = some y → 0 ≤ y.b.vol → y.d = if j = i then d else D j) := Lib.hid (by
        intro j y hy hv
        obtain ⟨z, hz, e1, e2⟩ := bays_mod hy
        rw [e1]
        rw [List.getElem?_set] at hz
        by_cases hij : i = j
        · rw [if_pos hij, if_pos hbl] at hz
          rw [if_pos hij.symm, ← Option.some.inj hz]
        · rw [if_neg hij] at hz
          rw [if_neg (fun h => hij h.symm)]
          exact HH2.out j z hz (by rw [← e2]; exact hv))
      clear h2 h3 h4 hm2 hm3 hm4 hat1 hat3 hat4 hX1 hDn hbX GF hy hyb hyd hfz1 hrowB hbay2 hfin hbset hbe HTx Hkx Hokx Hpx hUx g1 m0 m1 r0 r2
      simp only [upd, updL, dstsOf', elemB, List.filterMap_cons, List.filterMap_nil, Nat.reduceAdd, Nat.reduceBEq, Bool.or_false, Bool.false_or, Bool.or_true, Bool.true_or, cond_true, cond_false, Nat.zero_add, e7, s8]
      go_wp2
      go_ret2
      exact ⟨d, rfl, hdB, ⟨⟨_, H4F.out, HDF.out⟩, HOKN.out, HPF.out⟩, HMF.out⟩
  · have eb : decide (b.vol ≥ 0) = true := by simp; omega
    have hbk := HOK.out.bay b (List.mem_of_getElem? HBI.out)
    obtain ⟨j, hj⟩ := Int.eq_ofNat_of_zero_le (show 0 ≤ b.vol by omega)
    have hjn : j < S.vols.length := by have := hbk.vol.2; omega
    obtain ⟨hgd, hgc⟩ := hbk.good (by omega)
    obtain ⟨y0, hy0, hyb0, b0⟩ := b0 (by show 0 ≤ S.bays[i].vol; rw [hbe]; omega)
    obtain ⟨M0, hM0⟩ : ∃ M, M = b.M := ⟨_, rfl⟩
    obtain ⟨d0, hd0⟩ : ∃ d, d = y0.d := ⟨_, rfl⟩
    rw [← hd0] at b0
    have hyb1 : y0.b = b := by rw [hyb0]; exact hbe
    obtain ⟨aq, kq, cq, csq, hdq⟩ := H4.out.drv i y0 hy0 (by rw [hyb1]; omega)
    rw [hyb1, ← hd0, ← hM0] at hdq
    have HDx : Hid (DrvP B (fun x => K x ∧ V.ow x = i + 1) wx d0 g M0 b.at_ s) := Lib.hid ⟨⟨aq, kq, cq, csq, hdq⟩, RobG.pow HM4.out HP.out⟩
    have HM0 : Hid (M0.cells.length ≤ 100000 ∧ ∀ x ∈ M0.cells, x.data.length ≤ 140737488355328) := Lib.hid (by rw [hM0]; exact ⟨Nat.le_trans hgd.len (by decide), hgd.short⟩)
    have hvs0 := HVS.out
    rw [if_neg hbv, hj, ← hM0] at hvs0
    rw [hj] at b1 eb
    have Hvs0 : Hid (vs = S.vols.set j M0) := Lib.hid hvs0.symm
    obtain ⟨r0, r1, r2, r3, r4, r5⟩ := H4.out.cells
    have hlr := heap_lt H4.out.obj
    obtain ⟨nM, hnM, _, hlM, h98, h99⟩ := H4.out.rowM.elem TapeV.len (by decide) (i := j) (by rw [H4.out.tlen]; exact hjn)
    clear h98 h99
    rw [hnM] at r2
    change _ = some (Value.slice _ S.vols.length _) at r2
    rw [← HN.out] at r2
    have HnM := Lib.hid hnM
    obtain ⟨cM, hcM⟩ : ∃ c, c = V.cM := ⟨_, rfl⟩
    rw [← hcM] at r2
    have hjn2 : j < n := by rw [HN.out]; exact hjn
    have Hjt : Hid (j < V.ts.length) := Lib.hid (by rw [H4.out.tlen]; exact hjn)
    clear hvs0 hdq hyb1 hy0 hyb0 hd0 hgd hgc hbk hat9 hbe HVS hnM hjn hbv hj hM0
    go_wp2_with fail
    refine wp_region_last2 _ _ (by simp only [lastSplit, Option.map_some]; rfl) (by kernel_rfl) [Sp.eq (.pointer (some ⟨r, 0, none⟩)), Sp.eq (.pointer (some ⟨r, 0, none⟩)), Sp.eq (.pointer (some ⟨r, 2, none⟩)), Sp.eq (.slice (some ⟨nM, 0, none⟩) n cM), Sp.eq (.pointer (some ⟨bB, i * 3, none⟩)), Sp.eq (.pointer (some ⟨bB, i * 3, none⟩)), Sp.eq (.pointer (some ⟨bB, i * 3 + 1, none⟩)), Sp.eq (.int .i64 (j : Int)), Sp.eq (.pointer (some ⟨bB, i * 3, none⟩)), Sp.eq (.pointer (some ⟨bB, i * 3, none⟩)), Sp.eq (.pointer (some ⟨bB, i * 3, none⟩)), Sp.eq (.pointer (some ⟨d0, 0, none⟩)), Sp.eq (.pointer (some ⟨d0, 0, none⟩)), Sp.eq (.pointer (some ⟨d0, 0, none⟩)), ⟨AnsV wx.heap.size M0, AnsV.st⟩, Sp.eq (.pointer (some ⟨nM, j * 2, none⟩))] (by kernel_rfl) (by kernel_rfl) ?_ ?_
    · refine stepsOk_cons ?_ (stepsOk_cons ?_ (stepsOk_cons ?_ (stepsOk_cons ?_ (stepsOk_cons ?_ (stepsOk_cons ?_ (stepsOk_cons ?_ (stepsOk_cons ?_ (stepsOk_cons ?_ (stepsOk_cons ?_ (stepsOk_cons ?_ (stepsOk_cons ?_ (stepsOk_cons ?_ (stepsOk_cons ?_ (stepsOk_cons ?_ (stepsOk_cons ?_ (stepsOk_nil))))))))))))))))
      · intro ρ w' E
        have e0 : ρ (.tmp 0) = .pointer (some ⟨r, 0, none⟩) := E.out 0 rfl
        refine step_plain rfl ?_
        exact op_move (.inl rfl) e0 ⟨Below.refl _ _, rfl⟩
      · intro ρ w' E
        have e46 : ρ (.tmp 46) = .pointer (some ⟨r, 0, none⟩) := E.pre 0 rfl
        refine step_plain rfl ?_
        refine op_val (v := .pointer (some ⟨r, 0, none⟩)) (w' := w') ?_ ⟨Below.refl _ _, rfl⟩
        have hcon := E.con
        clear E
        go_simp
      · intro ρ w' E
        have e47 : ρ (.tmp 47) = .pointer (some ⟨r, 0, none⟩) := E.pre 1 rfl
        refine step_plain rfl ?_
        refine op_val (v := .pointer (some ⟨r, 2, none⟩)) (w' := w') ?_ ⟨Below.refl _ _, rfl⟩
        have hcon := E.con
        clear E
        go_simp
      · intro ρ w' E
        have e48 : ρ (.tmp 48) = .pointer (some ⟨r, 2, none⟩) := E.pre 2 rfl
        refine step_plain rfl ?_
        refine op_val (v := .slice (some ⟨nM, 0, none⟩) n cM) (w' := w') ?_ ⟨Below.refl _ _, rfl⟩
        have hk := (World.cell?_of_block (w := wx) (E.below.block _ hlr)).trans r2
        have hcon := E.con
        clear E r0 r1 r2 r3 r4 r5 b0 b1 b2
        go_simp
      · intro ρ w' E
        have e6 : ρ (.tmp 6) = .pointer (some ⟨bB, i * 3, none⟩) := E.out 6 rfl
        refine step_plain rfl ?_
        exact op_move (.inl rfl) e6 ⟨Below.refl _ _, rfl⟩
      · intro ρ w' E
        have e50 : ρ (.tmp 50) = .pointer (some ⟨bB, i * 3, none⟩) := E.pre 4 rfl
        refine step_plain rfl ?_
        refine op_val (v := .pointer (some ⟨bB, i * 3, none⟩)) (w' := w') ?_ ⟨Below.refl _ _, rfl⟩
        have hcon := E.con
        clear E
        go_simp
      · intro ρ w' E
        have e51 : ρ (.tmp 51) = .pointer (some ⟨bB, i * 3, none⟩) := E.pre 5 rfl
        refine step_plain rfl ?_
        refine op_val (v := .pointer (some ⟨bB, i * 3 + 1, none⟩)) (w' := w') ?_ ⟨Below.refl _ _, rfl⟩
        have hcon := E.con
        clear E
        go_simp
      · intro ρ w' E
        have e52 : ρ (.tmp 52) = .pointer (some ⟨bB, i * 3 + 1, none⟩) := E.pre 6 rfl
        refine step_plain rfl ?_
        refine op_val (v := .int .i64 (j : Int)) (w' := w') ?_ ⟨Below.refl _ _, rfl⟩
        have hk := (World.cell?_of_block (w := wx) (E.below.block _ hlB)).trans b1
        have hcon := E.con
        clear E r0 r1 r2 r3 r4 r5 b0 b1 b2
        go_simp
      · intro ρ w' E
        have e6 : ρ (.tmp 6) = .pointer (some ⟨bB, i * 3, none⟩) := E.out 6 rfl
        refine step_plain rfl ?_
        exact op_move (.inl rfl) e6 ⟨Below.refl _ _, rfl⟩
      · intro ρ w' E
        have e54 : ρ (.tmp 54) = .pointer (some ⟨bB, i * 3, none⟩) := E.pre 8 rfl
        refine step_plain rfl ?_
        refine op_val (v := .pointer (some ⟨bB, i * 3, none⟩)) (w' := w') ?_ ⟨Below.refl _ _, rfl⟩
        have hcon := E.con
        clear E
        go_simp
      · intro ρ w' E
        have e55 : ρ (.tmp 55) = .pointer (some ⟨bB, i * 3, none⟩) := E.pre 9 rfl
        refine step_plain rfl ?_
        refine op_val (v := .pointer (some ⟨bB, i * 3, none⟩)) (w' := w') ?_ ⟨Below.refl _ _, rfl⟩
        have hcon := E.con
        clear E
        go_simp
      · intro ρ w' E
        have e56 : ρ (.tmp 56) = .pointer (some ⟨bB, i * 3, none⟩) := E.pre 10 rfl
        refine step_plain rfl ?_
        refine op_val (v := .pointer (some ⟨d0, 0, none⟩)) (w' := w') ?_ ⟨Below.refl _ _, rfl⟩
        have hk := (World.cell?_of_block (w := wx) (E.below.block _ hlB)).trans b0
        have hcon := E.con
        clear E r0 r1 r2 r3 r4 r5 b0 b1 b2
        go_simp
      · intro ρ w' E
        have e57 : ρ (.tmp 57) = .pointer (some ⟨d0, 0, none⟩) := E.pre 11 rfl
        refine step_plain rfl ?_
        refine op_val (v := .pointer (some ⟨d0, 0, none⟩)) (w' := w') ?_ ⟨Below.refl _ _, rfl⟩
        have hcon := E.con
        clear E
        go_simp
      · intro ρ w' E
        have e58 : ρ (.tmp 58) = .pointer (some ⟨d0, 0, none⟩) := E.pre 12 rfl
        refine step_plain rfl ?_
        refine op_val (v := .pointer (some ⟨d0, 0, none⟩)) (w' := w') ?_ ⟨Below.refl _ _, rfl⟩
        have hcon := E.con
        clear E
        go_simp
      · intro ρ w' E
        have e59 : ρ (.tmp 59) = .pointer (some ⟨d0, 0, none⟩) := E.pre 13 rfl
        refine step_plain rfl ?_
        refine op_call (f := 49) (args := #[.pointer (some ⟨d0, 0, none⟩)]) (w' := w') (by have hcon := E.con; have hfn := E.fn; clear E; go_simp) ?_
        refine (drv_mediumP w' (HDx.out.ext E.below) HM0.out.1 HM0.out.2).mono ?_
        rintro e w2 ⟨aX, cX, csX, kX, rfl, hMX, hcX, hb⟩
        exact ⟨_, rfl, hb, aX, kX, cX, csX, rfl, hMX.mono E.below.size, hcX⟩
      · intro ρ w' E
        have e49 : ρ (.tmp 49) = .slice (some ⟨nM, 0, none⟩) n cM := E.pre 3 rfl
        have e53 : ρ (.tmp 53) = .int .i64 (j : Int) := E.pre 7 rfl
        refine step_plain rfl ?_
        refine op_val (v := .pointer (some ⟨nM, j * 2, none⟩)) (w' := w') ?_ ⟨Below.refl _ _, rfl⟩
        have hcon := E.con
        clear E
        go_simp
    · intro σ w5 hb5 hall
      obtain ⟨_, _, _, _, _, _, _, _, _, _, _, _, _, _, ⟨aX, kX, cX, csX, h60, hMX, hcX⟩, h61, _⟩ := hall
      have h60 : σ 60 = .agg #[.int .i64 M0.cap, .slice aX kX cX] := h60
      have h61 : σ 61 = .pointer (some ⟨nM, j * 2, none⟩) := h61
      simp only [upd, updL, dstsOf', elemB, List.filterMap_cons, List.filterMap_nil, Nat.reduceAdd, Nat.reduceBEq, Bool.or_false, Bool.false_or, Bool.or_true, Bool.true_or, cond_true, cond_false, Nat.zero_add, h60, h61]
      have hown := H4.out.rowM.ext hb5
      rw [HnM.out, show ({ S with asked := S.asked + 1 } : RS).vols.length = n from HN.out.symm] at hown
      have HMX0 := Lib.hid hMX
      have HB5 := Lib.hid hb5
      have Hcx := Lib.hid hcX
      clear hMX hb5 hcX r0 r1 r2 r3 r4 r5 b0 b1 b2 eb hcM
      go_wp2_with (refine wpList_store_elem rfl rfl 45 (.tmp 61) (.tmp 60) rfl TapeV.cells 2 TapeV.len (by decide) hown j ⟨M0, aX, kX, cX, csX⟩ Hjt.out rfl rfl (by kernel_rfl) (TapeV.one _) ?_; intro w6 ho6 hbe6 hot6 hm6 hz6)
      have hMX6 : TapeIn B (fun x => K x ∧ (if x < wx.heap.size then V.ow x else 0) = 0) w6 ⟨M0, aX, kX, cX, csX⟩ := by
        have h0 : TapeIn B (fun x => wx.heap.size ≤ x ∧ x < w5.heap.size) w5 ⟨M0, aX, kX, cX, csX⟩ := ⟨HMX0.out.mono (Nat.le_trans H4.out.low (Nat.le_of_lt hlr)), Hcx.out, HMX0.out.newRow⟩
        exact h0.far (hm6 (fun x T => x = nM ∧ T = 45) ⟨rfl, rfl⟩) (fun x T _ hf hT => by rw [hf.2] at hT; exact absurd hT (by decide)) fun x _ _ hx => ⟨HU.out.up x (Nat.le_trans HM4.out.size hx.1), if_neg (by omega)⟩
      rw [HN.out] at ho6
      obtain ⟨hset, hmset⟩ := H4.out.setVol (y := ⟨M0, aX, kX, cX, csX⟩) (ow' := fun x => if x < wx.heap.size then V.ow x else 0) HnM.out (by show j < S.vols.length; rw [← HN.out]; exact hjn2) ho6 ((bmod HB5.out _).trans (hm6 (fun x T => x = nM ∧ T = 45) ⟨rfl, rfl⟩)) (fun x hx _ => if_pos hx) hMX6 HD.out.2
      obtain ⟨Vx, hVx⟩ : ∃ Vx : RobV, Vx = { V with ts := V.ts.set j ⟨M0, aX, kX, cX, csX⟩, ow := fun x => if x < wx.heap.size then V.ow x else 0 } := ⟨_, rfl⟩
      have HX : Hid (RobL B K w6 r g ⟨S.size, vs, S.bays, S.asked + 1, S.mounts⟩ Vx) := Lib.hid (by rw [hVx, Hvs0.out]; exact hset)
      have HMX := Lib.hid (HM4.out.trans hmset)
      have HBx : Hid (Vx.aB = some ⟨bB, 0, none⟩) := Lib.hid (by rw [hVx]; exact HB.out)
      have HH2 : Hid (∀ i x, Vx.bs[i]? = some x → 0 ≤ x.b.vol → x.d = D i) := Lib.hid (by rw [hVx]; exact H2.out)
      clear hVx hset hmset hMX6 ho6 hbe6 hot6 hm6 hz6 H4 HM4 h60 h61 HB5 HMX0 hown Hvs0 HDx HM0 hlM hlr HnM Hjt
      -- world w6; HX: RobL B K w6 r g ⟨S.size, vs, S.bays, S.asked + 1, S.mounts⟩ Vx; HMX: Mod (RobG B K) w w6; HBx: Vx.aB; HH2
      have hvl2 : v < Vx.ts.length := by rw [HX.out.tlen]; show v < vs.length; rw [HVL.out, ← HN.out]; exact hvn
      obtain ⟨nM, hnM, _, hlM, hatM, _⟩ := HX.out.rowM.elem TapeV.len (by decide) (i := v) hvl2
      have m0 := hatM 0 _ rfl
      have m1 := hatM 1 _ rfl
      have htv : m = Vx.ts[v].M := by
        have h1 := HM.out
        have h2 : vs = Vx.ts.map TapeV.M := HX.out.vols
        rw [h2, List.getElem?_map, List.getElem?_eq_getElem hvl2] at h1
        exact (Option.some.inj h1).symm
      have hTV := HX.out.tape Vx.ts[v] (List.getElem_mem hvl2)
      generalize Vx.ts[v] = tv at *
      obtain ⟨Mx, ax, kx, cx, usx⟩ := tv
      dsimp only at m0 m1 htv hTV
      subst htv
      rw [Nat.add_zero] at m0
      have hmg : DGood m 0 := ⟨HMOK.out, 0, rfl, Nat.zero_le _⟩
      have HTx := Lib.hid hTV.r.mat
      have Hkx : Hid (kx = usx.length ∧ kx ≤ 100000 ∧ ∀ x ∈ usx, x.d.l.length ≤ 140737488355328) := Lib.hid ⟨hTV.r.len.symm, by have := hmg.len; rw [← hTV.r.pls, pls_length, hTV.r.len] at this; change kx ≤ 90000 at this; omega, hTV.r.short hmg.short⟩
      have Hokx : Hid ((medOf m.cap usx).ok = true) := Lib.hid (by rw [hTV.r.of]; exact HMOK.out)
      have Hpx : Hid (⟨m.cap, pls usx⟩ = m) := Lib.hid hTV.r.of
      obtain ⟨r0, r1, r2, r3, r4, r5⟩ := HX.out.cells
      have hlr := heap_lt HX.out.obj
      rw [hnM] at r2
      change _ = some (Value.slice _ vs.length _) at r2
      rw [show vs.length = n from HVL.out.trans HN.out.symm] at r2
      have hcapx : ∃ capx, capx = m.cap := ⟨_, rfl⟩
      obtain ⟨capx, hcapx⟩ := hcapx
      rw [← hcapx] at m0 Hokx Hpx
      generalize Vx.cM = cM at *
      clear hTV hatM hmg r1 r3 r4 r5 hcapx
      go_wp2_with fail
      refine wp_region_phase (by kernel_rfl) [] (by kernel_rfl) (by kernel_rfl) ?_
      refine stage_last [Sp.eq (.pointer (some ⟨r, 0, none⟩)), Sp.eq (.pointer (some ⟨r, 0, none⟩)), Sp.eq (.pointer (some ⟨r, 0, none⟩)), Sp.eq (.pointer (some ⟨g, 0, none⟩)), Sp.eq (.pointer (some ⟨r, 0, none⟩)), Sp.eq (.pointer (some ⟨r, 0, none⟩)), Sp.eq (.pointer (some ⟨r, 2, none⟩)), Sp.eq (.slice (some ⟨nM, 0, none⟩) n cM), Sp.eq (.int .i64 (v : Int)), Sp.eq (.pointer (some ⟨nM, v * 2, none⟩)), Sp.eq (.agg #[.int .i64 capx, .slice ax kx cx]), ⟨fun w v => ∃ p, v = .tuple #[p, .int .i64 0] ∧ AnsD w6.heap.size g ⟨capx, pls usx⟩ w p, fun _ _ _ ⟨p, h, hd⟩ hb => ⟨p, h, AnsD.st _ _ _ hd hb⟩⟩, ⟨fun w v => ∃ p, v = .tuple #[p, .int .i64 0] ∧ AnsD w6.heap.size g ⟨capx, pls usx⟩ w p, fun _ _ _ ⟨p, h, hd⟩ hb => ⟨p, h, AnsD.st _ _ _ hd hb⟩⟩, ⟨AnsD w6.heap.size g ⟨capx, pls usx⟩, AnsD.st⟩, Sp.eq (.int .i64 0), ⟨AnsD w6.heap.size g ⟨capx, pls usx⟩, AnsD.st⟩, Sp.eq (.int .i64 0)] ?_ ?_
      · refine stepsG_cons ?_ (stepsG_cons ?_ (stepsG_cons ?_ (stepsG_cons ?_ (stepsG_cons ?_ (stepsG_cons ?_ (stepsG_cons ?_ (stepsG_cons ?_ (stepsG_cons ?_ (stepsG_cons ?_ (stepsG_cons ?_ (stepsG_cons ?_ (stepsG_cons ?_ (stepsG_cons ?_ (stepsG_cons ?_ (stepsG_cons ?_ (stepsG_cons ?_ (stepsG_nil)))))))))))))))))
        · intro ρ w' E
          have e0 : ρ (.tmp 0) = .pointer (some ⟨r, 0, none⟩) := E.out 0 rfl
          refine step_plain rfl ?_
          exact op_move (.inl rfl) e0 ⟨Below.refl _ _, rfl⟩
        · intro ρ w' E
          have e63 : ρ (.tmp 63) = .pointer (some ⟨r, 0, none⟩) := E.pre 0 rfl rfl
          refine step_plain rfl ?_
          refine op_val (v := .pointer (some ⟨r, 0, none⟩)) (w' := w') ?_ ⟨Below.refl _ _, rfl⟩
          have hcon := E.con
          clear E
          go_simp
        · intro ρ w' E
          have e64 : ρ (.tmp 64) = .pointer (some ⟨r, 0, none⟩) := E.pre 1 rfl rfl
          refine step_plain rfl ?_
          refine op_val (v := .pointer (some ⟨r, 0, none⟩)) (w' := w') ?_ ⟨Below.refl _ _, rfl⟩
          have hcon := E.con
          clear E
          go_simp
        · intro ρ w' E
          have e65 : ρ (.tmp 65) = .pointer (some ⟨r, 0, none⟩) := E.pre 2 rfl rfl
          refine step_plain rfl ?_
          refine op_val (v := .pointer (some ⟨g, 0, none⟩)) (w' := w') ?_ ⟨Below.refl _ _, rfl⟩
          have hk := (World.cell?_of_block (w := w6) (E.below.block _ hlr)).trans r0
          have hcon := E.con
          clear E r0 r2 m0 m1
          go_simp
        · intro ρ w' E
          have e0 : ρ (.tmp 0) = .pointer (some ⟨r, 0, none⟩) := E.out 0 rfl
          refine step_plain rfl ?_
          exact op_move (.inl rfl) e0 ⟨Below.refl _ _, rfl⟩
        · intro ρ w' E
          have e67 : ρ (.tmp 67) = .pointer (some ⟨r, 0, none⟩) := E.pre 4 rfl rfl
          refine step_plain rfl ?_
          refine op_val (v := .pointer (some ⟨r, 0, none⟩)) (w' := w') ?_ ⟨Below.refl _ _, rfl⟩
          have hcon := E.con
          clear E
          go_simp
        · intro ρ w' E
          have e68 : ρ (.tmp 68) = .pointer (some ⟨r, 0, none⟩) := E.pre 5 rfl rfl
          refine step_plain rfl ?_
          refine op_val (v := .pointer (some ⟨r, 2, none⟩)) (w' := w') ?_ ⟨Below.refl _ _, rfl⟩
          have hcon := E.con
          clear E
          go_simp
        · intro ρ w' E
          have e69 : ρ (.tmp 69) = .pointer (some ⟨r, 2, none⟩) := E.pre 6 rfl rfl
          refine step_plain rfl ?_
          refine op_val (v := .slice (some ⟨nM, 0, none⟩) n cM) (w' := w') ?_ ⟨Below.refl _ _, rfl⟩
          have hk := (World.cell?_of_block (w := w6) (E.below.block _ hlr)).trans r2
          have hcon := E.con
          clear E r0 r2 m0 m1
          go_simp
        · intro ρ w' E
          have e1 : ρ (.tmp 1) = .int .i64 (v : Int) := E.out 1 rfl
          refine step_plain rfl ?_
          exact op_move (.inl rfl) e1 ⟨Below.refl _ _, rfl⟩
        · intro ρ w' E
          have e70 : ρ (.tmp 70) = .slice (some ⟨nM, 0, none⟩) n cM := E.pre 7 rfl rfl
          have e71 : ρ (.tmp 71) = .int .i64 (v : Int) := E.pre 8 rfl rfl
          refine step_plain rfl ?_
          refine op_val (v := .pointer (some ⟨nM, v * 2, none⟩)) (w' := w') ?_ ⟨Below.refl _ _, rfl⟩
          have hcon := E.con
          clear E
          go_simp
        · intro ρ w' E
          have e72 : ρ (.tmp 72) = .pointer (some ⟨nM, v * 2, none⟩) := E.pre 9 rfl rfl
          refine step_plain rfl ?_
          refine op_val (v := .agg #[.int .i64 capx, .slice ax kx cx]) (w' := w') ?_ ⟨Below.refl _ _, rfl⟩
          have k0 := (World.cell?_of_block (w := w6) (E.below.block _ hlM)).trans m0
          have k1 := (World.cell?_of_block (w := w6) (E.below.block _ hlM)).trans m1
          have hcon := E.con
          clear E r0 r2 m0 m1
          go_simp
        · intro ρ w' E
          have e66 : ρ (.tmp 66) = .pointer (some ⟨g, 0, none⟩) := E.pre 3 rfl rfl
          have e73 : ρ (.tmp 73) = .agg #[.int .i64 capx, .slice ax kx cx] := E.pre 10 rfl rfl
          refine step_plain rfl ?_
          refine op_call (f := 50) (args := #[.pointer (some ⟨g, 0, none⟩), .agg #[.int .i64 capx, .slice ax kx cx]]) (w' := w') (by have hcon := E.con; have hfn := E.fn; clear E; go_simp) ?_
          refine (drv_new (g := g) capx ax cx kx usx w' (HTx.out.ext E.below) Hkx.out.1 Hkx.out.2.1 Hkx.out.2.2 Hokx.out).mono ?_
          rintro e w2 ⟨d, a, c, cs, rfl, hd, hb⟩
          exact ⟨_, rfl, hb, _, rfl, d, a, kx, c, cs, rfl, hd.mono E.below.size fun b _ h => Nat.le_trans E.below.size h⟩
        · intro ρ w' E
          have p74 : (fun w v => ∃ p, v = .tuple #[p, .int .i64 0] ∧ AnsD w6.heap.size g ⟨capx, pls usx⟩ w p) w' (ρ (.tmp 74)) := E.pre 11 rfl rfl
          refine step_plain rfl ?_
          exact op_move (.inl rfl) rfl ⟨Below.refl _ _, p74⟩
        · intro ρ w' E
          have p62 : (fun w v => ∃ p, v = .tuple #[p, .int .i64 0] ∧ AnsD w6.heap.size g ⟨capx, pls usx⟩ w p) w' (ρ (.tmp 62)) := E.pre 12 rfl rfl
          refine step_plain rfl ?_
          obtain ⟨p, e62, hd⟩ := p62
          refine op_val (v := p) (w' := w') (by have hcon := E.con; clear E r0 r2 m0 m1 hd; go_simp) ⟨Below.refl _ _, hd⟩
        · intro ρ w' E
          have p62 : (fun w v => ∃ p, v = .tuple #[p, .int .i64 0] ∧ AnsD w6.heap.size g ⟨capx, pls usx⟩ w p) w' (ρ (.tmp 62)) := E.pre 12 rfl rfl
          refine step_plain rfl ?_
          refine op_val (v := .int .i64 0) (w' := w') ?_ ⟨Below.refl _ _, rfl⟩
          obtain ⟨p, e62, hd⟩ := p62
          clear hd
          have hcon := E.con
          clear E r0 r2 m0 m1
          go_simp
        · intro ρ w' E
          have p75 : (AnsD w6.heap.size g ⟨capx, pls usx⟩) w' (ρ (.tmp 75)) := E.pre 13 rfl rfl
          refine step_plain rfl ?_
          exact op_move (.inr rfl) rfl ⟨Below.refl _ _, p75⟩
        · intro ρ w' E
          have e76 : ρ (.tmp 76) = .int .i64 0 := E.pre 14 rfl rfl
          refine step_plain rfl ?_
          exact op_move (.inr rfl) e76 ⟨Below.refl _ _, rfl⟩
      · intro σF wF GF OF HF
        have x7 : (AnsD w6.heap.size g ⟨capx, pls usx⟩) wF (σF 7) := HF 15 rfl rfl
        have s8 : σF 8 = .int .i64 0 := HF 16 rfl rfl
        clear OF HF
        obtain ⟨d, aD, kD, cD, csD, e7, hDn⟩ := x7
        rw [Hpx.out] at hDn
        have hbX := GF
        have hX1 := HX.out.far (K' := K) (fun b => if b < w6.heap.size then Vx.ow b else 99) (bmod hbX fun _ _ => False) (fun _ _ _ hf => hf.elim) (fun _ _ _ h => h) (fun b hb => if_pos hb)
        have hUx : ∀ b, w6.heap.size ≤ b → K b := fun b hb => HU.out.up b (Nat.le_trans HMX.out.size hb)
        have hd4 : S.bays.length ≤ 4 := HD.out.2
        have hdB : w.heap.size ≤ d := Nat.le_trans HMX.out.size hDn.low
        obtain ⟨h2, hm2⟩ := hX1.setBay (i := i) (b := b) (M := m) (v := (v : Int)) (d := d) (ow' := fun b => if b < w6.heap.size then (if Vx.ow b = i + 1 then 99 else Vx.ow b) else i + 1) HBx.out HBI.out (by omega)
          (fun b _ h5 hne => by
            dsimp only at h5 hne ⊢
            by_cases hb : b < w6.heap.size
            · rw [if_pos hb] at h5 hne ⊢
              rw [if_pos hb, if_neg hne]
            · rw [if_neg hb] at h5; omega)
          (hDn.mono (Nat.le_trans HX.out.low (Nat.le_of_lt (heap_lt HX.out.obj))) fun b hb hk => ⟨hUx b hb, by rw [if_neg (by omega)]⟩) hd4
        obtain ⟨h3, hm3⟩ := h2.setMounts (S.mounts + 1)
        have hbset : (S.bays.set i ⟨(v : Int), b.asked, m, 0⟩)[i]? = some ⟨(v : Int), b.asked, m, 0⟩ := by rw [List.getElem?_set, if_pos rfl, if_pos hil]
        obtain ⟨h4, hm4⟩ := h3.setBayAsked (i := i) (b := ⟨(v : Int), b.asked, m, 0⟩) HBx.out hbset (S.asked + 1)
        have hfin : (S.bays.set i ⟨(v : Int), b.asked, m, 0⟩).modify i (fun b => { b with asked := S.asked + 1 }) = S.bays.set i ⟨(v : Int), S.asked + 1, m, 0⟩ := by
          rw [modify_get hbset, List.set_set]
        have HMF := Lib.hid ((HMX.out.trans (bmod hbX _)).trans ((hm2.trans hm3).trans hm4))
        have HPF := Lib.hid (RobG.pow HMF.out HP.out)
        have hil4 : i < (S.bays.set i ⟨(v : Int), b.asked, m, 0⟩).length := by rw [List.length_set]; exact hil
        have hbay2 := h2.bay (by show 0 < (S.bays.set i _).length; omega)
        have hbay3 := h3.bay (by show 0 < (S.bays.set i _).length; omega)
        have hbay4 := h4.bay (by show 0 < ((S.bays.set i _).modify i _).length; rw [List.length_modify]; omega)
        have hbay1 := hX1.bay (by show 0 < S.bays.length; omega)
        obtain ⟨xB, hx1, _, _, hat1, hfz1⟩ := hbay1
        change Vx.aB = _ at hx1
        rw [HBx.out] at hx1
        simp only [Option.some.injEq, Addr.mk.injEq, and_true] at hx1
        subst hx1
        obtain ⟨xB, hx1, _, _, hat3, _⟩ := hbay3
        change Vx.aB = _ at hx1
        rw [HBx.out] at hx1
        simp only [Option.some.injEq, Addr.mk.injEq, and_true] at hx1
        subst hx1
        obtain ⟨xB, hx1, _, _, hat4, _⟩ := hbay4
        change Vx.aB = _ at hx1
        rw [HBx.out] at hx1
        simp only [Option.some.injEq, Addr.mk.injEq, and_true] at hx1
        subst hx1
        have fz0 := hfz1 (i * 3)
        have fz1 := hfz1 (i * 3 + 1)
        have fz2 := hfz1 (i * 3 + 2)
        have fr5 := frozen_of_row wF r 5 _ _ hX1.obj
        obtain ⟨g1, g2, _⟩ := hat1 i hil
        have hrowB := hX1.rowB
        rw [show ({ Vx with ow := fun b => if b < w6.heap.size then Vx.ow b else 99 } : RobV).aB = some ⟨bB, 0, none⟩ from HBx.out] at hrowB
        have g0 : ∃ u, wF.cell? ⟨bB, i * 3, none⟩ = some u := by
          have hl0 : i < Vx.bs.length := by have := HX.out.blen; change _ = S.bays.length at this; omega
          obtain ⟨x', ha', _, _, hq, _⟩ := hrowB.elem BayV.len (by decide) (i := i) hl0
          simp only [Option.some.injEq, Addr.mk.injEq, and_true] at ha'
          subst ha'
          have := hq 0 _ rfl
          rw [Nat.add_zero] at this
          exact ⟨_, this⟩
        obtain ⟨u0, g0⟩ := g0
        have g1' := (World.cell?_setCell_other (w := wF) (a := ⟨bB, i * 3, none⟩) (b := ⟨bB, i * 3 + 1, none⟩) (v := Value.pointer (some ⟨d, 0, none⟩)) (by simp)).trans g1
        obtain ⟨_, _, _, _, _, k5⟩ := h2.cells
        obtain ⟨_, _, _, _, k4, _⟩ := h3.cells
        change _ = some (Value.int .i64 S.mounts) at k5
        change _ = some (Value.int .i64 (S.asked + 1)) at k4
        obtain ⟨_, k2, _⟩ := hat3 i hil4
        have hil5 : i < ((S.bays.set i ⟨(v : Int), b.asked, m, 0⟩).modify i fun b => { b with asked := S.asked + 1 }).length := by rw [List.length_modify]; exact hil4
        obtain ⟨_, _, k0⟩ := hat4 i hil5
        have hbe : ((S.bays.set i ⟨(v : Int), b.asked, m, 0⟩).modify i fun b => { b with asked := S.asked + 1 })[i] = ⟨(v : Int), S.asked + 1, m, 0⟩ := by
          have : ((S.bays.set i ⟨(v : Int), b.asked, m, 0⟩).modify i fun b => { b with asked := S.asked + 1 })[i]? = some ⟨(v : Int), S.asked + 1, m, 0⟩ := by rw [hfin, List.getElem?_set, if_pos rfl, if_pos hil]
          rw [List.getElem?_eq_getElem hil5] at this
          exact Option.some.inj this
        obtain ⟨y, hy, hyb, k0⟩ := k0 (by show 0 ≤ (((S.bays.set i ⟨(v : Int), b.asked, m, 0⟩).modify i fun b => { b with asked := S.asked + 1 })[i]).vol; rw [hbe]; show 0 ≤ (v : Int); omega)
        have hbl : i < Vx.bs.length := by have := HX.out.blen; change _ = S.bays.length at this; omega
        have hyd : y.d = d := by
          change ((Vx.bs.set i ⟨⟨(v : Int), b.asked, m, 0⟩, d⟩).modify i _)[i]? = some y at hy
          obtain ⟨z, hz, e1, _⟩ := bays_mod hy
          rw [List.getElem?_set, if_pos rfl, if_pos hbl] at hz
          rw [e1, ← Option.some.inj hz]
        rw [hyd] at k0
        have hwm : IntKind.i64.wrap (S.mounts + 1) = S.mounts + 1 := by have h8 := HA.out; have h9 := HOK.out.mounts; rw [IntKind.wrap_i64]; omega
        have H4F : Hid (RobL B K (World.setCell (World.setCell (World.setCell (World.setCell wF ⟨bB, i * 3, none⟩ (.pointer (some ⟨d, 0, none⟩))) ⟨bB, i * 3 + 1, none⟩ (.int .i64 (v : Int))) ⟨r, 5, none⟩ (.int .i64 (S.mounts + 1))) ⟨bB, i * 3 + 2, none⟩ (.int .i64 (S.asked + 1))) r g ⟨S.size, vs, S.bays.set i ⟨v, S.asked + 1, m, 0⟩, S.asked + 1, S.mounts + 1⟩ _) := Lib.hid (by rw [← hfin]; exact h4)
        have HDF : Hid (∀ j y, ((Vx.bs.set i ⟨⟨(v : Int), b.asked, m, 0⟩, d⟩).modify i fun x => ⟨{ x.b with asked := S.asked + 1 }, x.d⟩)[j]? = some y → 0 ≤ y.b.vol → y.d = if j = i then d else D j) := Lib.hid (by
          intro j y hy hv
          obtain ⟨z, hz, e1, e2⟩ := bays_mod hy
          rw [e1]
          rw [List.getElem?_set] at hz
          by_cases hij : i = j
          · rw [if_pos hij, if_pos hbl] at hz
            rw [if_pos hij.symm, ← Option.some.inj hz]
          · rw [if_neg hij] at hz
            rw [if_neg (fun h => hij h.symm)]
            exact HH2.out j z hz (by rw [← e2]; exact hv))
        clear h2 h3 h4 hm2 hm3 hm4 hat1 hat3 hat4 hX1 hDn hbX GF hy hyb hyd hfz1 hrowB hbay2 hfin hbset hbe HTx Hkx Hokx Hpx hUx g1 m0 m1 r0 r2
        simp only [upd, updL, dstsOf', elemB, List.filterMap_cons, List.filterMap_nil, Nat.reduceAdd, Nat.reduceBEq, Bool.or_false, Bool.false_or, Bool.or_true, Bool.true_or, cond_true, cond_false, Nat.zero_add, e7, s8]
        go_wp2
        go_ret2
        exact ⟨d, rfl, hdB, ⟨⟨_, H4F.out, HDF.out⟩, HOKN.out, HPF.out⟩, HMF.out⟩
end Go.Proofs.Ytmaagkdehdmhlaa
