/- Two robots of one power. -/
import Derived.Test.YtnbpcdnpdcfiiaaRobWakes
namespace Go.Proofs.Ytnbpcdnpdcfiiaa
open Go.RowKit

/-- A robot, but for its power. -/
def RobQ (B : Nat) (K : Nat → Prop) (w : World) (r g : Nat) (S : RS) (D : Nat → Nat) : Prop := (∃ V, RobL B K w r g S V ∧ ∀ i x, V.bs[i]? = some x → 0 ≤ x.b.vol → x.d = D i) ∧ S.ok
variable {B C : Nat} {K : Nat → Prop} {w w' : World} {r g : Nat} {S : RS} {V : RobV} {D : Nat → Nat} {s : PS}
theorem RobP.q (h : RobP B K w r g S D s) : RobQ B K w r g S D := ⟨h.1, h.2.1⟩
theorem RobQ.p (h : RobQ B K w r g S D) (hp : Pow B w g s) : RobP B K w r g S D s := ⟨h.1, h.2, hp⟩
theorem RobQ.far {F : Nat → TypeId → Prop} {K' : Nat → Prop} (h : RobQ B K w r g S D) (hm : Mod F w w') (hF : ∀ b T, b < w.heap.size → F b T → T ∈ RTT ∨ T = 5 → ¬ K b) (hK : ∀ b, B ≤ b → b < w.heap.size → K b → K' b) : RobQ B K' w' r g S D := by
  obtain ⟨⟨V, h1, h2⟩, h3⟩ := h
  exact ⟨⟨_, h1.far V.ow hm hF hK fun _ _ => rfl, h2⟩, h3⟩
theorem RobQ.ext (h : RobQ B K w r g S D) (hb : Below w.heap.size w w') : RobQ B K w' r g S D := h.far (K' := K) (bmod hb fun _ _ => False) (fun _ _ _ hf => hf.elim) fun _ _ _ h => h
theorem RobQ.rek {K' : Nat → Prop} (h : RobQ B K w r g S D) (hK : ∀ b, B ≤ b → b < w.heap.size → K b → K' b) : RobQ B K' w r g S D := h.far (Mod.refl (fun _ _ => False) w) (fun _ _ _ hf => hf.elim) hK
theorem RobQ.good (h : RobQ B K w r g S D) : S.ok := h.2
/-- Two robots, all of whose memory lies from C on. -/
def Pair (B C : Nat) (w : World) (ra rb g : Nat) (SA SB : RS) : Prop :=
  ∃ (Ka Kb : Nat → Prop) (Da Db : Nat → Nat), (∀ b, Ka b → C ≤ b ∧ b < w.heap.size) ∧ (∀ b, Kb b → C ≤ b ∧ b < w.heap.size) ∧ (∀ b, Ka b → ¬ Kb b) ∧ RobQ B Ka w ra g SA Da ∧ RobQ B Kb w rb g SB Db
variable {ra rb : Nat} {SA SB : RS}
theorem Pair.ext (h : Pair B C w ra rb g SA SB) (hb : Below w.heap.size w w') : Pair B C w' ra rb g SA SB := by
  obtain ⟨Ka, Kb, Da, Db, h1, h2, h3, h4, h5⟩ := h
  exact ⟨Ka, Kb, Da, Db, fun b hk => ⟨(h1 b hk).1, Nat.lt_of_lt_of_le (h1 b hk).2 hb.size⟩, fun b hk => ⟨(h2 b hk).1, Nat.lt_of_lt_of_le (h2 b hk).2 hb.size⟩, h3, h4.ext hb, h5.ext hb⟩
theorem Pair.far {F : Nat → TypeId → Prop} (h : Pair B C w ra rb g SA SB) (hm : Mod F w w') (hF : ∀ b T, F b T → ¬ (T ∈ RTT ∨ T = 5)) : Pair B C w' ra rb g SA SB := by
  obtain ⟨Ka, Kb, Da, Db, h1, h2, h3, h4, h5⟩ := h
  exact ⟨Ka, Kb, Da, Db, fun b hk => ⟨(h1 b hk).1, Nat.lt_of_lt_of_le (h1 b hk).2 hm.size⟩, fun b hk => ⟨(h2 b hk).1, Nat.lt_of_lt_of_le (h2 b hk).2 hm.size⟩, h3, h4.far hm (fun b T _ hf hT => absurd hT (hF b T hf)) fun _ _ _ h => h, h5.far hm (fun b T _ hf hT => absurd hT (hF b T hf)) fun _ _ _ h => h⟩
theorem Pair.swap (h : Pair B C w ra rb g SA SB) : Pair B C w rb ra g SB SA := by
  obtain ⟨Ka, Kb, Da, Db, h1, h2, h3, h4, h5⟩ := h
  exact ⟨Kb, Ka, Db, Da, h2, h1, fun b hb ha => h3 b ha hb, h5, h4⟩
theorem Pair.good (h : Pair B C w ra rb g SA SB) : SA.ok ∧ SB.ok := by
  obtain ⟨Ka, Kb, Da, Db, h1, h2, h3, h4, h5⟩ := h
  exact ⟨h4.good, h5.good⟩
theorem Pair.mount {v : Nat} {S' : RS} {i : Nat} (hr : SA.mount v = (S', i)) (w : World) (h : Pair B C w ra rb g SA SB) (hp : Pow B w g s) (hs : s.off = false) (hv : v < SA.vols.length) (ha : SA.asked < 4000000000000000000) (hBC : B ≤ C) (hC : C ≤ w.heap.size) :
    Calls Try.prog 42 #[.pointer (some ⟨ra, 0, none⟩), .int .i64 v] w fun e w' => ∃ d, e = .returned (.tuple #[.pointer (some ⟨d, 0, none⟩), .int .i64 0]) ∧ Pair B C w' ra rb g S' SB ∧ Mod (RobG B fun b => C ≤ b) w w' := by
  obtain ⟨Ka, Kb, Da, Db, h1, h2, h3, h4, h5⟩ := h
  refine (rob_mountP hr w ((h4.rek (K' := fun b => Ka b ∨ w.heap.size ≤ b) fun b _ _ hk => .inl hk).p hp) ⟨Nat.le_trans hBC hC, fun b hb => .inr hb⟩ hs hv ha).mono ?_
  rintro e w2 ⟨d, D', rfl, -, hR, hm⟩
  refine ⟨d, rfl, ⟨fun b => (Ka b ∨ w.heap.size ≤ b) ∧ b < w2.heap.size, Kb, D', Db, fun b hk => ⟨?_, hk.2⟩, fun b hk => ⟨(h2 b hk).1, Nat.lt_of_lt_of_le (h2 b hk).2 hm.size⟩, fun b hk hk2 => ?_, hR.q.rek fun b _ hb hk => ⟨hk, hb⟩, h5.far hm (fun b T hb hf _ hk2 => ?_) fun _ _ _ h => h⟩, hm.mono fun b T hb hf => ⟨hf.1, ?_, hf.2.2⟩⟩
  · rcases hk.1 with h | h
    · exact (h1 b h).1
    · omega
  · rcases hk.1 with h | h
    · exact h3 b h hk2
    · have := (h2 b hk2).2; omega
  · rcases hf.2.1 with h | h
    · exact h3 b h hk2
    · omega
  · rcases hf.2.1 with h | h
    · exact (h1 b h).1
    · omega
theorem Pair.mounts (m : Int) (w : World) (h : Pair B C w ra rb g SA SB) (hm : SA.mounts = m) :
    Calls Try.prog 43 #[.pointer (some ⟨ra, 0, none⟩)] w fun e w' => e = .returned (.int .i64 m) ∧ w = w' := by
  obtain ⟨Ka, Kb, Da, Db, h1, h2, h3, ⟨⟨V, h4, _⟩, _⟩, h5⟩ := h
  subst hm
  exact rob_mounts w h4
theorem Pair.holds (i v : Int) (w : World) (h : Pair B C w ra rb g SA SB) (hv : (if 0 ≤ i ∧ i < SA.bays.length then (SA.bays.getD i.toNat bay0).vol else -1) = v) :
    Calls Try.prog 44 #[.pointer (some ⟨ra, 0, none⟩), .int .i64 i] w fun e w' => e = .returned (.int .i64 v) ∧ w = w' := by
  obtain ⟨Ka, Kb, Da, Db, h1, h2, h3, ⟨⟨V, h4, _⟩, hok⟩, h5⟩ := h
  exact rob_holds i v w h4 hok.drives hv

/- Plainly: as many drives as volumes. -/
def heldB (l : List Bay) : Nat := l.countP fun b => decide (0 ≤ b.vol)
structure RoomA (S : RS) (seen : List Bool) : Prop where
  ok : S.ok
  vols : S.vols.length = seen.length
  bays : S.bays.length = seen.length
  iff : ∀ v (hv : v < seen.length), seen[v] = true ↔ ∃ b ∈ S.bays, b.vol = (v : Int)
  mounts : S.mounts = (seen.count true : Nat)
  held : heldB S.bays = seen.count true
theorem RoomA.new (n : Nat) (hn : 1 ≤ n ∧ n ≤ 4) : RoomA (RS.new n 5 n) (List.replicate n false) := by
  refine ⟨rnew_ok n 5 n (by omega) (by decide) (by omega), by simp [RS.new], by simp [RS.new], fun v hv => ?_, ?_, ?_⟩
  · rw [List.getElem_replicate]
    constructor
    · intro h; cases h
    · rintro ⟨b, hb, hv⟩
      obtain rfl := List.eq_of_mem_replicate hb
      change (-1 : Int) = _ at hv
      omega
  · simp [RS.new, List.count_replicate]
  · simp [RS.new, heldB, List.count_replicate, List.countP_replicate]
theorem count_lt_of_false {l : List Bool} {v : Nat} (hv : v < l.length) (h : l[v] = false) : l.count true < l.length := by
  have := List.count_le_length (a := true) (l := l)
  rcases Nat.lt_or_ge (l.count true) l.length with h1 | h1
  · exact h1
  · have h2 : l.count true = l.length := by omega
    rw [List.count_eq_length] at h2
    have := h2 l[v] (List.getElem_mem hv)
    rw [h] at this
    cases this
theorem count_set_true {l : List Bool} {v : Nat} (hv : v < l.length) (h : l[v] = false) : (l.set v true).count true = l.count true + 1 := by
  rw [List.count_set hv, h]
  simp
theorem RoomA.step {S S' : RS} {seen : List Bool} (h : RoomA S seen) {v i : Nat} (hv : v < seen.length) (ha : S.asked < 4000000000000000000) (hr : S.mount v = (S', i)) : RoomA S' (seen.set v true) ∧ S'.asked = S.asked + 1 := by
  obtain ⟨hok', hvl, hbl, hask, -, -⟩ := RS.mount_good h.ok ha (by rw [h.vols]; exact hv) hr
  suffices hh : (∀ u (hu : u < (seen.set v true).length), (seen.set v true)[u] = true ↔ ∃ b ∈ S'.bays, b.vol = (u : Int)) ∧ S'.mounts = ((seen.set v true).count true : Nat) ∧ heldB S'.bays = (seen.set v true).count true from
    ⟨⟨hok', by rw [hvl, h.vols, List.length_set], by rw [hbl, h.bays, List.length_set], hh.1, hh.2.1, hh.2.2⟩, hask⟩
  · cases hf : findV v S.bays with
    | some j =>
      rw [RS.mount_some hf] at hr
      simp only [Prod.mk.injEq] at hr
      obtain ⟨rfl, rfl⟩ := hr
      obtain ⟨b, hb, hbv, _⟩ := findV_some hf
      have hsv : seen[v] = true := (h.iff v hv).2 ⟨b, List.mem_of_getElem? hb, hbv⟩
      have hset : seen.set v true = seen := by
        rw [← hsv]; exact List.set_getElem_self hv
      have hmap : (S.bays.modify j fun b => { b with asked := S.asked + 1 }).map Bay.vol = S.bays.map Bay.vol := by
        rw [modify_get hb, List.map_set]
        apply List.ext_getElem?
        intro k
        rw [List.getElem?_set]
        split
        · rename_i hjk
          subst hjk
          rw [List.length_map, if_pos (List.getElem?_eq_some_iff.1 hb).1, List.getElem?_map, hb]
          rfl
        · rfl
      have hex : ∀ u : Int, (∃ b ∈ S.bays.modify j fun b => { b with asked := S.asked + 1 }, b.vol = u) ↔ ∃ b ∈ S.bays, b.vol = u := by
        intro u
        have h1 : ∀ l : List Bay, (∃ b ∈ l, b.vol = u) ↔ u ∈ l.map Bay.vol := fun l => by simp
        rw [h1, h1, hmap]
      have hcnt : heldB (S.bays.modify j fun b => { b with asked := S.asked + 1 }) = heldB S.bays := by
        have h1 : ∀ l : List Bay, heldB l = (l.map Bay.vol).countP fun u => decide (0 ≤ u) := fun l => by unfold heldB; rw [List.countP_map]; rfl
        rw [h1, h1, hmap]
      rw [hset]
      refine ⟨fun u hu => ?_, h.mounts, hcnt.trans h.held⟩
      simp only [hset]
      exact (h.iff u hu).trans (hex u).symm
    | none =>
      have hno := findV_none hf
      have hsv : seen[v] = false := by
        cases hq : seen[v] with
        | false => rfl
        | true =>
          obtain ⟨b, hb, hbv⟩ := (h.iff v hv).1 hq
          exact absurd hbv (hno b hb)
      have hlt := count_lt_of_false hv hsv
      have hex : ∃ k, emptyB S.bays = some k := by
        cases he : emptyB S.bays with
        | some k => exact ⟨k, rfl⟩
        | none =>
          exfalso
          unfold emptyB at he
          rw [List.findIdx?_eq_none_iff] at he
          have : heldB S.bays = S.bays.length := by
            unfold heldB
            rw [List.countP_eq_length]
            intro b hb
            have := he b hb
            simp at this
            simpa using this
          rw [h.held, h.bays] at this
          omega
      obtain ⟨k, hk⟩ := hex
      have hkl := emptyB_lt hk
      have hfr : freeB S.bays = k := by unfold freeB; rw [hk]; rfl
      have hkb : (S.bays[k]).vol < 0 := by
        unfold emptyB at hk
        rw [List.findIdx?_eq_some_iff_getElem] at hk
        obtain ⟨_, hp, _⟩ := hk
        simpa using hp
      rw [RS.mount_none hf hfr (List.getElem?_eq_getElem hkl) rfl (List.getElem?_eq_getElem (by rw [if_pos hkb, h.vols]; exact hv))] at hr
      simp only [Prod.mk.injEq] at hr
      obtain ⟨rfl, rfl⟩ := hr
      refine ⟨?_, ?_, ?_⟩
      · intro u hu
        rw [List.length_set] at hu
        show (seen.set v true)[u]'_ = true ↔ ∃ b ∈ S.bays.set k _, b.vol = (u : Int)
        rw [List.getElem_set]
        by_cases huv : v = u
        · subst huv
          rw [if_pos rfl]
          exact ⟨fun _ => ⟨_, List.mem_set hkl _, rfl⟩, fun _ => rfl⟩
        · rw [if_neg huv]
          refine (h.iff u hu).trans ⟨fun ⟨b, hb, hbu⟩ => ⟨b, ?_, hbu⟩, fun ⟨b, hb, hbu⟩ => ?_⟩
          · obtain ⟨m, hm, rfl⟩ := List.mem_iff_getElem.1 hb
            refine List.mem_iff_getElem.2 ⟨m, by rw [List.length_set]; exact hm, ?_⟩
            rw [List.getElem_set, if_neg]
            rintro rfl
            omega
          · rcases List.mem_or_eq_of_mem_set hb with hb | rfl
            · exact ⟨b, hb, hbu⟩
            · exact absurd (show ((v : Nat) : Int) = u from hbu) (by omega)
      · show S.mounts + 1 = _
        rw [count_set_true hv hsv, h.mounts]
        omega
      · show heldB (S.bays.set k _) = _
        rw [count_set_true hv hsv, ← h.held]
        unfold heldB
        rw [List.countP_set hkl]
        simp only [decide_eq_true_eq, show ¬ (0 ≤ S.bays[k].vol) by omega, if_false]
        simp
/-- Plainly: one drive. -/
structure RoomB (S : RS) (n : Nat) (last : Int) (turns : Nat) : Prop where
  ok : S.ok
  vols : S.vols.length = n
  bay : ∃ b, S.bays = [b] ∧ b.vol = last
  mounts : S.mounts = (turns : Nat)
theorem RoomB.new (n : Nat) (hn : 1 ≤ n ∧ n ≤ 4) : RoomB (RS.new n 5 1) n (-1) 0 :=
  ⟨rnew_ok n 5 1 (by omega) (by decide) (by omega), by simp [RS.new], ⟨_, rfl, rfl⟩, rfl⟩
theorem RoomB.step {S S' : RS} {n : Nat} {last : Int} {turns : Nat} (h : RoomB S n last turns) {v i : Nat} (hv : v < n) (ha : S.asked < 4000000000000000000) (hr : S.mount v = (S', i)) : RoomB S' n v (if (v : Int) = last then turns else turns + 1) ∧ S'.asked = S.asked + 1 := by
  obtain ⟨hok', hvl, hbl, hask, -, -⟩ := RS.mount_good h.ok ha (by rw [h.vols]; exact hv) hr
  obtain ⟨b, hb, hbl⟩ := h.bay
  by_cases he : (v : Int) = last
  · rw [if_pos he]
    have hf : findV v S.bays = some 0 := by rw [hb]; exact findV_of (n := 0) (by simp) (fun j _ hj => by omega) (by show b.vol = v; omega)
    rw [RS.mount_some hf] at hr
    simp only [Prod.mk.injEq] at hr
    obtain ⟨rfl, rfl⟩ := hr
    refine ⟨⟨hok', h.vols, ⟨{ b with asked := S.asked + 1 }, ?_, by show b.vol = _; omega⟩, h.mounts⟩, rfl⟩
    show S.bays.modify 0 _ = _
    rw [hb]; rfl
  · rw [if_neg he]
    have hf : findV v S.bays = none := by
      rw [hb]
      refine findV_no fun j bj hj hbj => ?_
      have hj0 : j = 0 := by simpa using hj
      subst hj0
      simp at hbj
      rw [← hbj]; omega
    have hfr : freeB S.bays = 0 := by have := freeB_lt (l := S.bays) (by rw [hb]; simp); rw [hb] at this ⊢; simpa using this
    obtain ⟨vs, hvs⟩ : ∃ vs, (if b.vol < 0 then S.vols else S.vols.set b.vol.toNat b.M) = vs := ⟨_, rfl⟩
    have hl : vs.length = S.vols.length := by rw [← hvs]; split <;> simp
    obtain ⟨m, hm⟩ : ∃ m, vs[v]? = some m := ⟨_, List.getElem?_eq_getElem (by rw [hl, h.vols]; exact hv)⟩
    rw [RS.mount_none hf hfr (by rw [hb]; rfl) hvs hm] at hr
    simp only [Prod.mk.injEq] at hr
    obtain ⟨rfl, rfl⟩ := hr
    refine ⟨⟨hok', hl.trans h.vols, ⟨⟨v, S.asked + 1, m, 0⟩, by show S.bays.set 0 _ = _; rw [hb]; rfl, rfl⟩, by show S.mounts + 1 = _; rw [h.mounts]; omega⟩, rfl⟩
end Go.Proofs.Ytnbpcdnpdcfiiaa
