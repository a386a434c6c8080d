/- Several texts of this claim, one behind the other: VolCut, VolSnap, Recss. -/
import Derived.Test.YtjngfkkbfkoedaaVolL
import Derived.Test.YtjngfkkbfkoedaaVolumeCrashPartK
import Derived.Test.YtjngfkkbfkoedaaVolumeCrashPartL
import Derived.Test.YtjngfkkbfkoedaaVolumeCrashPartB
import Derived.Test.YtjngfkkbfkoedaaVolumeCrashPartM
/- Append while the power may go, and Trim behind it, plainly. -/
namespace Go.Proofs.Ytjngfkkbfkoedaa
open Go.RowKit

theorem spend_cases {s : PS} (h : s.off = false) : (s.spend.1 = true ∧ s.spend.2.off = false ∧ s.spend.2.life = s.life) ∨ (s.spend.1 = false ∧ s.spend.2.off = true ∧ s.spend.2.life = s.life) := by
  unfold PS.spend
  rw [if_neg (by rw [h]; decide)]
  split
  · exact .inl ⟨rfl, h, rfl⟩
  · split
    · exact .inl ⟨rfl, h, rfl⟩
    · refine .inr ⟨rfl, ?_, ?_⟩
      · unfold PS.cut; rw [if_neg (by rw [h]; decide)]
      · unfold PS.cut; rw [if_neg (by rw [h]; decide)]
/-- A tape that is as another one up to a place. -/
structure SameTo (M : Med) (p : Nat) (M' : Med) : Prop where
  cap : M'.cap = M.cap
  len : p ≤ M'.cells.length
  pre : M'.cells.take p = M.cells.take p
theorem SameTo.refl {M : Med} {p : Nat} (h : p ≤ M.cells.length) : SameTo M p M := ⟨rfl, h, rfl⟩
theorem SameTo.trans {M M1 M2 : Med} {p : Nat} (h : SameTo M p M1) (k : SameTo M1 p M2) : SameTo M p M2 := ⟨k.cap.trans h.cap, k.len, k.pre.trans h.pre⟩
theorem SameTo.lay {M : Med} {p q : Nat} (x : CellP) (hp : p ≤ q) (hq : q ≤ M.cells.length) : SameTo M p (M.lay q x) := by
  refine ⟨rfl, by rw [lay_len hq]; omega, ?_⟩
  show (M.cells.take q ++ [x]).take p = _
  rw [List.take_append_of_le_length (by rw [List.length_take]; omega), List.take_take, Nat.min_eq_left hp]
/-- A write, or a mark, where there is room: it is done, or the power goes. -/
theorem dvWrite_two {s : PS} {M : Med} {p q : Nat} {b : List Byte} (hs : s.off = false) (hpq : p ≤ q) (hq : q ≤ M.cells.length) (hc : (q : Int) < M.cap) (hb : 1 ≤ b.length ∧ b.length ≤ 256) :
    (∃ s', dvWrite s M q b = (0, s', M.lay q ⟨1, b, false⟩, (q : Int) + 1) ∧ s'.off = false ∧ s'.life = s.life) ∨ (∃ s' M', dvWrite s M q b = (5, s', M', (q : Int)) ∧ s'.off = true ∧ s'.life = s.life ∧ SameTo M p M') := by
  unfold dvWrite
  rw [if_neg (by rw [hs]; decide), wrong_zero hq hc _ _ (fun _ => hb), if_neg (by decide)]
  rcases spend_cases hs with ⟨h1, h2, h3⟩ | ⟨h1, h2, h3⟩
  · rw [if_pos h1]
    exact .inl ⟨_, rfl, h2, h3⟩
  · rw [if_neg (by rw [h1]; decide)]
    refine .inr ?_
    split
    · exact ⟨_, _, rfl, h2, h3, SameTo.lay _ hpq hq⟩
    · exact ⟨_, _, rfl, h2, h3, SameTo.refl (by omega)⟩
theorem dvMark_two {s : PS} {M : Med} {p q : Nat} (hs : s.off = false) (hpq : p ≤ q) (hq : q ≤ M.cells.length) (hc : (q : Int) < M.cap) :
    (∃ s', dvMark s M q = (0, s', M.lay q ⟨2, [], false⟩, (q : Int) + 1) ∧ s'.off = false ∧ s'.life = s.life) ∨ (∃ s' M', dvMark s M q = (5, s', M', (q : Int)) ∧ s'.off = true ∧ s'.life = s.life ∧ SameTo M p M') := by
  unfold dvMark
  rw [if_neg (by rw [hs]; decide), wrong_zero hq hc _ _ (fun h => by cases h), if_neg (by decide)]
  rcases spend_cases hs with ⟨h1, h2, h3⟩ | ⟨h1, h2, h3⟩
  · rw [if_pos h1]
    exact .inl ⟨_, rfl, h2, h3⟩
  · rw [if_neg (by rw [h1]; decide)]
    refine .inr ?_
    split
    · exact ⟨_, _, rfl, h2, h3, SameTo.lay _ hpq hq⟩
    · exact ⟨_, _, rfl, h2, h3, SameTo.refl (by omega)⟩
/-- Blocks written behind one another. -/
theorem vWrites_two {p : Nat} : ∀ (rows : List (List Byte)) (s : PS) (M : Med) (q : Nat), s.off = false → p ≤ q → q ≤ M.cells.length → ((q + rows.length : Nat) : Int) ≤ M.cap → (∀ r ∈ rows, 1 ≤ r.length ∧ r.length ≤ 256) →
    (∃ s', vWrites s M q rows = (0, s', if rows = [] then M else ⟨M.cap, M.cells.take q ++ rows.map blkC⟩, ((q + rows.length : Nat) : Int)) ∧ s'.off = false ∧ s'.life = s.life) ∨
    (∃ s' M' a', vWrites s M q rows = (5, s', M', a') ∧ s'.off = true ∧ s'.life = s.life ∧ SameTo M p M') := by
  intro rows
  induction rows with
  | nil => intro s M q hs _ _ _ _; exact .inl ⟨s, rfl, hs, rfl⟩
  | cons r rows ih =>
    intro s M q hs hpq hq hc hr
    have h1 := hr r (List.mem_cons_self ..)
    rw [List.length_cons] at hc
    unfold vWrites
    rcases dvWrite_two (b := r) hs hpq hq (by omega) h1 with ⟨s1, hd, ho, hl⟩ | ⟨s1, M1, hd, ho, hl, hsame⟩
    · rw [hd, if_neg (show ¬ ((0 : Int) ≠ 0) by decide)]
      dsimp only
      have hlen : (M.lay q ⟨1, r, false⟩).cells.length = q + 1 := lay_len hq
      rcases ih s1 (M.lay q ⟨1, r, false⟩) (q + 1) ho (by omega) (by rw [hlen]; exact Nat.le_refl _) (by show _ ≤ M.cap; omega) (fun x hx => hr x (List.mem_cons_of_mem _ hx)) with ⟨s2, he, ho2, hl2⟩ | ⟨s2, M2, a2, he, ho2, hl2, hs2⟩
      · refine .inl ⟨s2, ?_, ho2, hl2.trans hl⟩
        rw [he]
        have ht : (M.lay q ⟨1, r, false⟩).cells.take (q + 1) = (M.lay q ⟨1, r, false⟩).cells := List.take_of_length_le (by rw [hlen]; exact Nat.le_refl _)
        rw [ht, if_neg (show ¬ (r :: rows = []) by simp)]
        refine Prod.ext rfl (Prod.ext rfl (Prod.ext ?_ ?_))
        · show (if rows = [] then M.lay q ⟨1, r, false⟩ else ⟨(M.lay q ⟨1, r, false⟩).cap, (M.lay q ⟨1, r, false⟩).cells ++ rows.map blkC⟩) = _
          by_cases hn : rows = []
          · subst hn
            rw [if_pos rfl]
            rfl
          · rw [if_neg hn]
            unfold Med.lay
            simp [blkC]
        · show (((q + 1 + rows.length : Nat) : Int)) = _
          rw [List.length_cons]
          congr 1
          omega
      · exact .inr ⟨s2, M2, a2, he, ho2, hl2.trans hl, (SameTo.lay _ hpq hq).trans hs2⟩
    · rw [hd, if_pos (show ((5 : Int) ≠ 0) by decide)]
      exact .inr ⟨s1, M1, (q : Int), rfl, ho, hl, hsame⟩
theorem vWrites_good : ∀ (rows : List (List Byte)) {s s' : PS} {M M' : Med} {q : Nat} {E a' : Int}, DGood M (q : Int) → vWrites s M q rows = (E, s', M', a') → DGood M' a' := by
  intro rows
  induction rows with
  | nil =>
    intro s s' M M' q E a' hg h
    unfold vWrites at h
    simp only [Prod.mk.injEq] at h
    obtain ⟨-, -, rfl, rfl⟩ := h
    exact hg
  | cons r rows ih =>
    intro s s' M M' q E a' hg h
    obtain ⟨⟨E1, s1, M1, a1⟩, hd⟩ : ∃ y, y = dvWrite s M q r := ⟨_, rfl⟩
    have hq : q ≤ M.cells.length := by obtain ⟨x, hx, hl⟩ := hg.pos; omega
    have hg1 := (dvWrite_good hg.ok hq hd.symm).1
    unfold vWrites at h
    rw [← hd] at h
    dsimp only at h
    split at h
    · simp only [Prod.mk.injEq] at h
      obtain ⟨-, -, rfl, rfl⟩ := h
      exact hg1
    · rename_i h0
      have ha := dvWrite_pos hd.symm (Classical.not_not.1 h0)
      have hg2 : DGood M1 ((q + 1 : Nat) : Int) := by rw [ha] at hg1; exact hg1
      exact ih hg2 h
theorem volT_snoc_same (cap : Int) (lab : List Byte) (gs : List (List (List Byte))) (rows : List (List Byte)) : SameTo (volT cap lab gs) (2 + lenA gs) (volT cap lab (gs ++ [rows])) := by
  refine ⟨rfl, by rw [volT_len, lenA_snoc]; omega, ?_⟩
  have h := volT_take cap lab (gs ++ [rows]) gs.length
  rw [List.take_left'  (rfl : gs.length = gs.length)] at h
  rw [h]
  exact (List.take_of_length_le (l := (volT cap lab gs).cells) (by rw [volT_len]; exact Nat.le_refl _)).symm
/-- Append behind all, while the power may go. -/
theorem vAppend_cut {s : PS} {cap : Int} {lab : List Byte} {gs : List (List (List Byte))} {size at_ : Int} {l : List Rec} (h : VolOk cap lab gs) (hs : s.off = false) :
    (∃ E, vAppend s (volT cap lab gs) at_ (gs.length : Int) size l = ([], E, s, volT cap lab gs, 0) ∧ (E = 1 ∨ E = 2 ∨ E = 7)) ∨
    (∃ of E s' M' a', vAppend s (volT cap lab gs) at_ (gs.length : Int) size l = (of, E, s', M', a') ∧ (E = 0 ∧ s'.off = false ∨ E = 5 ∧ s'.off = true) ∧ s'.life = s.life ∧ SameTo (volT cap lab gs) (2 + lenA gs) M' ∧ M'.ok = true) := by
  obtain ⟨⟨rows, of, E⟩, hp⟩ : ∃ y, y = packP size l := ⟨_, rfl⟩
  have hp := hp.symm
  have hE := packP_12 hp
  have hroom : roomP (volT cap lab gs) (gs.length : Int) = cap - ((2 + lenA gs : Nat) : Int) := by rw [roomP_vol _ _ _ _ (Nat.le_refl _), List.take_length]
  have hfit := h.fit
  have hlen : (volT cap lab gs).cells.length = 2 + lenA gs := volT_len cap lab gs
  by_cases h0 : E = 0
  · subst h0
    have hk := packOk hp
    by_cases hc : ((2 + lenA gs + rows.length + 1 : Nat) : Int) ≤ cap
    · refine .inr ?_
      have hbe : ((volT cap lab gs).behind ((gs.length : Int) + 1)).1.toNat = 2 + lenA gs := by rw [volT_behind, if_pos (Nat.le_refl _), List.take_length]; rfl
      have hg0 : DGood (volT cap lab gs) ((2 + lenA gs : Nat) : Int) := ⟨h.ok, _, rfl, by rw [hlen]; exact Nat.le_refl _⟩
      unfold vAppend
      rw [if_neg (by rw [hs]; decide), hp, hroom]
      dsimp only
      rw [if_neg (show ¬ ((0 : Int) ≠ 0) by decide), if_neg (by omega), if_neg (by omega), hbe]
      rcases vWrites_two (p := 2 + lenA gs) rows s (volT cap lab gs) (2 + lenA gs) hs (Nat.le_refl _) (by rw [hlen]; exact Nat.le_refl _) (by show _ ≤ cap; omega) hk.len with ⟨s1, hw, ho1, hl1⟩ | ⟨s1, M1, a1, hw, ho1, hl1, hs1⟩
      · have hg1 := vWrites_good rows hg0 hw
        rw [hw]
        dsimp only
        rw [if_neg (show ¬ ((0 : Int) ≠ 0) by decide), Int.toNat_natCast]
        have hne : rows ≠ [] := fun hn => by have := hk.ne; rw [hn] at this; exact absurd this (by decide)
        rw [if_neg hne] at hg1 ⊢
        obtain ⟨M1, hM1⟩ : ∃ M1 : Med, M1 = ⟨(volT cap lab gs).cap, (volT cap lab gs).cells.take (2 + lenA gs) ++ rows.map blkC⟩ := ⟨_, rfl⟩
        rw [← hM1] at hg1 ⊢
        have htk : (volT cap lab gs).cells.take (2 + lenA gs) = (volT cap lab gs).cells := List.take_of_length_le (by rw [hlen]; exact Nat.le_refl _)
        have hl1' : M1.cells.length = 2 + lenA gs + rows.length := by rw [hM1, htk]; show ((volT cap lab gs).cells ++ rows.map blkC).length = _; rw [List.length_append, List.length_map, hlen]
        have hsame1 : SameTo (volT cap lab gs) (2 + lenA gs) M1 := by
          refine ⟨by rw [hM1], by rw [hl1']; omega, ?_⟩
          rw [hM1, htk]
          show ((volT cap lab gs).cells ++ rows.map blkC).take (2 + lenA gs) = _
          rw [List.take_left' hlen]
        rcases dvMark_two (p := 2 + lenA gs) (q := 2 + lenA gs + rows.length) ho1 (by omega) (by rw [hl1']; exact Nat.le_refl _) (by rw [hM1]; show _ < cap; omega) with ⟨s2, hm, ho2, hl2⟩ | ⟨s2, M2, hm, ho2, hl2, hs2⟩
        · rw [hm]
          dsimp only
          rw [if_neg (show ¬ ((0 : Int) ≠ 0) by decide)]
          exact ⟨_, _, _, _, _, rfl, .inl ⟨rfl, ho2⟩, hl2.trans hl1, hsame1.trans (SameTo.lay _ (by omega) (by rw [hl1']; exact Nat.le_refl _)), (dvMark_good hg1.ok (by rw [hl1']; exact Nat.le_refl _) hm).1.ok⟩
        · rw [hm]
          dsimp only
          rw [if_pos (show ((5 : Int) ≠ 0) by decide)]
          exact ⟨_, _, _, _, _, rfl, .inr ⟨rfl, ho2⟩, hl2.trans hl1, hsame1.trans hs2, (dvMark_good hg1.ok (by rw [hl1']; exact Nat.le_refl _) hm).1.ok⟩
      · have hg1 := vWrites_good rows hg0 hw
        rw [hw]
        dsimp only
        rw [if_pos (show ((5 : Int) ≠ 0) by decide)]
        exact ⟨_, _, _, _, _, rfl, .inr ⟨rfl, ho1⟩, hl1, hs1, hg1.ok⟩
    · refine .inl ⟨7, ?_, by decide⟩
      unfold vAppend
      rw [if_neg (by rw [hs]; decide), hp, hroom]
      dsimp only
      rw [if_neg (show ¬ ((0 : Int) ≠ 0) by decide), if_neg (by omega), if_pos (by omega)]
  · refine .inl ⟨E, ?_, by omega⟩
    unfold vAppend
    rw [if_neg (by rw [hs]; decide), hp, if_pos h0]
theorem behind_app (ds es : List CellP) : ∀ (i : Nat) (n : Int) (p : Int), behind ds i n = (p, 0) → behind (ds ++ es) i n = (p, 0) := by
  induction ds with
  | nil => intro i n p h; simp only [behind, Prod.mk.injEq] at h; exact absurd h.2 (by decide)
  | cons c ds ih =>
    intro i n p h
    rw [List.cons_append]
    unfold behind at h ⊢
    split at h
    · rename_i hk
      rw [if_pos hk]
      split at h
      · rename_i hn; rw [if_pos hn]; exact h
      · rename_i hn; rw [if_neg hn]; exact ih _ _ _ h
    · rename_i hk
      rw [if_neg hk]
      exact ih _ _ _ h
/-- Trim to what stood there before. -/
theorem vTrim_back {s : PS} {M' : Med} {cap : Int} {lab : List Byte} {gs : List (List (List Byte))} {at_ : Int} (hoff : s.off = false) (htrip : s.trip = none) (h : SameTo (volT cap lab gs) (2 + lenA gs) M') :
    ∃ at', vTrim s M' at_ (gs.length : Int) = (0, s, volT cap lab gs, at') := by
  have hge := lenA_ge gs
  have hall : (volT cap lab gs).cells.take (2 + lenA gs) = (volT cap lab gs).cells := List.take_of_length_le (by rw [volT_len]; exact Nat.le_refl _)
  have hpre := h.pre.trans hall
  have hl := h.len
  have hb0 := volT_behind cap lab gs gs.length
  rw [if_pos (Nat.le_refl _), List.take_length] at hb0
  have hb : behindV M' (gs.length : Int) = (((2 + lenA gs : Nat) : Int), 0) := by
    unfold behindV
    rw [if_neg (by omega)]
    unfold Med.behind at hb0 ⊢
    rw [if_neg (by omega)] at hb0 ⊢
    have hsp : M'.cells = (volT cap lab gs).cells ++ M'.cells.drop (2 + lenA gs) := by rw [← hpre, List.take_append_drop]
    rw [hsp]
    exact behind_app _ _ _ _ _ hb0
  have hM : (⟨M'.cap, M'.cells.take (2 + lenA gs)⟩ : Med) = volT cap lab gs := by rw [hpre, h.cap]
  unfold vTrim
  rw [if_neg (by rw [hoff]; decide), hb, if_neg (show ¬ ((0 : Int) ≠ 0) by decide)]
  by_cases he : ((2 + lenA gs : Nat) : Int) = (M'.cells.length : Int)
  · rw [if_pos he]
    refine ⟨0, ?_⟩
    rw [List.take_of_length_le (by omega)] at hM
    rw [show M' = volT cap lab gs from hM]
  · rw [if_neg he]
    refine ⟨((2 + lenA gs : Nat) : Int), ?_⟩
    rw [Int.toNat_natCast]
    have hsp : s.spend = (true, s) := by
      unfold PS.spend
      rw [if_neg (by rw [hoff]; decide), htrip]
    have hd : dvEnd s M' (2 + lenA gs) = (0, s, volT cap lab gs) := by
      unfold dvEnd
      rw [if_neg (by rw [hoff]; decide), hsp, if_pos rfl, hM]
    rw [hd]
theorem arm_off_none (s : PS) (t : Int) : (s.arm 0 [] t).trip = none ∧ (s.arm 0 [] t).off = s.off ∧ (s.arm 0 [] t).life = s.life := ⟨rfl, rfl, rfl⟩
theorem start_trip (s : PS) (h : s.trip = none) : s.start.trip = none ∧ s.start.off = false := by
  unfold PS.start
  split
  · exact ⟨h, rfl⟩
  · rename_i hh; exact ⟨h, by simpa using hh⟩
end Go.Proofs.Ytjngfkkbfkoedaa

/- A drive's tape, taken as it is: it stays while the drive works on. -/
namespace Go.Proofs.Ytjngfkkbfkoedaa
open Go.RowKit
variable {B : Nat} {K : Nat → Prop} {w w' : World} {d g : Nat} {M : Med} {at_ : Int} {s : PS}
/-- All blocks but those of a stretch. -/
def ZK (n m : Nat) : Nat → Prop := fun b => b < n ∨ m ≤ b
theorem ZK.no {n m b : Nat} (h1 : n ≤ b) (h2 : b < m) : ¬ ZK n m b := fun h => by unfold ZK at h; omega
theorem ZK.up {n m : Nat} (hB : B ≤ w.heap.size) (h : m ≤ w.heap.size) : Up B (ZK n m) w := ⟨hB, fun _ hb => .inr (Nat.le_trans h hb)⟩
theorem drv_snap {s : PS} (w : World) (hd : DrvP B K w d g M at_ s) (hk : M.cells.length ≤ 100000) (hx : ∀ x ∈ M.cells, x.data.length ≤ 140737488355328) :
    Calls Try.prog 16 #[.pointer (some ⟨d, 0, none⟩)] w fun e w' => ∃ a' c' cs' k, e = .returned (.agg #[.int .i64 M.cap, .slice a' k c']) ∧ MedR w' w.heap.size M a' k c' cs' ∧ k ≤ c' ∧ DrvP B (fun b => b < w.heap.size) w' d g M at_ s ∧ Below w.heap.size w w' := by
  refine (drv_mediumP w hd hk hx).mono ?_
  rintro e w2 ⟨a, c, cs, k, he, hM, hc, hb⟩
  exact ⟨a, c, cs, k, he, hM, hc, (hd.rek fun b _ hb _ => hb).ext hb, hb⟩
theorem DrvP.zone {n : Nat} (h : DrvP B (fun b => b < n) w d g M at_ s) : DrvP B (ZK n w.heap.size) w d g M at_ s := h.rek fun _ _ _ hb => .inl hb
theorem DrvP.allK (h : DrvP B K w d g M at_ s) : DrvP B AllK w d g M at_ s := h.rek fun _ _ _ _ => trivial
theorem drv_startK {s s' : PS} (w : World) (hd : DrvP B K w d g M at_ s) (hs : s.start = s') (hl0 : 0 ≤ s.life) (hl1 : s.life ≤ 4611686018427387904) :
    Calls Try.prog 28 #[.pointer (some ⟨g, 0, none⟩)] w fun e w' => e = .returned (.tuple #[]) ∧ DrvP B K w' d g M at_ s' ∧ Mod (VF B K) w w' := by
  obtain ⟨⟨a, k, c, cs, h⟩, hp⟩ := hd
  refine (start_at hp hs hl0 hl1).mono ?_
  rintro e w2 ⟨rfl, hp2, hm⟩
  exact ⟨rfl, ⟨⟨a, k, c, cs, h.pf hm⟩, hp2⟩, PF.vf hm⟩
theorem drv_offK {s : PS} {r : Bool} (w : World) (hd : DrvP B K w d g M at_ s) (hs : s.off = r) :
    Calls Try.prog 27 #[.pointer (some ⟨g, 0, none⟩)] w fun e w' => e = .returned (.bool r) ∧ w = w' := off_at hd.pow hs
/-- Such a tape stays. -/
theorem MedR.snap {n m : Nat} {a : Option Addr} {k c : Nat} {cs : List CellV} (h : MedR w n M a k c cs) (hm : Mod (VF B (ZK n m)) w w') (hw : m = w.heap.size) : MedR w' n M a k c cs := h.vf hm fun b h1 h2 => ZK.no h1 (by omega)
end Go.Proofs.Ytjngfkkbfkoedaa

/- Slices of slices of records as they lie. -/
namespace Go.Proofs.Ytjngfkkbfkoedaa
open Go.RowKit
/-- A slice of records, as it lies. -/
structure RRow where
  a : Option Addr
  c : Nat
  rs : List RecV
def RRow.cells (y : RRow) : List Value := [.slice y.a y.rs.length y.c]
theorem RRow.len (y : RRow) : y.cells.length = 1 := rfl
def RRow.ok (w : World) (y : RRow) : Prop := RMat w y.a y.rs ∧ y.rs.length ≤ 9223372036854775807 ∧ y.rs.length ≤ y.c
theorem RRow.ok.ext {w w' : World} {y : RRow} (h : y.ok w) (hb : Below w.heap.size w w') : y.ok w' := ⟨h.1.ext hb, h.2⟩
structure RRMat (w : World) (a : Option Addr) (l : List RRow) : Prop where
  src : Src w a (flt RRow.cells l)
  ok : ∀ y ∈ l, y.ok w
theorem RRMat.ext {w w' : World} {a : Option Addr} {l : List RRow} (h : RRMat w a l) (hb : Below w.heap.size w w') : RRMat w' a l := ⟨h.src.ext hb, fun y hy => (h.ok y hy).ext hb⟩
/-- One of them. -/
theorem RRMat.at {w : World} {a : Option Addr} {l : List RRow} (h : RRMat w a l) {i : Nat} (hi : i < l.length) :
    ∃ b o, a = some ⟨b, o, none⟩ ∧ b < w.heap.size ∧ ∀ i (hi : i < l.length), w.cell? ⟨b, o + i, none⟩ = some (.slice l[i].a l[i].rs.length l[i].c) := by
  obtain ⟨b, o, ha, hlt, hat⟩ := h.src.elem RRow.len (by decide) hi
  refine ⟨b, o, ha, hlt, fun i hi => ?_⟩
  have := hat i hi 0 _ rfl
  rw [Nat.mul_one] at this
  exact this
end Go.Proofs.Ytjngfkkbfkoedaa
