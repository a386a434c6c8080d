/- What a store's disk holds: the plain law of Save and of Open. -/
import Derived.Test.YtogcejmnhiphgaaStoreSave
import Derived.Test.YtogcejmnhiphgaaDiskPlain3
import Derived.Test.YtogcejmnhiphgaaDiskPlain4
namespace Go.Proofs.Ytogcejmnhiphgaa

theorem sec_bytes {l : List Byte} (h : l.length = 256) (t : Bool) : Sec.bytes ⟨l, t⟩ = l := by
  unfold Sec.bytes
  rw [if_neg (by intro h0; simp only at h0; rw [h0] at h; simp at h)]
def markS (S : List Sec) (i : Nat) : Nat × Nat := if (S.getD i Sec.nought).torn then (0, 0) else saidB (S.getD i Sec.nought).bytes
def areaS (S : List Sec) (c : Nat) (s : List Byte) : Prop := ∀ j, j < secs s.length → S.getD (placeN c + j) Sec.nought = ⟨pad (rowS s j), false⟩
/-- Sectors that hold a state, so many times saved. -/
structure Good (S : List Sec) (s : List Byte) (cnt : Nat) : Prop where
  zero : cnt = 0 → s = []
  len : s.length ≤ 30000
  mark : (markS S (cnt % 2)).1 = cnt
  mlen : 0 < cnt → (markS S (cnt % 2)).2 = s.length
  other : (markS S ((cnt + 1) % 2)).1 ≤ cnt - 1
  area : areaS S cnt s

theorem secs_le {l : Nat} (h : l ≤ 30000) : secs l ≤ 118 := by unfold secs; omega
theorem getD_set_sec (S : List Sec) (i j : Nat) (x : Sec) : (S.set i x).getD j Sec.nought = if i = j ∧ j < S.length then x else S.getD j Sec.nought := by
  simp only [List.getD_eq_getElem?_getD, List.getElem?_set]
  by_cases h : i = j
  · subst h
    by_cases h2 : i < S.length
    · simp [h2]
    · simp [h2, List.getElem?_eq_none (Nat.le_of_not_lt h2)]
  · simp [h]
theorem saidB_mark {n len : Nat} (hn : n < 256 ^ 7) (hl : len < 256 ^ 4) : saidB (markB n len) = (n, len) := by
  have hp : markB n len = 83#8 :: (be n 7 ++ (be len 4 ++ (zb 256).drop 12)) := by
    have h12 : ([83#8] ++ be n 7 ++ be len 4).length = 12 := by simp [be_length]
    unfold markB pad
    rw [h12, List.take_of_length_le (by omega)]
    simp
  unfold saidB
  rw [hp]
  have h7 := be_length n 7
  have h4 := be_length len 4
  rw [if_pos (by rfl)]
  congr 1
  · rw [List.drop_succ_cons, List.drop_zero, List.take_append_of_le_length (by omega), List.take_of_length_le (by omega), numOf_be_of_lt hn]
  · rw [List.drop_succ_cons, List.drop_append_of_le_length (by omega), List.drop_of_length_le (by omega), List.nil_append, List.take_append_of_le_length (by omega), List.take_of_length_le (by omega), numOf_be_of_lt hl]

theorem read_awake {d : DS} {p : PS} {n i : Nat} (hok : d.ok n) (hoff : p.off = false) (hl : d.life = p.life) (hi : i < n) :
    d.read p (i : Int) = if (d.now.getD i Sec.nought).torn then ([], 6) else ((d.now.getD i Sec.nought).bytes, 0) := by
  rw [read_on hoff hl]
  unfold DS.get DS.inB
  rw [hok.now, if_pos (by rw [decide_eq_true_eq]; omega), Int.toNat_natCast]
theorem marked_awake {d : DS} {p : PS} {n i : Nat} (hok : d.ok n) (hoff : p.off = false) (hl : d.life = p.life) (hi : i < n) : markedP d p (i : Int) = markS d.now i := by
  unfold markedP markS
  rw [read_awake hok hoff hl hi]
  generalize d.now.getD i Sec.nought = x
  obtain ⟨b, t⟩ := x
  cases t <;> rfl
theorem pad_row (s : List Byte) (k : Nat) (h : 256 * k < s.length) : (pad (rowS s k)).take (s.length - 256 * k) = rowS s k := by
  have hl : (rowS s k).length = min 256 (s.length - k * 256) := by unfold rowS; rw [List.length_take, List.length_drop]
  have e1 : (rowS s k).take 256 = rowS s k := List.take_of_length_le (by omega)
  unfold pad
  rw [e1]
  by_cases h2 : 256 ≤ s.length - 256 * k
  · have e2 : (zb 256).drop (rowS s k).length = [] := List.drop_of_length_le (by rw [zb_length]; omega)
    rw [e2, List.append_nil]
    exact List.take_of_length_le (by omega)
  · rw [List.take_append_of_le_length (by omega)]
    exact List.take_of_length_le (by omega)
theorem rd_awake {d : DS} {p : PS} {n c : Nat} {s : List Byte} (hok : d.ok n) (hn : 300 ≤ n) (hoff : p.off = false) (hl : d.life = p.life) (hs : s.length ≤ 30000) (hA : areaS d.now c s) : rdP d p (placeN c) s.length = (s, true) := by
  have hk := secs_le hs
  have hpl := placeN_le c
  have hrd : ∀ j, j < secs s.length → d.read p ((placeN c + j : Nat) : Int) = (pad (rowS s j), 0) := fun j hj => by
    rw [read_awake hok hoff hl (by omega), hA j hj, sec_bytes (pad_length _)]
    rfl
  have hall : ∀ k, k ≤ secs s.length → catOk d p (placeN c) k = true := by
    intro k
    induction k with
    | zero => intro _; rfl
    | succ k ih =>
      intro h
      rw [catOk_succ, ih (by omega), hrd k (by omega)]
      rfl
  have hcat : ∀ k, k ≤ secs s.length → (catP d p (placeN c) k).take s.length = s.take (256 * k) := by
    intro k
    induction k with
    | zero => intro _; simp [catP]
    | succ k ih =>
      intro h
      have hlk := catP_length hok (hall k (by omega))
      have hlt : 256 * k < s.length := by unfold secs at h; omega
      have ih := ih (by omega)
      rw [List.take_of_length_le (by omega)] at ih
      rw [catP, hrd k (by omega), List.take_append, hlk, List.take_of_length_le (by omega), ih, pad_row s k hlt, rowS, Nat.mul_comm k 256, Nat.mul_succ, List.take_add]
  unfold rdP
  rw [hall _ (Nat.le_refl _), if_pos rfl, hcat _ (Nat.le_refl _), List.take_of_length_le (by unfold secs; omega)]
theorem opStep_snd (d : DS) (p : PS) (st : List Byte × Nat) (i : Nat) : (opStep d p st i).2 = st.2 ∨ (opStep d p st i).2 = (markedP d p (i : Int)).1 := by
  unfold opStep
  split
  · exact .inl rfl
  · split
    · exact .inr rfl
    · exact .inl rfl
/-- What Open finds. -/
theorem Good.open {d : DS} {p : PS} {n : Nat} {s : List Byte} {cnt : Nat} (h : Good d.now s cnt) (hok : d.ok n) (hn : 300 ≤ n) (hoff : p.off = false) (hl : d.life = p.life) : opP d p 2 = (s, cnt) := by
  have hm : ∀ i : Nat, i < 2 → markedP d p (i : Int) = markS d.now i := fun i hi => marked_awake hok hoff hl (by omega)
  have take : ∀ st : List Byte × Nat, st.2 < cnt → opStep d p st (cnt % 2) = (s, cnt) := fun st hst => by
    have h1 : markedP d p ((cnt % 2 : Nat) : Int) = (cnt, s.length) := by
      rw [hm _ (by omega)]
      have := h.mark
      have := h.mlen (by omega)
      generalize markS d.now (cnt % 2) = x at *
      obtain ⟨x, y⟩ := x
      simp_all
    rw [opStep_rd h1 (by have := h.len; omega) (rd_awake hok hn hoff hl h.len h.area)]
    rfl
  have oth : (markedP d p (((cnt + 1) % 2 : Nat) : Int)).1 ≤ cnt - 1 := by rw [hm _ (by omega)]; exact h.other
  by_cases hz : cnt = 0
  · subst hz
    have h0 : (markedP d p 0).1 = 0 := by have := hm 0 (by omega); rw [show ((0 : Nat) : Int) = 0 from rfl] at this; rw [this]; exact h.mark
    have h1 : (markedP d p 1).1 = 0 := Nat.le_zero.1 oth
    rw [h.zero rfl]
    simp only [opP]
    have e0 : opStep d p ([], 0) 0 = ([], 0) := by
      unfold opStep
      rw [if_pos (.inl (by show (markedP d p 0).1 ≤ 0; omega))]
    have e1 : opStep d p ([], 0) 1 = ([], 0) := by
      unfold opStep
      rw [if_pos (.inl (by show (markedP d p 1).1 ≤ 0; omega))]
    rw [e0, e1]
  · simp only [opP]
    rcases Nat.mod_two_eq_zero_or_one cnt with hp | hp
    · have hq : (cnt + 1) % 2 = 1 := by omega
      rw [hq] at oth
      rw [hp] at take
      rw [take _ (by show 0 < cnt; omega)]
      unfold opStep
      rw [if_pos (.inl (by show (markedP d p 1).1 ≤ cnt; have : (markedP d p 1).1 ≤ cnt - 1 := oth; omega))]
    · have hq : (cnt + 1) % 2 = 0 := by omega
      rw [hq] at oth
      rw [hp] at take
      refine take _ ?_
      have : (markedP d p ((0 : Nat) : Int)).1 ≤ cnt - 1 := oth
      rcases opStep_snd d p ([], 0) 0 with h9 | h9
      · rw [h9]; show 0 < cnt; omega
      · rw [h9]; omega

theorem markS_congr {S S' : List Sec} {i : Nat} (h : S'.getD i Sec.nought = S.getD i Sec.nought) : markS S' i = markS S i := by
  unfold markS
  rw [h]
theorem Good.congr {S S' : List Sec} {s : List Byte} {cnt : Nat} (h : Good S s cnt) (hS : ∀ j, j < 2 ∨ placeN cnt ≤ j ∧ j < placeN cnt + 118 → S'.getD j Sec.nought = S.getD j Sec.nought) : Good S' s cnt := by
  have hk := secs_le h.len
  refine ⟨h.zero, h.len, ?_, ?_, ?_, fun j hj => ?_⟩
  · rw [markS_congr (hS _ (.inl (by omega)))]; exact h.mark
  · rw [markS_congr (hS _ (.inl (by omega)))]; exact h.mlen
  · rw [markS_congr (hS _ (.inl (by omega)))]; exact h.other
  · rw [hS _ (.inr (by omega))]; exact h.area j hj
theorem placeN_ge (c : Nat) : 2 ≤ placeN c := by unfold placeN; omega
/-- The mark of the next Save, torn. -/
theorem Good.tear {S : List Sec} {s : List Byte} {cnt : Nat} (h : Good S s cnt) : Good (S.set ((cnt + 1) % 2) ⟨[], true⟩) s cnt := by
  have h2 := placeN_ge cnt
  have hne : ∀ j, j ≠ (cnt + 1) % 2 → (S.set ((cnt + 1) % 2) ⟨[], true⟩).getD j Sec.nought = S.getD j Sec.nought := fun j hj => by
    rw [getD_set_sec, if_neg (by omega)]
  refine ⟨h.zero, h.len, ?_, ?_, ?_, fun j hj => ?_⟩
  · rw [markS_congr (hne _ (by omega))]; exact h.mark
  · rw [markS_congr (hne _ (by omega))]; exact h.mlen
  · by_cases hl : (cnt + 1) % 2 < S.length
    · have e : (S.set ((cnt + 1) % 2) ⟨[], true⟩).getD ((cnt + 1) % 2) Sec.nought = ⟨[], true⟩ := by rw [getD_set_sec, if_pos ⟨rfl, hl⟩]
      unfold markS
      rw [e]
      exact Nat.zero_le _
    · rw [markS_congr (S := S) (by rw [getD_set_sec, if_neg (by omega)])]; exact h.other
  · rw [hne _ (by omega)]; exact h.area j hj
/-- The next state, written and marked. -/
theorem Good.next {S : List Sec} {s b : List Byte} {cnt : Nat} (h : Good S s cnt) (hb : b.length ≤ 30000) (hc : cnt ≤ 1000000) (hS : 2 ≤ S.length) (hA : areaS S (cnt + 1) b) : Good (S.set ((cnt + 1) % 2) ⟨markB (cnt + 1) b.length, false⟩) b (cnt + 1) := by
  have h2 := placeN_ge (cnt + 1)
  have hm : markS (S.set ((cnt + 1) % 2) ⟨markB (cnt + 1) b.length, false⟩) ((cnt + 1) % 2) = (cnt + 1, b.length) := by
    have e : (S.set ((cnt + 1) % 2) ⟨markB (cnt + 1) b.length, false⟩).getD ((cnt + 1) % 2) Sec.nought = ⟨markB (cnt + 1) b.length, false⟩ := by rw [getD_set_sec, if_pos ⟨rfl, by omega⟩]
    have hml : (markB (cnt + 1) b.length).length = 256 := by unfold markB; exact pad_length _
    unfold markS
    rw [e, sec_bytes hml, saidB_mark (by omega) (by omega)]
    rfl
  have hne : ∀ j, j ≠ (cnt + 1) % 2 → (S.set ((cnt + 1) % 2) ⟨markB (cnt + 1) b.length, false⟩).getD j Sec.nought = S.getD j Sec.nought := fun j hj => by
    rw [getD_set_sec, if_neg (by omega)]
  refine ⟨by omega, hb, by rw [hm], fun _ => by rw [hm], ?_, fun j hj => ?_⟩
  · rw [markS_congr (hne _ (by omega)), show (cnt + 1 + 1) % 2 = cnt % 2 by omega, h.mark]
    omega
  · rw [hne _ (by omega)]; exact hA j hj

theorem applyP_frame (p : PS) {j : Nat} : ∀ (l : List (Nat × List Byte)) (k : Nat) (s : List Sec), (∀ x ∈ l, x.1 ≠ j) → (applyP p k l s).getD j Sec.nought = s.getD j Sec.nought
  | [], _, _, _ => rfl
  | x :: r, k, s, h => by
    rw [applyP, applyP_frame p r (k + 1) _ fun y hy => h y (by simp [hy])]
    have hx := h x (by simp)
    split
    · rw [getD_set_sec, if_neg (by omega)]
    · split
      · rw [getD_set_sec, if_neg (by omega)]
      · rfl
theorem spend_offs (p : PS) (h : p.off = false) : p.spend.2.off = !p.spend.1 := by
  unfold PS.spend
  rw [h]
  simp only [Bool.false_eq_true, if_false]
  split
  · exact h
  · split
    · rfl
    · unfold PS.cut
      rw [h]
      rfl
/-- One write, of a disk that is awake. -/
theorem write_law {d d' : DS} {p p' : PS} {n i : Nat} {b : List Byte} {E : Int} (hok : d.ok n) (hoff : p.off = false) (hl : d.life = p.life) (hi : i < n) (hb : b.length = 256) (hr : d.write p (i : Int) b = (E, d', p')) :
    d'.ok n ∧ d'.life = d.life ∧ p'.life = p.life ∧ d'.safe = d.safe ∧ d'.pend = d.pend ++ [(i, b)] ∧ (E = 0 ∧ p'.off = false ∧ d'.now = d.now.set i ⟨b, false⟩ ∨ E = 5 ∧ p'.off = true) ∧ (p.trip = none → E = 0 ∧ p' = p) := by
  have h1 : d.inB (i : Int) = true := by unfold DS.inB; rw [hok.now]; simp; omega
  have hok' := hok.write p (i : Int) b
  have hs := spend_offs p hoff
  have hsl := spend_life p
  refine ⟨by rw [hr] at hok'; exact hok', ?_⟩
  have ht : p.trip = none → p.spend = (true, p) := fun h => spend_on hoff h
  unfold DS.write at hr
  rw [wake_on hl, hoff, h1] at hr
  simp only [Bool.false_eq_true, if_false, reduceCtorEq, hb, ne_eq, not_true, Int.toNat_natCast] at hr
  generalize p.spend = q at *
  obtain ⟨q1, q2⟩ := q
  cases q1 with
  | true =>
    simp only [if_true, Prod.mk.injEq] at hr
    obtain ⟨rfl, rfl, rfl⟩ := hr
    exact ⟨rfl, hsl, rfl, rfl, .inl ⟨rfl, hs, rfl⟩, fun h => ⟨rfl, congrArg Prod.snd (ht h)⟩⟩
  | false =>
    simp only [Bool.false_eq_true, if_false, Prod.mk.injEq] at hr
    obtain ⟨rfl, rfl, rfl⟩ := hr
    exact ⟨rfl, hsl, rfl, rfl, .inr ⟨rfl, hs⟩, fun h => by cases congrArg Prod.fst (ht h)⟩
theorem sync_law {d d' : DS} {p p' : PS} {n : Nat} {E : Int} (hok : d.ok n) (hoff : p.off = false) (hl : d.life = p.life) (hr : d.sync p = (E, d', p')) :
    d'.ok n ∧ d'.life = d.life ∧ p'.life = p.life ∧ (E = 0 ∧ p'.off = false ∧ d'.safe = d.now ∧ d'.now = d.now ∧ d'.pend = [] ∨ E = 5 ∧ p'.off = true ∧ d' = d) ∧ (p.trip = none → E = 0 ∧ p' = p) := by
  have hok' := hok.sync p
  have hs := spend_offs p hoff
  have hsl := spend_life p
  refine ⟨by rw [hr] at hok'; exact hok', ?_⟩
  have ht : p.trip = none → p.spend = (true, p) := fun h => spend_on hoff h
  unfold DS.sync at hr
  rw [wake_on hl, hoff] at hr
  simp only [Bool.false_eq_true, if_false] at hr
  generalize p.spend = q at *
  obtain ⟨q1, q2⟩ := q
  cases q1 with
  | true =>
    simp only [if_true, Prod.mk.injEq] at hr
    obtain ⟨rfl, rfl, rfl⟩ := hr
    exact ⟨rfl, hsl, .inl ⟨rfl, hs, rfl, rfl, rfl⟩, fun h => ⟨rfl, congrArg Prod.snd (ht h)⟩⟩
  | false =>
    simp only [Bool.false_eq_true, if_false, Prod.mk.injEq] at hr
    obtain ⟨rfl, rfl, rfl⟩ := hr
    exact ⟨rfl, hsl, .inr ⟨rfl, hs, rfl⟩, fun h => by cases congrArg Prod.fst (ht h)⟩
/-- Rows, written one behind the other. -/
theorem wrP_law {n : Nat} : ∀ (rows : List (List Byte)) (at_ : Nat) (d d' : DS) (p p' : PS) (E : Int), d.ok n → p.off = false → d.life = p.life → at_ + rows.length ≤ n → wrP at_ rows d p = (E, d', p') →
    d'.ok n ∧ d'.life = d.life ∧ p'.life = p.life ∧ d'.safe = d.safe ∧ (∃ more, d'.pend = d.pend ++ more ∧ ∀ x ∈ more, at_ ≤ x.1 ∧ x.1 < at_ + rows.length) ∧
    (E = 0 ∧ p'.off = false ∧ (∀ j, d'.now.getD j Sec.nought = if at_ ≤ j ∧ j < at_ + rows.length then ⟨pad (rows.getD (j - at_) []), false⟩ else d.now.getD j Sec.nought) ∨ E = 5 ∧ p'.off = true) ∧ (p.trip = none → E = 0 ∧ p' = p)
  | [], at_, d, d', p, p', E, hok, hoff, hl, hn, hr => by
    simp only [wrP, Prod.mk.injEq] at hr
    obtain ⟨rfl, rfl, rfl⟩ := hr
    exact ⟨hok, rfl, rfl, rfl, ⟨[], by simp, by simp⟩, .inl ⟨rfl, hoff, fun j => by rw [if_neg (by rw [List.length_nil]; omega)]⟩, fun _ => ⟨rfl, rfl⟩⟩
  | r :: rs, at_, d, d', p, p', E, hok, hoff, hl, hn, hr => by
    rw [List.length_cons] at hn
    obtain ⟨⟨E1, d1, p1⟩, hw⟩ : ∃ y, y = d.write p (at_ : Int) (pad r) := ⟨_, rfl⟩
    obtain ⟨hok1, hl1, hpl1, hs1, hp1, hE1, ht1⟩ := write_law hok hoff hl (by omega) (pad_length r) hw.symm
    simp only [wrP, ← hw] at hr
    rcases hE1 with ⟨rfl, hoff1, hnow1⟩ | ⟨rfl, hoff1⟩
    · rw [if_neg (by simp)] at hr
      obtain ⟨hok2, hl2, hpl2, hs2, ⟨more, hm1, hm2⟩, hE2, ht2⟩ := wrP_law rs (at_ + 1) d1 d' p1 p' E hok1 hoff1 (by rw [hl1, hpl1, hl]) (by omega) hr
      refine ⟨hok2, by rw [hl2, hl1], by rw [hpl2, hpl1], by rw [hs2, hs1], ⟨(at_, pad r) :: more, by rw [hm1, hp1]; simp, ?_⟩, ?_, ?_⟩
      · intro x hx
        rw [List.length_cons]
        rcases List.mem_cons.1 hx with rfl | hx
        · exact ⟨Nat.le_refl _, by show at_ < _; omega⟩
        · have := hm2 x hx; omega
      · rcases hE2 with ⟨rfl, hoff2, hnow2⟩ | h
        · refine .inl ⟨rfl, hoff2, fun j => ?_⟩
          rw [hnow2 j, hnow1, getD_set_sec, List.length_cons, hok.now]
          by_cases h1 : at_ + 1 ≤ j ∧ j < at_ + 1 + rs.length
          · rw [if_pos h1, if_pos (by omega), show j - at_ = (j - (at_ + 1)) + 1 by omega, List.getD_cons_succ]
          · rw [if_neg h1]
            by_cases h2 : at_ = j
            · subst h2
              rw [if_pos ⟨rfl, by omega⟩, if_pos (by omega), Nat.sub_self]
              rfl
            · rw [if_neg (by omega), if_neg (by omega)]
        · exact .inr h
      · intro h
        obtain ⟨_, rfl⟩ := ht1 h
        exact ht2 h
    · rw [if_pos (by simp)] at hr
      simp only [Prod.mk.injEq] at hr
      obtain ⟨rfl, rfl, rfl⟩ := hr
      refine ⟨hok1, hl1, hpl1, hs1, ⟨[(at_, pad r)], hp1, ?_⟩, .inr ⟨rfl, hoff1⟩, fun h => absurd (ht1 h).1 (by decide)⟩
      intro x hx
      rw [List.mem_singleton] at hx
      subst hx
      rw [List.length_cons]
      exact ⟨Nat.le_refl _, by show at_ < _; omega⟩
/-- What Save does to what the disk holds: the next state, or, once the power is gone, whatever is kept, the one or the other. -/
theorem saveP_law {d d' : DS} {p p' : PS} {n cnt : Nat} {s b : List Byte} {E : Int} (hok : d.ok n) (hn : 300 ≤ n) (hoff : p.off = false) (hl : d.life = p.life) (hG : Good d.now s cnt) (hb : b.length ≤ 30000) (hc : cnt ≤ 1000000) (hr : saveP d p cnt b (rowsS b) = (E, d', p')) :
    d'.ok n ∧ d'.life = d.life ∧ p'.life = p.life ∧
    (E = 0 ∧ p'.off = false ∧ d'.pend = [] ∧ d'.safe = d'.now ∧ Good d'.now b (cnt + 1) ∧ (∀ j, 238 ≤ j → d'.now.getD j Sec.nought = d.now.getD j Sec.nought) ∨
     E = 5 ∧ p'.off = true ∧ (d.safe = d.now → d.pend = [] → ∀ q, Good (applyP q 0 d'.pend d'.safe) s cnt ∨ Good (applyP q 0 d'.pend d'.safe) b (cnt + 1))) ∧
    (p.trip = none → E = 0 ∧ p' = p) := by
  have hrl : (rowsS b).length = secs b.length := by unfold rowsS secs; rw [List.length_map, List.length_range]; congr 1
  have hrg : ∀ j, j < secs b.length → (rowsS b).getD j [] = rowS b j := fun j hj => by
    unfold rowsS
    rw [List.getD_eq_getElem?_getD, List.getElem?_map, List.getElem?_range (by unfold secs at hj; exact hj)]
    rfl
  have hk := secs_le hb
  have hpl := placeN_le (cnt + 1)
  have hpg := placeN_ge (cnt + 1)
  have hpp : placeN cnt + 118 ≤ placeN (cnt + 1) ∨ placeN (cnt + 1) + 118 ≤ placeN cnt := by unfold placeN; omega
  obtain ⟨⟨E1, d1, p1⟩, hw⟩ : ∃ y, y = wrP (placeN (cnt + 1)) (rowsS b) d p := ⟨_, rfl⟩
  obtain ⟨hok1, hl1, hpl1, hs1, ⟨more, hm1, hm2⟩, hE1, ht1⟩ := wrP_law (n := n) _ _ d d1 p p1 E1 hok hoff hl (by rw [hrl]; omega) hw.symm
  rw [hrl] at hm2 hE1
  have hold : d.safe = d.now → d.pend = [] → ∀ q, Good (applyP q 0 d1.pend d1.safe) s cnt := fun h1 h2 q => hG.congr fun j hj => by
    rw [hm1, h2, List.nil_append, hs1, h1]
    exact applyP_frame q _ _ _ fun x hx => by have := hm2 x hx; omega
  unfold saveP at hr
  rw [← hw] at hr
  rcases hE1 with ⟨rfl, hoff1, hnow1⟩ | ⟨rfl, hoff1⟩
  · dsimp only at hr
    rw [if_neg (by simp)] at hr
    obtain ⟨⟨E2, d2, p2⟩, hsy⟩ : ∃ y, y = d1.sync p1 := ⟨_, rfl⟩
    obtain ⟨hok2, hl2, hpl2, hE2, ht2⟩ := sync_law hok1 hoff1 (by rw [hl1, hpl1, hl]) hsy.symm
    rw [← hsy] at hr
    rcases hE2 with ⟨rfl, hoff2, hs2, hnow2, hp2⟩ | ⟨rfl, hoff2, hd2⟩
    · dsimp only at hr
      rw [if_neg (by simp)] at hr
      have hG1 : Good d2.now s cnt := hG.congr fun j hj => by rw [hnow2, hnow1, if_neg (by omega)]
      have hA1 : areaS d2.now (cnt + 1) b := fun j hj => by rw [hnow2, hnow1, if_pos (by omega), show placeN (cnt + 1) + j - placeN (cnt + 1) = j by omega, hrg j hj]
      have hlen : 2 ≤ d2.now.length := by rw [hok2.now]; omega
      obtain ⟨⟨E3, d3, p3⟩, hwm⟩ : ∃ y, y = d2.write p2 (((cnt + 1) % 2 : Nat) : Int) (markB (cnt + 1) b.length) := ⟨_, rfl⟩
      obtain ⟨hok3, hl3, hpl3, hs3, hp3, hE3, ht3⟩ := write_law hok2 hoff2 (by rw [hl2, hpl2, hl1, hpl1, hl]) (by omega) (by unfold markB; exact pad_length _) hwm.symm
      rw [← hwm] at hr
      rw [hp2, List.nil_append] at hp3
      have hnew : ∀ q, Good (applyP q 0 d3.pend d3.safe) s cnt ∨ Good (applyP q 0 d3.pend d3.safe) b (cnt + 1) := fun q => by
        rw [hp3, hs3, hs2, ← hnow2]
        simp only [applyP]
        split
        · exact .inl hG1.tear
        · split
          · exact .inr (hG1.next hb hc hlen hA1)
          · exact .inl hG1
      rcases hE3 with ⟨rfl, hoff3, hnow3⟩ | ⟨rfl, hoff3⟩
      · dsimp only at hr
        rw [if_neg (by simp)] at hr
        obtain ⟨hok4, hl4, hpl4, hE4, ht4⟩ := sync_law hok3 hoff3 (by rw [hl3, hpl3, hl2, hpl2, hl1, hpl1, hl]) hr
        refine ⟨hok4, by rw [hl4, hl3, hl2, hl1], by rw [hpl4, hpl3, hpl2, hpl1], ?_, fun h => ?_⟩
        · rcases hE4 with ⟨rfl, hoff4, hs4, hnow4, hp4⟩ | ⟨rfl, hoff4, hd4⟩
          · refine .inl ⟨rfl, hoff4, hp4, by rw [hs4, hnow4], by rw [hnow4, hnow3]; exact hG1.next hb hc hlen hA1, fun j hj => ?_⟩
            rw [hnow4, hnow3, getD_set_sec, if_neg (by omega), hnow2, hnow1, if_neg (by unfold placeN; omega)]
          · exact .inr ⟨rfl, hoff4, fun _ _ q => by rw [hd4]; exact hnew q⟩
        · obtain ⟨_, rfl⟩ := ht1 h
          obtain ⟨_, rfl⟩ := ht2 h
          obtain ⟨_, rfl⟩ := ht3 h
          exact ht4 h
      · dsimp only at hr
        rw [if_pos (by simp)] at hr
        simp only [Prod.mk.injEq] at hr
        obtain ⟨rfl, rfl, rfl⟩ := hr
        refine ⟨hok3, by rw [hl3, hl2, hl1], by rw [hpl3, hpl2, hpl1], .inr ⟨rfl, hoff3, fun _ _ q => hnew q⟩, fun h => ?_⟩
        obtain ⟨_, rfl⟩ := ht1 h
        obtain ⟨_, rfl⟩ := ht2 h
        exact absurd (ht3 h).1 (by decide)
    · dsimp only at hr
      rw [if_pos (by simp)] at hr
      simp only [Prod.mk.injEq] at hr
      obtain ⟨rfl, rfl, rfl⟩ := hr
      refine ⟨hok2, by rw [hl2, hl1], by rw [hpl2, hpl1], .inr ⟨rfl, hoff2, fun h1 h2 q => .inl (by rw [hd2]; exact hold h1 h2 q)⟩, fun h => ?_⟩
      obtain ⟨_, rfl⟩ := ht1 h
      exact absurd (ht2 h).1 (by decide)
  · dsimp only at hr
    rw [if_pos (by simp)] at hr
    simp only [Prod.mk.injEq] at hr
    obtain ⟨rfl, rfl, rfl⟩ := hr
    exact ⟨hok1, hl1, hpl1, .inr ⟨rfl, hoff1, fun h1 h2 q => .inl (hold h1 h2 q)⟩, fun h => absurd (ht1 h).1 (by decide)⟩
/-- A disk of noughts holds no state. -/
theorem Good.blank {S : List Sec} (h : ∀ i, i < 2 → S.getD i Sec.nought = Sec.nought) : Good S [] 0 := by
  have hm : ∀ i, i < 2 → markS S i = (0, 0) := fun i hi => by
    unfold markS
    rw [h i hi]
    rfl
  exact ⟨fun _ => rfl, by simp, by rw [hm _ (by omega)], fun h => by omega, by rw [hm _ (by omega)]; exact Nat.zero_le _, fun j hj => by simp [secs] at hj⟩
end Go.Proofs.Ytogcejmnhiphgaa
