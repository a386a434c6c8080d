/- Joined frames, cut and turned: plain. -/
import Derived.Test.YtclkkhpnnbkfmaaVolumeBackPartO
import Derived.Test.YtclkkhpnnbkfmaaVolumeBackPartL
namespace Go.Proofs.Ytclkkhpnnbkfmaa

theorem readF_end (b : List Byte) : readF b (b.length : Int) = (Rec.zero, 0, 3) := by
  unfold readF
  rw [if_neg (by omega), if_pos (by simp)]
theorem readF_past (b : List Byte) : readF b ((b.length : Int) + 1) = (Rec.zero, 0, 1) := by
  unfold readF
  rw [if_pos (by omega)]
/-- A frame that is cut short. -/
theorem readF_cut (pre : List Byte) (r : Rec) (j : Nat) (h : r.e = 0) (hj : j < 13 + r.d.length) : readF (pre ++ (frameOf r).take j) pre.length = (Rec.zero, 0, 3) := by
  have hfl := frameOf_length r
  have hlen : (pre ++ (frameOf r).take j).length = pre.length + j := by simp [hfl]; omega
  have e0 : ((pre.length : Int)).toNat = pre.length := by simp
  unfold readF
  rw [e0, if_neg (by rw [hlen]; omega)]
  by_cases h13 : j < 13
  · rw [if_pos (by rw [hlen]; omega)]
  · rw [if_neg (by rw [hlen]; omega)]
    obtain ⟨h1, h2, h3, h4, h5⟩ := recE_ok.1 h
    have hb1 : (be r.kind.toNat 1).length = 1 := be_length _ _
    have hbs : (be r.seq.toNat 4).length = 4 := be_length _ _
    have hbn : (be r.d.length 4).length = 4 := be_length _ _
    have g5 : ((pre ++ (frameOf r).take j).drop (pre.length + 5)).take 4 = be r.d.length 4 := by
      rw [← List.drop_drop, List.drop_left' rfl, List.drop_take, List.take_take, Nat.min_eq_left (by omega)]
      have hform : frameOf r = be r.kind.toNat 1 ++ (be r.seq.toNat 4 ++ (be r.d.length 4 ++ (crcBytesOf (crc (fhead r ++ r.d)) ++ r.d))) := by
        simp [frameOf, fhead, List.append_assoc]
      rw [hform, show (5 : Nat) = 1 + 4 from rfl, ← List.drop_drop, List.drop_left' hb1, List.drop_left' hbs, List.take_left' hbn]
    have p4 : (256 : Nat) ^ 4 = 4294967296 := by decide
    have n5 : numOf (be r.d.length 4) = r.d.length := numOf_be_of_lt (by rw [p4]; omega)
    rw [g5, n5, if_pos (.inr (.inr (by rw [hlen]; omega)))]

theorem splitFrom_join : ∀ (l pre : List Rec) (fuel : Nat), (∀ r ∈ l, r.e = 0) → (joinB l).length ≤ fuel → splitFrom (joinB pre ++ joinB l) fuel (joinB pre).length pre = (pre ++ l, 0)
  | [], pre, fuel, _, _ => by
    cases fuel with
    | zero => simp [splitFrom]
    | succ fuel => simp [splitFrom, joinB]
  | r :: l, pre, fuel, h, hf => by
    have hr := h r (by simp)
    have hlen := frameOf_length r
    rw [joinB_cons, List.length_append, hlen] at hf
    cases fuel with
    | zero => omega
    | succ fuel =>
      have hrd := readF_frame (joinB pre) (joinB l) r hr
      rw [joinB_cons, splitFrom, if_pos (by simp [hlen]; omega), hrd]
      rw [if_pos rfl]
      have := splitFrom_join l (pre ++ [r]) fuel (fun r hr => h r (by simp [hr])) (by omega)
      rw [joinB_snoc, List.append_assoc] at this
      show splitFrom _ fuel (((((joinB pre).length + 13 + r.d.length : Nat) : Int))).toNat (pre ++ [r]) = _
      rw [Int.toNat_natCast, show ((joinB pre).length + 13 + r.d.length : Nat) = (joinB pre ++ frameOf r).length by simp [hlen]; omega]
      simpa using this
theorem splitF_join {l : List Rec} (h : ∀ r ∈ l, r.e = 0) : splitF (joinB l) = (l, 0) := by
  exact splitFrom_join l [] (joinB l).length h (Nat.le_refl _)
/-- Frames, and behind them one that is cut short. -/
theorem splitFrom_cut : ∀ (l pre : List Rec) (r : Rec) (j fuel : Nat), (∀ x ∈ l, x.e = 0) → r.e = 0 → 0 < j → j < 13 + r.d.length → (joinB l ++ (frameOf r).take j).length ≤ fuel →
    splitFrom (joinB pre ++ (joinB l ++ (frameOf r).take j)) fuel (joinB pre).length pre = ([], 3)
  | [], pre, r, j, fuel, _, hr, hj0, hj, hf => by
    have hlen := frameOf_length r
    have hx : ((frameOf r).take j).length = j := by simp [hlen]; omega
    rw [show joinB [] = [] from rfl, List.nil_append] at hf ⊢
    rw [hx] at hf
    cases fuel with
    | zero => omega
    | succ fuel =>
      rw [splitFrom, if_pos (by rw [List.length_append, hx]; omega), readF_cut (joinB pre) r j hr hj]
      rfl
  | x :: l, pre, r, j, fuel, h, hr, hj0, hj, hf => by
    have hx := h x (by simp)
    have hlen := frameOf_length x
    rw [joinB_cons, List.append_assoc] at hf ⊢
    rw [List.length_append, hlen] at hf
    cases fuel with
    | zero => omega
    | succ fuel =>
      have hrd := readF_frame (joinB pre) (joinB l ++ (frameOf r).take j) x hx
      rw [splitFrom, if_pos (by simp [hlen]; omega), hrd]
      rw [if_pos rfl]
      have := splitFrom_cut l (pre ++ [x]) r j fuel (fun r hr => h r (by simp [hr])) hr hj0 hj (by omega)
      rw [joinB_snoc, List.append_assoc] at this
      show splitFrom _ fuel (((((joinB pre).length + 13 + x.d.length : Nat) : Int))).toNat (pre ++ [x]) = _
      rw [Int.toNat_natCast, show ((joinB pre).length + 13 + x.d.length : Nat) = (joinB pre ++ frameOf x).length by simp [hlen]; omega]
      simpa using this
theorem splitF_cut {l : List Rec} {r : Rec} {j : Nat} (h : ∀ x ∈ l, x.e = 0) (hr : r.e = 0) (h0 : 0 < j) (hj : j < 13 + r.d.length) : splitF (joinB l ++ (frameOf r).take j) = ([], 3) := by
  exact splitFrom_cut l [] r j _ h hr h0 hj (Nat.le_refl _)
/-- A cut at a frame's end; and within one. -/
theorem take_at (l : List Rec) (n : Nat) : (joinB l).take (joinB (l.take n)).length = joinB (l.take n) := by
  conv => lhs; rw [show joinB l = joinB (l.take n) ++ joinB (l.drop n) by rw [← joinB_append, List.take_append_drop]]
  rw [List.take_left' rfl]
theorem take_in (l : List Rec) (n k : Nat) (hn : n < l.length) (h1 : (joinB (l.take n)).length ≤ k) (h2 : k < (joinB (l.take n)).length + (13 + l[n].d.length)) :
    (joinB l).take k = joinB (l.take n) ++ (frameOf l[n]).take (k - (joinB (l.take n)).length) := by
  have h3 : joinB l = joinB (l.take n) ++ (frameOf l[n] ++ joinB (l.drop (n + 1))) := by
    rw [← joinB_cons, ← joinB_append, ← List.drop_eq_getElem_cons hn, List.take_append_drop]
  rw [h3, List.take_append, List.take_of_length_le h1, List.take_append_of_le_length (by rw [frameOf_length]; omega)]
theorem splitF_take_at {l : List Rec} (h : ∀ r ∈ l, r.e = 0) (n k : Nat) (hk : k = (joinB (l.take n)).length) : splitF ((joinB l).take k) = (l.take n, 0) := by
  subst hk
  rw [take_at]
  exact splitF_join fun r hr => h r (List.mem_of_mem_take hr)
theorem splitF_take_in {l : List Rec} (h : ∀ r ∈ l, r.e = 0) (n k : Nat) (hn : n < l.length) (h1 : (joinB (l.take n)).length < k) (h2 : k < (joinB (l.take (n + 1))).length) : splitF ((joinB l).take k) = ([], 3) := by
  have e1 : (joinB (l.take (n + 1))).length = (joinB (l.take n)).length + (13 + l[n].d.length) := by
    rw [take_succ_list l n hn, joinB_snoc, List.length_append, frameOf_length]
  rw [take_in l n k hn (by omega) (by omega)]
  exact splitF_cut (fun r hr => h r (List.mem_of_mem_take hr)) (h _ (List.getElem_mem hn)) (by omega) (by omega)
theorem joinB_take_succ (l : List Rec) (n : Nat) (hn : n < l.length) : (joinB (l.take (n + 1))).length = (joinB (l.take n)).length + 13 + l[n].d.length := by
  rw [take_succ_list l n hn, joinB_snoc, List.length_append, frameOf_length]; omega

/-- Bits of the tail turned. -/
theorem flipBit_append (h d : List Byte) (t : Nat) : flipBit (h ++ d) (8 * h.length + t) = h ++ flipBit d t := by
  unfold flipBit
  have e1 : (8 * h.length + t) / 8 = h.length + t / 8 := by omega
  have e2 : (8 * h.length + t) % 8 = t % 8 := by omega
  rw [e1, e2]
  rw [List.set_append_right _ _ (by omega)]
  congr 2
  · omega
  · rw [List.getD_eq_getElem?_getD, List.getElem?_append_right (by omega), Nat.add_sub_cancel_left, ← List.getD_eq_getElem?_getD]
theorem flipTo_append (h d : List Byte) (q : Nat) (m : BitVec 32) : ∀ k, flipTo (h ++ d) (8 * h.length + q) m k = h ++ flipTo d q m k
  | 0 => rfl
  | k + 1 => by
    rw [flipTo, flipTo, flipTo_append h d q m k]
    split
    · rw [Nat.add_assoc, flipBit_append]
    · rfl
/-- A frame with its data turned about has a wrong sum. -/
theorem readF_flip (r : Rec) (q : Nat) (m : BitVec 32) (k : Nat) (h : r.e = 0) (hk : k ≤ 32) (hp : q + k ≤ 8 * r.d.length) (hne : flipTo (frameOf r) (104 + q) m k ≠ frameOf r) : readF (flipTo (frameOf r) (104 + q) m k) 0 = (Rec.zero, 0, 4) := by
  obtain ⟨h1, h2, h3, h4, h5⟩ := recE_ok.1 h
  have hH : (fhead r ++ crcBytesOf (crc (fhead r ++ r.d))).length = 13 := by rw [List.length_append, fhead_length, crcBytesOf_len]
  have hx : flipTo (frameOf r) (104 + q) m k = fhead r ++ (crcBytesOf (crc (fhead r ++ r.d)) ++ flipTo r.d q m k) := by
    have := flipTo_append (fhead r ++ crcBytesOf (crc (fhead r ++ r.d))) r.d q m k
    rw [hH] at this
    rw [frameOf, ← List.append_assoc, this, List.append_assoc]
  rw [hx] at hne ⊢
  have hd : flipTo r.d q m k ≠ r.d := by
    intro hh; apply hne; rw [hh]; rfl
  have hc : crc (fhead r ++ r.d) ≠ crc (fhead r ++ flipTo r.d q m k) := by
    intro hh
    have e := flipTo_append (fhead r) r.d q m k
    rw [fhead_length] at e
    rw [← e] at hh
    have := (flip_crc (fhead r ++ r.d) (8 * 9 + q) m k hk (by rw [List.length_append, fhead_length]; omega)).1 hh
    rw [e] at this
    exact hd (List.append_cancel_left this).symm
  have hdl := flipTo_length r.d q m k
  generalize flipTo r.d q m k = d' at *
  have hcb : crcBytesOf (crc (fhead r ++ d')) ≠ crcBytesOf (crc (fhead r ++ r.d)) := by
    intro hh
    apply hc
    have hinj : ∀ x y : BitVec 32, crcBytesOf x = crcBytesOf y → x = y := by
      intro x y hxy
      simp only [crcBytesOf, List.cons.injEq, and_true] at hxy
      bv_omega
    exact (hinj _ _ hh).symm
  have p4 : (256 : Nat) ^ 4 = 4294967296 := by decide
  have hb1 : (be r.kind.toNat 1).length = 1 := be_length _ _
  have hbs : (be r.seq.toNat 4).length = 4 := be_length _ _
  have hbn : (be r.d.length 4).length = 4 := be_length _ _
  obtain ⟨K, hK⟩ := Int.eq_ofNat_of_zero_le (show 0 ≤ r.kind by omega)
  obtain ⟨S, hS⟩ := Int.eq_ofNat_of_zero_le h3
  have hform : fhead r ++ (crcBytesOf (crc (fhead r ++ r.d)) ++ d') = be r.kind.toNat 1 ++ (be r.seq.toNat 4 ++ (be r.d.length 4 ++ (crcBytesOf (crc (fhead r ++ r.d)) ++ d'))) := by
    simp [fhead, List.append_assoc]
  have hbe1 : be r.kind.toNat 1 = [BitVec.ofNat 8 K] := by rw [hK]; simp [be]
  have hlen : (fhead r ++ (crcBytesOf (crc (fhead r ++ r.d)) ++ d')).length = 13 + r.d.length := by
    rw [List.length_append, List.length_append, fhead_length, crcBytesOf_len, hdl]; omega
  unfold readF
  rw [show (0 : Int).toNat = 0 from rfl, if_neg (by omega), if_neg (by rw [hlen]; omega), Nat.zero_add, Nat.zero_add, Nat.zero_add, Nat.zero_add, List.drop_zero]
  have g0 : (fhead r ++ (crcBytesOf (crc (fhead r ++ r.d)) ++ d')).getD 0 0#8 = BitVec.ofNat 8 K := by
    rw [hform, hbe1]; simp [List.getD_eq_getElem?_getD]
  have g1 : ((fhead r ++ (crcBytesOf (crc (fhead r ++ r.d)) ++ d')).drop 1).take 4 = be r.seq.toNat 4 := by
    rw [hform, List.drop_left' hb1, List.take_left' hbs]
  have g5 : ((fhead r ++ (crcBytesOf (crc (fhead r ++ r.d)) ++ d')).drop 5).take 4 = be r.d.length 4 := by
    rw [hform, show (5 : Nat) = 1 + 4 from rfl, ← List.drop_drop, List.drop_left' hb1, List.drop_left' hbs, List.take_left' hbn]
  have g9 : (fhead r ++ (crcBytesOf (crc (fhead r ++ r.d)) ++ d')).take 9 = fhead r := List.take_left' (fhead_length r)
  have g9' : ((fhead r ++ (crcBytesOf (crc (fhead r ++ r.d)) ++ d')).drop 9).take 4 = crcBytesOf (crc (fhead r ++ r.d)) := by
    rw [List.drop_left' (fhead_length r), List.take_left' (crcBytesOf_len _)]
  have g13 : ((fhead r ++ (crcBytesOf (crc (fhead r ++ r.d)) ++ d')).drop 13).take r.d.length = d' := by
    rw [show (13 : Nat) = 9 + 4 from rfl, ← List.drop_drop, List.drop_left' (fhead_length r), List.drop_left' (crcBytesOf_len _), List.take_of_length_le (by omega)]
  have n1 : numOf (be r.seq.toNat 4) = S := by rw [numOf_be_of_lt (by rw [p4]; omega), hS]; simp
  have n5 : numOf (be r.d.length 4) = r.d.length := numOf_be_of_lt (by rw [p4]; omega)
  have hk8 : ((BitVec.ofNat 8 K).toNat : Int) = r.kind := by rw [BitVec.toNat_ofNat]; omega
  rw [g0, g1, g5, g9, g9', n1, n5, g13, hk8, if_neg (by
    rw [hlen]
    intro hh
    rcases hh with hh | hh | hh
    · exact hh (recE_ok.2 ⟨h1, h2, by omega, by omega, by omega⟩)
    · omega
    · omega), if_neg hcb]
end Go.Proofs.Ytclkkhpnnbkfmaa
