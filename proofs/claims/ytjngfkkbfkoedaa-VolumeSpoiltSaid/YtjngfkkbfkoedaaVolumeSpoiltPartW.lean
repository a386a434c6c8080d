/- Several texts of this claim, one behind the other: VolS, VolSnap, FlatK, IntsK. -/
import Derived.Test.YtjngfkkbfkoedaaVolR
import Derived.Test.YtjngfkkbfkoedaaVolumeSpoiltPartL
import Derived.Test.YtjngfkkbfkoedaaVolumeSpoiltPartM
import Derived.Test.YtjngfkkbfkoedaaVolumeSpoiltPartB
import Derived.Test.YtjngfkkbfkoedaaProg
import Derived.Test.YtjngfkkbfkoedaaVolumeSpoiltPartG
/- What is scanned, plainly; volumes with a spoilt block. -/
namespace Go.Proofs.Ytjngfkkbfkoedaa
open Go.RowKit

variable {M : Med} {file : Int} {q : Nat} {rows : List (List Byte)} {bad : Nat → Bool}
/-- Up to the first block that cannot be read, or to the mark. -/
theorem scanGo (h : FileAt M file q rows bad) (b : Nat) (hb : b ≤ rows.length) (hbad : b < rows.length → bad b = true) (hgood : ∀ k, k < b → bad k = false) : ∀ (fuel k : Nat) (all : List Byte), k ≤ b → b < k + fuel →
    vScanGo M fuel (q + k) all = (all ++ ((rows.take b).drop k).flatten, if b < rows.length then 6 else 15, ((q + b : Nat) : Int) + 1) := by
  intro fuel
  induction fuel with
  | zero => intro k all h1 h2; omega
  | succ fuel ih =>
    intro k all h1 h2
    unfold vScanGo
    by_cases hk : k = b
    · subst hk
      rw [List.drop_of_length_le (by rw [List.length_take]; omega)]
      by_cases hlt : k < rows.length
      · rw [h.look hlt, hbad hlt, if_pos rfl, if_neg (show ¬ ((6 : Int) = 0) by decide), if_pos hlt]
        simp
      · obtain rfl : k = rows.length := by omega
        rw [h.look_mark, if_neg (show ¬ ((15 : Int) = 0) by decide), if_neg (Nat.lt_irrefl _)]
        simp
    · have hlt : k < rows.length := by omega
      rw [h.look hlt, hgood k (by omega), if_neg (show ¬ (false = true) by decide), if_pos (show ((0 : Int) = 0) from rfl), Nat.add_assoc, ih (k + 1) _ (by omega) (by omega)]
      have hd : (rows.take b).drop k = rows[k] :: (rows.take b).drop (k + 1) := by
        have hkb : k < (rows.take b).length := by rw [List.length_take]; omega
        rw [List.drop_eq_getElem_cons hkb, List.getElem_take]
      rw [hd, List.flatten_cons, List.append_assoc]
theorem vScan_file {M : Med} {q : Nat} {file : Int} {at_ : Int} (h : FileAt M file q rows bad) (hf1 : 1 ≤ file) (hfn : file ≤ vFiles M) (b : Nat) (hb : b ≤ rows.length) (hbad : b < rows.length → bad b = true) (hgood : ∀ k, k < b → bad k = false) :
    ∃ p, vScan PS.new M at_ file = ((readA ((rows.take b).flatten)).1, (readA ((rows.take b).flatten)).2.1, (readA ((rows.take b).flatten)).2.2 && decide (b = rows.length), 0, p) := by
  have hl := h.locate (Nat.zero_le _) 0
  rw [show ((0 : Nat) : Int) = 0 from rfl, Nat.add_zero] at hl
  have hg := scanGo h b hb hbad hgood (M.cells.length + 1) 0 [] (Nat.zero_le _) (by have := h.len; omega)
  rw [List.drop_zero, List.nil_append, show q + 0 = q from rfl] at hg
  unfold vScan
  rw [if_neg (by decide), if_neg (by omega), if_neg (by omega), hl, if_neg (show ¬ ((0 : Int) ≠ 0) by decide)]
  dsimp only
  rw [Int.toNat_natCast, hg]
  refine ⟨((q + b : Nat) : Int) + 1, ?_⟩
  dsimp only
  by_cases hlt : b < rows.length
  · rw [if_pos hlt, decide_eq_false (show ¬ b = rows.length by omega), decide_eq_false (show ¬ ((6 : Int) = 15) by decide)]
  · rw [if_neg hlt, decide_eq_true (show b = rows.length by omega), decide_eq_true (show ((15 : Int) = 15) from rfl)]
/-- Scan of an aggregate that can be read. -/
theorem vScan_vol {cap : Int} {lab : List Byte} {gs : List (List (List Byte))} {f : Nat} {size at_ : Int} {l : List Rec} {rows : List (List Byte)} {of : List Int} (h : VolOk cap lab gs) (hf : gs[f]? = some rows) (hp : PackOk size l rows of) :
    ∃ p, vScan PS.new (volT cap lab gs) at_ ((f : Int) + 1) = (l, offsP l, true, 0, p) := by
  have hlt := (List.getElem?_eq_some_iff.1 hf).1
  obtain ⟨p, he⟩ := vScan_file (at_ := at_) (volT_file cap lab hf) (by omega) (by rw [h.files]; omega) rows.length (Nat.le_refl _) (fun h => absurd h (Nat.lt_irrefl _)) (fun _ _ => rfl)
  rw [List.take_length, hp.flat] at he
  have hr := readA_more hp.ok []
  rw [List.append_nil] at hr
  rw [hr] at he
  refine ⟨p, ?_⟩
  rw [he]
  simp
/-- A volume of one aggregate, a block of which is spoilt. -/
theorem spoil_vol {cap : Int} {lab : List Byte} {rows : List (List Byte)} {b : Nat} (h : VolOk cap lab [rows]) (hb : b < rows.length) :
    ∃ M, (volT cap lab [rows]).spoil ((2 + b : Nat) : Int) = (M, 0) ∧ M.cap = cap ∧ M.ok = true ∧ vFiles M = 1 ∧ FileAt M 1 2 rows (fun k => decide (k = b)) := by
  have hf := volT_file cap lab (gs := [rows]) (f := 0) rfl
  have h2 : 2 + lenA ([rows].take 0) = 2 := rfl
  rw [h2] at hf
  have hlen := hf.len
  have hc := hf.blk b hb
  refine ⟨(volT cap lab [rows]).put (2 + b) ⟨1, rows[b], true⟩, ?_, rfl, ?_, ?_, ?_⟩
  · unfold Med.spoil
    rw [if_neg (by rw [h.ok]; decide), if_neg (by omega), Int.toNat_natCast, hc]
  · rw [Med.ok_iff]
    have ho := Med.ok_iff.1 h.ok
    refine ⟨⟨ho.1.1, ho.1.2.1, ?_⟩, fun c hm => ?_⟩
    · show (((volT cap lab [rows]).cells.set (2 + b) _).length : Int) ≤ _
      rw [List.length_set]
      exact ho.1.2.2
    · rcases List.mem_or_eq_of_mem_set hm with hm | rfl
      · exact ho.2 c hm
      · exact blkC_right ((h.rows rows (List.mem_singleton.2 rfl)).2 _ (List.getElem_mem hb))
  · have hok : ((volT cap lab [rows]).put (2 + b) ⟨1, rows[b], true⟩).ok = true := by
      rw [Med.ok_iff]
      have ho := Med.ok_iff.1 h.ok
      refine ⟨⟨ho.1.1, ho.1.2.1, ?_⟩, fun c hm => ?_⟩
      · show (((volT cap lab [rows]).cells.set (2 + b) _).length : Int) ≤ _
        rw [List.length_set]
        exact ho.1.2.2
      · rcases List.mem_or_eq_of_mem_set hm with hm | rfl
        · exact ho.2 c hm
        · exact blkC_right ((h.rows rows (List.mem_singleton.2 rfl)).2 _ (List.getElem_mem hb))
    have hmk : marks ((volT cap lab [rows]).put (2 + b) ⟨1, rows[b], true⟩).cells = 2 := by
      have h1 := volT_marks cap lab [rows]
      have hlt : 2 + b < (volT cap lab [rows]).cells.length := by omega
      have he : (volT cap lab [rows]).cells[2 + b] = ⟨1, rows[b], false⟩ := Option.some.inj ((List.getElem?_eq_getElem hlt).symm.trans hc)
      show ((volT cap lab [rows]).cells.set (2 + b) _).countP _ = 2
      rw [List.countP_set hlt, he]
      unfold marks at h1
      rw [h1]
      rfl
    have hfl : ((volT cap lab [rows]).put (2 + b) ⟨1, rows[b], true⟩).files = 2 := by
      unfold Med.files
      rw [if_neg (by rw [hok]; decide), hmk]
      rfl
    unfold vFiles
    rw [hfl]
    rfl
  · have hset : ∀ j, ((volT cap lab [rows]).put (2 + b) ⟨1, rows[b], true⟩).cells[j]? = if 2 + b = j then some ⟨1, rows[b], true⟩ else (volT cap lab [rows]).cells[j]? := fun j => by
      show ((volT cap lab [rows]).cells.set (2 + b) _)[j]? = _
      rw [List.getElem?_set]
      by_cases hj : 2 + b = j
      · rw [if_pos hj, if_pos hj, if_pos (by omega)]
      · rw [if_neg hj, if_neg hj]
    refine ⟨by decide, ?_, fun k hk => ?_, ?_⟩
    · show Med.behind ⟨cap, (blkC lab :: markC :: aggsC [rows]).set (2 + b) _⟩ 1 = _
      unfold Med.behind
      rw [if_neg (by decide)]
      rw [show 2 + b = b + 1 + 1 by omega, List.set_cons_succ, List.set_cons_succ, behind_blk, behind_mk, if_pos (by decide)]
      rfl
    · rw [hset]
      by_cases hkb : k = b
      · subst hkb
        rw [if_pos rfl, decide_eq_true rfl]
      · rw [if_neg (by omega), hf.blk k hk, decide_eq_false hkb]
    · rw [hset, if_neg (by omega)]
      exact hf.mark
/-- Read of it. -/
def pieceS (W : List Byte) (sz b off n : Nat) : List Byte × Int := if off / sz ≤ b ∧ b ≤ (off + n - 1) / sz then ([], 6) else ((W.drop off).take n, 0)
theorem vRead_spoilt {M : Med} {q : Nat} {W : List Byte} {sz b off n : Nat} {at_ : Int} (h : FileAt M 1 q (rowsC W sz) (fun k => decide (k = b))) (hsz : 1 ≤ sz) (hn : 1 ≤ n ∧ n ≤ 120000) (hw : off + n ≤ W.length) :
    ∃ p, vRead PS.new M at_ sz 1 (off : Int) (n : Int) = ((pieceS W sz b off n).1, (pieceS W sz b off n).2, p) := by
  have hx : b ≤ (off + n - 1) / sz ↔ b * sz < off + n := by
    rw [Nat.le_div_iff_mul_le (by omega)]
    omega
  rw [vRead_go (by decide) hn]
  unfold pieceS
  by_cases hc : off / sz ≤ b ∧ b ≤ (off + n - 1) / sz
  · rw [if_pos hc]
    obtain ⟨p, hp⟩ := readGo_bad h hsz n b (decide_eq_true rfl) (n + 1) off [] 0 (by simp) (by simp; omega) (by simpa using hw) hc.1 (by simpa using hx.1 hc.2)
    exact ⟨p, hp⟩
  · rw [if_neg hc]
    obtain ⟨p, hp⟩ := readGo_ok h hsz n (n + 1) off [] 0 (by simp) (Nat.zero_le _) (by simpa using hw) (fun k h1 h2 => by
      refine decide_eq_false fun hkb => hc ?_
      subst hkb
      exact ⟨h1, hx.2 (by simpa using h2)⟩)
    exact ⟨p, by rw [hp]; simp⟩
/-- How many of the first records end at k, or ahead of it. -/
def cntP (l : List Rec) (k : Nat) : Nat → Nat
  | 0 => 0
  | j + 1 => cntP l k j + if offP l (j + 1) ≤ k then 1 else 0
theorem cntP_ok (l : List Rec) (k : Nat) : ∀ j, cntP l k j ≤ j ∧ (cntP l k j = 0 ∨ offP l (cntP l k j) ≤ k) ∧ ∀ i, i < j → offP l (i + 1) ≤ k → i < cntP l k j := by
  intro j
  induction j with
  | zero => exact ⟨Nat.le_refl _, .inl rfl, fun i hi => absurd hi (Nat.not_lt_zero _)⟩
  | succ j ih =>
    obtain ⟨h1, h2, h3⟩ := ih
    unfold cntP
    by_cases hc : offP l (j + 1) ≤ k
    · rw [if_pos hc]
      have he : cntP l k j = j := by
        cases j with
        | zero => rfl
        | succ j =>
          have := h3 j (by omega) (Nat.le_trans (offP_mono l (by omega)) hc)
          omega
      rw [he]
      exact ⟨Nat.le_refl _, .inr hc, fun i hi _ => hi⟩
    · rw [if_neg hc, Nat.add_zero]
      refine ⟨by omega, h2, fun i hi hik => ?_⟩
      by_cases hij : i = j
      · subst hij; exact absurd hik hc
      · exact h3 i (by omega) hik
theorem rowsC_take {W : List Byte} {sz b : Nat} (hsz : 1 ≤ sz) (hb : b < (rowsC W sz).length) : ((rowsC W sz).take b).flatten = W.take (b * sz) := by
  have h : (rowsC W sz).take b = (List.range b).map (rowC W sz) := by
    unfold rowsC at hb ⊢
    rw [List.length_map, List.length_range] at hb
    rw [← List.map_take, List.take_range, Nat.min_eq_left (by omega)]
  rw [h, rowC_join _ _ hsz]
theorem rowsC_lt {W : List Byte} {sz b : Nat} (hsz : 1 ≤ sz) (hb : b < (rowsC W sz).length) : b * sz < W.length := by
  rw [rowsC_len] at hb
  have h1 : (b + 1) * sz ≤ W.length + sz - 1 := Nat.le_trans (Nat.mul_le_mul_right sz hb) (Nat.div_mul_le_self _ _)
  rw [Nat.add_mul, Nat.one_mul] at h1
  omega
/-- Scan of it. -/
theorem vScan_spoilt {M : Med} {q sz b : Nat} {size at_ : Int} {l : List Rec} {of : List Int} (hsz : size = (sz : Int)) (hp : PackOk size l (rowsC (joinB (aggrL l)) sz) of) (hv : vFiles M = 1) (h : FileAt M 1 q (rowsC (joinB (aggrL l)) sz) (fun k => decide (k = b))) (hb : b < (rowsC (joinB (aggrL l)) sz).length) :
    ∃ p, vScan PS.new M at_ 1 = (l.take (cntP l (b * sz) l.length), (offsP l).take (cntP l (b * sz) l.length), false, 0, p) := by
  have hsz1 : 1 ≤ sz := by have := hp.sz; omega
  obtain ⟨p, he⟩ := vScan_file (at_ := at_) h (by decide) (by rw [hv]; decide) b (Nat.le_of_lt hb) (fun _ => decide_eq_true rfl) (fun k hk => decide_eq_false (by omega))
  obtain ⟨h1, h2, h3⟩ := cntP_ok l (b * sz) l.length
  rw [rowsC_take hsz1 hb, readA_cut hp.ok (rowsC_lt hsz1 hb) h1 h2 h3] at he
  refine ⟨p, ?_⟩
  rw [he]
  have : offsT l (cntP l (b * sz) l.length) = (offsP l).take (cntP l (b * sz) l.length) := by
    unfold offsT offsP
    rw [← List.map_take, List.take_range, Nat.min_eq_left h1]
  rw [this]
  simp
end Go.Proofs.Ytjngfkkbfkoedaa

/- A drive's tape, taken as it is: it stays while the drive works on. -/
namespace Go.Proofs.Ytjngfkkbfkoedaa
open Go.RowKit
variable {B : Nat} {K : Nat → Prop} {w w' : World} {d g : Nat} {M : Med} {at_ : Int} {s : PS}
/-- All blocks but those of a stretch. -/
def ZK (n m : Nat) : Nat → Prop := fun b => b < n ∨ m ≤ b
theorem ZK.no {n m b : Nat} (h1 : n ≤ b) (h2 : b < m) : ¬ ZK n m b := fun h => by unfold ZK at h; omega
theorem ZK.up {n m : Nat} (hB : B ≤ w.heap.size) (h : m ≤ w.heap.size) : Up B (ZK n m) w := ⟨hB, fun _ hb => .inr (Nat.le_trans h hb)⟩
theorem drv_snap {s : PS} (w : World) (hd : DrvP B K w d g M at_ s) (hk : M.cells.length ≤ 100000) (hx : ∀ x ∈ M.cells, x.data.length ≤ 140737488355328) :
    Calls Try.prog 16 #[.pointer (some ⟨d, 0, none⟩)] w fun e w' => ∃ a' c' cs' k, e = .returned (.agg #[.int .i64 M.cap, .slice a' k c']) ∧ MedR w' w.heap.size M a' k c' cs' ∧ k ≤ c' ∧ DrvP B (fun b => b < w.heap.size) w' d g M at_ s ∧ Below w.heap.size w w' := by
  refine (drv_mediumP w hd hk hx).mono ?_
  rintro e w2 ⟨a, c, cs, k, he, hM, hc, hb⟩
  exact ⟨a, c, cs, k, he, hM, hc, (hd.rek fun b _ hb _ => hb).ext hb, hb⟩
theorem DrvP.zone {n : Nat} (h : DrvP B (fun b => b < n) w d g M at_ s) : DrvP B (ZK n w.heap.size) w d g M at_ s := h.rek fun _ _ _ hb => .inl hb
theorem DrvP.allK (h : DrvP B K w d g M at_ s) : DrvP B AllK w d g M at_ s := h.rek fun _ _ _ _ => trivial
theorem drv_startK {s s' : PS} (w : World) (hd : DrvP B K w d g M at_ s) (hs : s.start = s') (hl0 : 0 ≤ s.life) (hl1 : s.life ≤ 4611686018427387904) :
    Calls Try.prog 28 #[.pointer (some ⟨g, 0, none⟩)] w fun e w' => e = .returned (.tuple #[]) ∧ DrvP B K w' d g M at_ s' ∧ Mod (VF B K) w w' := by
  obtain ⟨⟨a, k, c, cs, h⟩, hp⟩ := hd
  refine (start_at hp hs hl0 hl1).mono ?_
  rintro e w2 ⟨rfl, hp2, hm⟩
  exact ⟨rfl, ⟨⟨a, k, c, cs, h.pf hm⟩, hp2⟩, PF.vf hm⟩
theorem drv_offK {s : PS} {r : Bool} (w : World) (hd : DrvP B K w d g M at_ s) (hs : s.off = r) :
    Calls Try.prog 27 #[.pointer (some ⟨g, 0, none⟩)] w fun e w' => e = .returned (.bool r) ∧ w = w' := off_at hd.pow hs
/-- Such a tape stays. -/
theorem MedR.snap {n m : Nat} {a : Option Addr} {k c : Nat} {cs : List CellV} (h : MedR w n M a k c cs) (hm : Mod (VF B (ZK n m)) w w') (hw : m = w.heap.size) : MedR w' n M a k c cs := h.vf hm fun b h1 h2 => ZK.no h1 (by omega)
end Go.Proofs.Ytjngfkkbfkoedaa

/- cellarerlaw02.Flat. -/
namespace Go.Proofs.Ytjngfkkbfkoedaa
open Go.RowKit

theorem flatg_le (ps : List Bsl) (k : Nat) (hp : ∀ p ∈ ps, p.l.length ≤ 300) : (flat (ps.take k)).length ≤ k * 300 := by
  induction k generalizing ps with
  | zero => simp [flat]
  | succ k ih =>
    cases ps with
    | nil => simp [flat]
    | cons p ps =>
      have h1 := hp p (by simp)
      have h2 := ih ps (fun q hq => hp q (by simp [hq]))
      simp [flat] at h2 ⊢
      omega
set_option maxHeartbeats 1000000 in
theorem flatg_any (a : Option Addr) (c : Nat) (ps : List Bsl) (w : World) (hm : Mat w a ps) (hn : ps.length ≤ 1000000) (hp : ∀ p ∈ ps, p.l.length ≤ 300) :
    Calls Try.prog 23 #[.slice a ps.length c] w fun e w' => ∃ a' c', e = .returned (.slice a' (flat ps).length c') ∧ Own w' w.heap.size 5 1 a' (flat ps).length c' (bvs (flat ps)) ∧ Below w.heap.size w w' := by
  obtain ⟨i0, hi, hz0, hz1, hz2⟩ := info_parts info8
  go_enter Try.func23, Try.ntmps23
  go_wp2_with fail
  go_loopw [3, 4] (fun v i wr => ∃ k a' c', k ≤ ps.length ∧ i = .int .i64 (k : Nat) ∧ v = .slice a' (flat (ps.take k)).length c' ∧ Own wr w.heap.size 5 1 a' (flat (ps.take k)).length c' (bvs (flat (ps.take k))) ∧ Below w.heap.size w wr) (fun _ i _ => ps.length - (intOf i).toNat)
  case atStart => exact ⟨0, none, 0, by omega, rfl, rfl, Own.nil _ _ _ _ _, Below.refl _ _⟩
  case round =>
    obtain ⟨k, a', c', hk, rfl, rfl, hown, hb⟩ := hrel
    by_cases hlt : k < ps.length
    · have hm2 := hm.ext hb
      have hrow := hm2.row _ (List.getElem_mem hlt)
      have Htk := Lib.hid (congrArg flat (take_succ_list ps k hlt))
      obtain ⟨b, o, rfl, hlb, hat⟩ := hm2.at hlt
      have hc := hat k hlt
      clear hat
      have hbd := flatg_le ps k hp
      have hpl := hp _ (List.getElem_mem hlt)
      generalize hpp : ps[k] = p at *
      have Hpp := Lib.hid hpp
      clear hpp
      obtain ⟨pa, pc, l⟩ := p
      obtain ⟨hsrc, hl⟩ := hrow
      simp only at hc hsrc hl hpl
      generalize hf : flat (ps.take k) = f at *
      have Hf := Lib.hid hf
      clear hf
      have hkk : k * 300 ≤ 300000000 := by omega
      go_wp2_with (refine wpList_app rfl (.tmp 11) (.tmp 15) 28 rfl w.heap.size 5 i0 (.int .u8 0) 1 1 Try.underlying28 hi hz0 hz1 hz2 rfl (by decide) a' f.length c' (bvs f) rfl hown pa l.length pc (bvs l) rfl (by simp) hsrc (bvs_one l) (by unfold maxLen; omega) (by omega) hb.size ?_; intro a2 c2 w2 hown2 hb2)
      go_roundw
      case rel =>
        have e : flat (ps.take (k + 1)) = f ++ l := by rw [Htk.out, flat_snoc, Hf.out]
        exact ⟨k + 1, a2, c2, by omega, by go_num, by rw [e, List.length_append], by rw [e, List.length_append, bvs_append]; exact hown2, hb.trans hb2⟩
      case measure => simp [intOf]; omega
    · have hkl : k = ps.length := by omega
      subst hkl
      rw [List.take_length] at hown ⊢
      go_wp2
      go_ret
      exact ⟨a', c', rfl, hown, hb⟩
theorem flatg_at (a : Option Addr) (c n : Nat) (ps : List Bsl) (w : World) (hm : Mat w a ps) (hn : n = ps.length) (hn2 : ps.length ≤ 1000000) (hp : ∀ p ∈ ps, p.l.length ≤ 300) {l : List Byte} {L : Nat} (hl : flat ps = l) (hL : L = l.length) :
    Calls Try.prog 23 #[.slice a n c] w fun e w' => ∃ a' c', e = .returned (.slice a' L c') ∧ Own w' w.heap.size 5 1 a' L c' (bvs l) ∧ Below w.heap.size w w' := by
  subst hn hl hL
  exact flatg_any a c ps w hm hn2 hp
end Go.Proofs.Ytjngfkkbfkoedaa

/- cellarerkeep.Ints. -/
namespace Go.Proofs.Ytjngfkkbfkoedaa
open Go.RowKit

set_option maxHeartbeats 400000 in
theorem keepints_any (a : Option Addr) (ca : Nat) (la : List Int) (b : Option Addr) (cb : Nat) (lb : List Int) (w : World) (ha : Src w a (ivs la)) (hb : Src w b (ivs lb))
    (hla : la.length ≤ 9223372036854775807) (hlb : lb.length ≤ 9223372036854775807) :
    Calls Try.prog 33 #[.slice a la.length ca, .slice b lb.length cb] w fun e w' => e = .returned (.bool (decide (la = lb))) ∧ ∃ n, w' = w.drewN n := by
  by_cases hlen : la.length = lb.length
  · have h1 : (((la.length : Nat) : Int) != ((lb.length : Nat) : Int)) = false := by simp [hlen]
    have Hlen := Lib.hid hlen
    clear hlen
    go_enter Try.func33, Try.ntmps33
    go_wp2_with fail
    go_loopw [5] (fun i wr => ∃ k n : Nat, k ≤ la.length ∧ i = .int .i64 k ∧ wr = w.drewN n ∧ la.take k = lb.take k) (fun i _ => la.length - (intOf i).toNat)
    case atStart => exact ⟨0, 0, by omega, rfl, rfl, by simp⟩
    case round =>
      obtain ⟨k, n, hk, rfl, rfl, heq⟩ := hrel
      have Heq := Lib.hid heq
      clear heq
      by_cases hlt : k < la.length
      · have hlt2 : k < lb.length := by have := Hlen.out; omega
        obtain ⟨b1, o1, rfl, _, hat1⟩ := src_ints_at ha hlt
        obtain ⟨b2, o2, rfl, _, hat2⟩ := src_ints_at hb hlt2
        have hc1 := hat1 k hlt
        have hc2 := hat2 k hlt2
        have i1 : (k : Int) < (la.length : Int) := by omega
        have i2 : (k : Int) < (lb.length : Int) := by omega
        have Ha := Lib.hid (take_succ_list la k hlt)
        have Hb := Lib.hid (take_succ_list lb k hlt2)
        clear hat1 hat2
        generalize hx : la[k] = x at hc1 Ha
        generalize hy : lb[k] = y at hc2 Hb
        have Hx := Lib.hid hx
        have Hy := Lib.hid hy
        clear hx hy
        by_cases hxy : x = y
        · have e1 : (x != y) = false := by simp [hxy]
          have Hxy := Lib.hid hxy
          clear hxy
          go_wp2_with fail
          go_quiet (fail)
          go_wp2
          go_roundw
          case rel => exact ⟨k + 1, n + nq, by omega, by go_num, rfl, by rw [Ha.out, Hb.out, Heq.out, Hxy.out]⟩
          case measure => simp [intOf]; omega
        · have e1 : (x != y) = true := by simpa using hxy
          go_wp2_with fail
          go_quiet (fail)
          go_wp2
          go_ret
          refine ⟨?_, n + nq, by simp⟩
          rw [decide_eq_false (fun h => hxy ?_)]
          · rfl
          · subst h
            exact Hx.out.symm.trans Hy.out
      · have hkl : k = la.length := by omega
        have hfin : la = lb := by
          have := Heq.out
          rw [hkl, List.take_length, Hlen.out, List.take_length] at this
          exact this
        have Hfin := Lib.hid hfin
        clear hfin hkl
        go_wp2
        go_ret
        exact ⟨by rw [decide_eq_true Hfin.out]; rfl, _, rfl⟩
  · have h1 : (((la.length : Nat) : Int) != ((lb.length : Nat) : Int)) = true := by simp; omega
    go_enter Try.func33, Try.ntmps33
    go_wp2
    go_ret
    exact ⟨by rw [decide_eq_false (fun h => hlen (by rw [h]))]; rfl, 0, rfl⟩
theorem keepints_at (a : Option Addr) (ca : Nat) (la : List Int) (b : Option Addr) (cb : Nat) (lb : List Int) (w : World) (n m : Nat) (r : Bool) (ha : Src w a (ivs la)) (hb : Src w b (ivs lb))
    (hn : n = la.length) (hm : m = lb.length) (hla : n ≤ 9223372036854775807) (hlb : m ≤ 9223372036854775807) (hr : decide (la = lb) = r) :
    Calls Try.prog 33 #[.slice a n ca, .slice b m cb] w fun e w' => e = .returned (.bool r) ∧ Below w.heap.size w w' := by
  subst hn; subst hm; subst hr
  refine (keepints_any a ca la b cb lb w ha hb hla hlb).mono ?_
  rintro e w' ⟨rfl, n, rfl⟩
  exact ⟨rfl, ext_drewN w n _⟩
end Go.Proofs.Ytjngfkkbfkoedaa
