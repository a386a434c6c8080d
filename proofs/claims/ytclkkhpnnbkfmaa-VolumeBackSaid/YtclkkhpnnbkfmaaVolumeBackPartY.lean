/- Several texts of this claim, one behind the other: VolS, VolSnap, Recss, VolEnt, LabelWakes. -/
import Derived.Test.YtclkkhpnnbkfmaaVolR
import Derived.Test.YtclkkhpnnbkfmaaVolumeBackPartM
import Derived.Test.YtclkkhpnnbkfmaaVolumeBackPartO
import Derived.Test.YtclkkhpnnbkfmaaVolumeBackPartB
import Derived.Test.YtclkkhpnnbkfmaaVolumeBackPartP
import Derived.Test.YtclkkhpnnbkfmaaVolumeBackPartU
/- What is scanned, plainly; volumes with a spoilt block. -/
namespace Go.Proofs.Ytclkkhpnnbkfmaa
open Go.RowKit

variable {M : Med} {file : Int} {q : Nat} {rows : List (List Byte)} {bad : Nat → Bool}
/-- Up to the first block that cannot be read, or to the mark. -/
theorem scanGo (h : FileAt M file q rows bad) (b : Nat) (hb : b ≤ rows.length) (hbad : b < rows.length → bad b = true) (hgood : ∀ k, k < b → bad k = false) : ∀ (fuel k : Nat) (all : List Byte), k ≤ b → b < k + fuel →
    vScanGo M fuel (q + k) all = (all ++ ((rows.take b).drop k).flatten, if b < rows.length then 6 else 15, ((q + b : Nat) : Int) + 1) := by
  intro fuel
  induction fuel with
  | zero => intro k all h1 h2; omega
  | succ fuel ih =>
    intro k all h1 h2
    unfold vScanGo
    by_cases hk : k = b
    · subst hk
      rw [List.drop_of_length_le (by rw [List.length_take]; omega)]
      by_cases hlt : k < rows.length
      · rw [h.look hlt, hbad hlt, if_pos rfl, if_neg (show ¬ ((6 : Int) = 0) by decide), if_pos hlt]
        simp
      · obtain rfl : k = rows.length := by omega
        rw [h.look_mark, if_neg (show ¬ ((15 : Int) = 0) by decide), if_neg (Nat.lt_irrefl _)]
        simp
    · have hlt : k < rows.length := by omega
      rw [h.look hlt, hgood k (by omega), if_neg (show ¬ (false = true) by decide), if_pos (show ((0 : Int) = 0) from rfl), Nat.add_assoc, ih (k + 1) _ (by omega) (by omega)]
      have hd : (rows.take b).drop k = rows[k] :: (rows.take b).drop (k + 1) := by
        have hkb : k < (rows.take b).length := by rw [List.length_take]; omega
        rw [List.drop_eq_getElem_cons hkb, List.getElem_take]
      rw [hd, List.flatten_cons, List.append_assoc]
theorem vScan_file {M : Med} {q : Nat} {file : Int} {at_ : Int} (h : FileAt M file q rows bad) (hf1 : 1 ≤ file) (hfn : file ≤ vFiles M) (b : Nat) (hb : b ≤ rows.length) (hbad : b < rows.length → bad b = true) (hgood : ∀ k, k < b → bad k = false) :
    ∃ p, vScan PS.new M at_ file = ((readA ((rows.take b).flatten)).1, (readA ((rows.take b).flatten)).2.1, (readA ((rows.take b).flatten)).2.2 && decide (b = rows.length), 0, p) := by
  have hl := h.locate (Nat.zero_le _) 0
  rw [show ((0 : Nat) : Int) = 0 from rfl, Nat.add_zero] at hl
  have hg := scanGo h b hb hbad hgood (M.cells.length + 1) 0 [] (Nat.zero_le _) (by have := h.len; omega)
  rw [List.drop_zero, List.nil_append, show q + 0 = q from rfl] at hg
  unfold vScan
  rw [if_neg (by decide), if_neg (by omega), if_neg (by omega), hl, if_neg (show ¬ ((0 : Int) ≠ 0) by decide)]
  dsimp only
  rw [Int.toNat_natCast, hg]
  refine ⟨((q + b : Nat) : Int) + 1, ?_⟩
  dsimp only
  by_cases hlt : b < rows.length
  · rw [if_pos hlt, decide_eq_false (show ¬ b = rows.length by omega), decide_eq_false (show ¬ ((6 : Int) = 15) by decide)]
  · rw [if_neg hlt, decide_eq_true (show b = rows.length by omega), decide_eq_true (show ((15 : Int) = 15) from rfl)]
theorem vScanGo_good (hg : M.ok = true) : ∀ (fuel p : Nat) (all : List Byte), p ≤ M.cells.length → DGood M (vScanGo M fuel p all).2.2 := by
  intro fuel
  induction fuel with
  | zero => intro p all hp; exact ⟨hg, p, rfl, hp⟩
  | succ fuel ih =>
    intro p all hp
    unfold vScanGo
    split
    · rename_i h0
      exact ih _ _ (look_blk hg h0).1
    · exact (look_dgood (M := M) (p := (p : Int)) ⟨hg, p, rfl, hp⟩).1
theorem vScan_good {s : PS} {at_ : Int} (hd : DGood M at_) : DGood M (vScan s M at_ file).2.2.2.2 := by
  have h0 : DGood M 0 := ⟨hd.ok, 0, rfl, Nat.zero_le _⟩
  have h1 := locate_dgood (n := file) (b := 0) h0
  unfold vScan
  split
  · exact hd
  split
  · exact h0
  split
  · exact h0
  split
  · exact h1
  · obtain ⟨x, hx, hl⟩ := h1.pos
    refine vScanGo_good hd.ok _ _ _ ?_
    rw [hx, Int.toNat_natCast]
    exact hl
theorem vScan_none {cap : Int} {lab : List Byte} {gs : List (List (List Byte))} {at_ : Int} (h : VolOk cap lab gs) {file : Int} (hf : (gs.length : Int) < file) : vScan PS.new (volT cap lab gs) at_ file = ([], [], false, 8, 0) := by
  unfold vScan
  rw [if_neg (by decide), if_neg (by omega), if_pos (by rw [h.files]; exact hf)]
/-- Scan of an aggregate that can be read. -/
theorem vScan_vol {cap : Int} {lab : List Byte} {gs : List (List (List Byte))} {f : Nat} {size at_ : Int} {l : List Rec} {rows : List (List Byte)} {of : List Int} (h : VolOk cap lab gs) (hf : gs[f]? = some rows) (hp : PackOk size l rows of) :
    ∃ p, vScan PS.new (volT cap lab gs) at_ ((f : Int) + 1) = (l, offsP l, true, 0, p) := by
  have hlt := (List.getElem?_eq_some_iff.1 hf).1
  obtain ⟨p, he⟩ := vScan_file (at_ := at_) (volT_file cap lab hf) (by omega) (by rw [h.files]; omega) rows.length (Nat.le_refl _) (fun h => absurd h (Nat.lt_irrefl _)) (fun _ _ => rfl)
  rw [List.take_length, hp.flat] at he
  have hr := readA_more hp.ok []
  rw [List.append_nil] at hr
  rw [hr] at he
  refine ⟨p, ?_⟩
  rw [he]
  simp
/-- A volume of one aggregate, a block of which is spoilt. -/
theorem spoil_vol {cap : Int} {lab : List Byte} {rows : List (List Byte)} {b : Nat} (h : VolOk cap lab [rows]) (hb : b < rows.length) :
    ∃ M, (volT cap lab [rows]).spoil ((2 + b : Nat) : Int) = (M, 0) ∧ M.cap = cap ∧ M.ok = true ∧ vFiles M = 1 ∧ FileAt M 1 2 rows (fun k => decide (k = b)) := by
  have hf := volT_file cap lab (gs := [rows]) (f := 0) rfl
  have h2 : 2 + lenA ([rows].take 0) = 2 := rfl
  rw [h2] at hf
  have hlen := hf.len
  have hc := hf.blk b hb
  refine ⟨(volT cap lab [rows]).put (2 + b) ⟨1, rows[b], true⟩, ?_, rfl, ?_, ?_, ?_⟩
  · unfold Med.spoil
    rw [if_neg (by rw [h.ok]; decide), if_neg (by omega), Int.toNat_natCast, hc]
  · rw [Med.ok_iff]
    have ho := Med.ok_iff.1 h.ok
    refine ⟨⟨ho.1.1, ho.1.2.1, ?_⟩, fun c hm => ?_⟩
    · show (((volT cap lab [rows]).cells.set (2 + b) _).length : Int) ≤ _
      rw [List.length_set]
      exact ho.1.2.2
    · rcases List.mem_or_eq_of_mem_set hm with hm | rfl
      · exact ho.2 c hm
      · exact blkC_right ((h.rows rows (List.mem_singleton.2 rfl)).2 _ (List.getElem_mem hb))
  · have hok : ((volT cap lab [rows]).put (2 + b) ⟨1, rows[b], true⟩).ok = true := by
      rw [Med.ok_iff]
      have ho := Med.ok_iff.1 h.ok
      refine ⟨⟨ho.1.1, ho.1.2.1, ?_⟩, fun c hm => ?_⟩
      · show (((volT cap lab [rows]).cells.set (2 + b) _).length : Int) ≤ _
        rw [List.length_set]
        exact ho.1.2.2
      · rcases List.mem_or_eq_of_mem_set hm with hm | rfl
        · exact ho.2 c hm
        · exact blkC_right ((h.rows rows (List.mem_singleton.2 rfl)).2 _ (List.getElem_mem hb))
    have hmk : marks ((volT cap lab [rows]).put (2 + b) ⟨1, rows[b], true⟩).cells = 2 := by
      have h1 := volT_marks cap lab [rows]
      have hlt : 2 + b < (volT cap lab [rows]).cells.length := by omega
      have he : (volT cap lab [rows]).cells[2 + b] = ⟨1, rows[b], false⟩ := Option.some.inj ((List.getElem?_eq_getElem hlt).symm.trans hc)
      show ((volT cap lab [rows]).cells.set (2 + b) _).countP _ = 2
      rw [List.countP_set hlt, he]
      unfold marks at h1
      rw [h1]
      rfl
    have hfl : ((volT cap lab [rows]).put (2 + b) ⟨1, rows[b], true⟩).files = 2 := by
      unfold Med.files
      rw [if_neg (by rw [hok]; decide), hmk]
      rfl
    unfold vFiles
    rw [hfl]
    rfl
  · have hset : ∀ j, ((volT cap lab [rows]).put (2 + b) ⟨1, rows[b], true⟩).cells[j]? = if 2 + b = j then some ⟨1, rows[b], true⟩ else (volT cap lab [rows]).cells[j]? := fun j => by
      show ((volT cap lab [rows]).cells.set (2 + b) _)[j]? = _
      rw [List.getElem?_set]
      by_cases hj : 2 + b = j
      · rw [if_pos hj, if_pos hj, if_pos (by omega)]
      · rw [if_neg hj, if_neg hj]
    refine ⟨by decide, ?_, fun k hk => ?_, ?_⟩
    · show Med.behind ⟨cap, (blkC lab :: markC :: aggsC [rows]).set (2 + b) _⟩ 1 = _
      unfold Med.behind
      rw [if_neg (by decide)]
      rw [show 2 + b = b + 1 + 1 by omega, List.set_cons_succ, List.set_cons_succ, behind_blk, behind_mk, if_pos (by decide)]
      rfl
    · rw [hset]
      by_cases hkb : k = b
      · subst hkb
        rw [if_pos rfl, decide_eq_true rfl]
      · rw [if_neg (by omega), hf.blk k hk, decide_eq_false hkb]
    · rw [hset, if_neg (by omega)]
      exact hf.mark
/-- Read of it. -/
def pieceS (W : List Byte) (sz b off n : Nat) : List Byte × Int := if off / sz ≤ b ∧ b ≤ (off + n - 1) / sz then ([], 6) else ((W.drop off).take n, 0)
theorem vRead_spoilt {M : Med} {q : Nat} {W : List Byte} {sz b off n : Nat} {at_ : Int} (h : FileAt M 1 q (rowsC W sz) (fun k => decide (k = b))) (hsz : 1 ≤ sz) (hn : 1 ≤ n ∧ n ≤ 120000) (hw : off + n ≤ W.length) :
    ∃ p, vRead PS.new M at_ sz 1 (off : Int) (n : Int) = ((pieceS W sz b off n).1, (pieceS W sz b off n).2, p) := by
  have hx : b ≤ (off + n - 1) / sz ↔ b * sz < off + n := by
    rw [Nat.le_div_iff_mul_le (by omega)]
    omega
  rw [vRead_go (by decide) hn]
  unfold pieceS
  by_cases hc : off / sz ≤ b ∧ b ≤ (off + n - 1) / sz
  · rw [if_pos hc]
    obtain ⟨p, hp⟩ := readGo_bad h hsz n b (decide_eq_true rfl) (n + 1) off [] 0 (by simp) (by simp; omega) (by simpa using hw) hc.1 (by simpa using hx.1 hc.2)
    exact ⟨p, hp⟩
  · rw [if_neg hc]
    obtain ⟨p, hp⟩ := readGo_ok h hsz n (n + 1) off [] 0 (by simp) (Nat.zero_le _) (by simpa using hw) (fun k h1 h2 => by
      refine decide_eq_false fun hkb => hc ?_
      subst hkb
      exact ⟨h1, hx.2 (by simpa using h2)⟩)
    exact ⟨p, by rw [hp]; simp⟩
/-- How many of the first records end at k, or ahead of it. -/
def cntP (l : List Rec) (k : Nat) : Nat → Nat
  | 0 => 0
  | j + 1 => cntP l k j + if offP l (j + 1) ≤ k then 1 else 0
theorem cntP_ok (l : List Rec) (k : Nat) : ∀ j, cntP l k j ≤ j ∧ (cntP l k j = 0 ∨ offP l (cntP l k j) ≤ k) ∧ ∀ i, i < j → offP l (i + 1) ≤ k → i < cntP l k j := by
  intro j
  induction j with
  | zero => exact ⟨Nat.le_refl _, .inl rfl, fun i hi => absurd hi (Nat.not_lt_zero _)⟩
  | succ j ih =>
    obtain ⟨h1, h2, h3⟩ := ih
    unfold cntP
    by_cases hc : offP l (j + 1) ≤ k
    · rw [if_pos hc]
      have he : cntP l k j = j := by
        cases j with
        | zero => rfl
        | succ j =>
          have := h3 j (by omega) (Nat.le_trans (offP_mono l (by omega)) hc)
          omega
      rw [he]
      exact ⟨Nat.le_refl _, .inr hc, fun i hi _ => hi⟩
    · rw [if_neg hc, Nat.add_zero]
      refine ⟨by omega, h2, fun i hi hik => ?_⟩
      by_cases hij : i = j
      · subst hij; exact absurd hik hc
      · exact h3 i (by omega) hik
theorem rowsC_take {W : List Byte} {sz b : Nat} (hsz : 1 ≤ sz) (hb : b < (rowsC W sz).length) : ((rowsC W sz).take b).flatten = W.take (b * sz) := by
  have h : (rowsC W sz).take b = (List.range b).map (rowC W sz) := by
    unfold rowsC at hb ⊢
    rw [List.length_map, List.length_range] at hb
    rw [← List.map_take, List.take_range, Nat.min_eq_left (by omega)]
  rw [h, rowC_join _ _ hsz]
theorem rowsC_lt {W : List Byte} {sz b : Nat} (hsz : 1 ≤ sz) (hb : b < (rowsC W sz).length) : b * sz < W.length := by
  rw [rowsC_len] at hb
  have h1 : (b + 1) * sz ≤ W.length + sz - 1 := Nat.le_trans (Nat.mul_le_mul_right sz hb) (Nat.div_mul_le_self _ _)
  rw [Nat.add_mul, Nat.one_mul] at h1
  omega
/-- Scan of it. -/
theorem vScan_spoilt {M : Med} {q sz b : Nat} {size at_ : Int} {l : List Rec} {of : List Int} (hsz : size = (sz : Int)) (hp : PackOk size l (rowsC (joinB (aggrL l)) sz) of) (hv : vFiles M = 1) (h : FileAt M 1 q (rowsC (joinB (aggrL l)) sz) (fun k => decide (k = b))) (hb : b < (rowsC (joinB (aggrL l)) sz).length) :
    ∃ p, vScan PS.new M at_ 1 = (l.take (cntP l (b * sz) l.length), (offsP l).take (cntP l (b * sz) l.length), false, 0, p) := by
  have hsz1 : 1 ≤ sz := by have := hp.sz; omega
  obtain ⟨p, he⟩ := vScan_file (at_ := at_) h (by decide) (by rw [hv]; decide) b (Nat.le_of_lt hb) (fun _ => decide_eq_true rfl) (fun k hk => decide_eq_false (by omega))
  obtain ⟨h1, h2, h3⟩ := cntP_ok l (b * sz) l.length
  rw [rowsC_take hsz1 hb, readA_cut hp.ok (rowsC_lt hsz1 hb) h1 h2 h3] at he
  refine ⟨p, ?_⟩
  rw [he]
  have : offsT l (cntP l (b * sz) l.length) = (offsP l).take (cntP l (b * sz) l.length) := by
    unfold offsT offsP
    rw [← List.map_take, List.take_range, Nat.min_eq_left h1]
  rw [this]
  simp
end Go.Proofs.Ytclkkhpnnbkfmaa

/- A drive's tape, taken as it is: it stays while the drive works on. -/
namespace Go.Proofs.Ytclkkhpnnbkfmaa
open Go.RowKit
variable {B : Nat} {K : Nat → Prop} {w w' : World} {d g : Nat} {M : Med} {at_ : Int} {s : PS}
/-- All blocks but those of a stretch. -/
def ZK (n m : Nat) : Nat → Prop := fun b => b < n ∨ m ≤ b
theorem ZK.no {n m b : Nat} (h1 : n ≤ b) (h2 : b < m) : ¬ ZK n m b := fun h => by unfold ZK at h; omega
theorem ZK.up {n m : Nat} (hB : B ≤ w.heap.size) (h : m ≤ w.heap.size) : Up B (ZK n m) w := ⟨hB, fun _ hb => .inr (Nat.le_trans h hb)⟩
theorem drv_snap {s : PS} (w : World) (hd : DrvP B K w d g M at_ s) (hk : M.cells.length ≤ 100000) (hx : ∀ x ∈ M.cells, x.data.length ≤ 140737488355328) :
    Calls Try.prog 77 #[.pointer (some ⟨d, 0, none⟩)] w fun e w' => ∃ a' c' cs' k, e = .returned (.agg #[.int .i64 M.cap, .slice a' k c']) ∧ MedR w' w.heap.size M a' k c' cs' ∧ k ≤ c' ∧ DrvP B (fun b => b < w.heap.size) w' d g M at_ s ∧ Below w.heap.size w w' := by
  refine (drv_mediumP w hd hk hx).mono ?_
  rintro e w2 ⟨a, c, cs, k, he, hM, hc, hb⟩
  exact ⟨a, c, cs, k, he, hM, hc, (hd.rek fun b _ hb _ => hb).ext hb, hb⟩
theorem DrvP.zone {n : Nat} (h : DrvP B (fun b => b < n) w d g M at_ s) : DrvP B (ZK n w.heap.size) w d g M at_ s := h.rek fun _ _ _ hb => .inl hb
theorem DrvP.allK (h : DrvP B K w d g M at_ s) : DrvP B AllK w d g M at_ s := h.rek fun _ _ _ _ => trivial
theorem drv_startK {s s' : PS} (w : World) (hd : DrvP B K w d g M at_ s) (hs : s.start = s') (hl0 : 0 ≤ s.life) (hl1 : s.life ≤ 4611686018427387904) :
    Calls Try.prog 36 #[.pointer (some ⟨g, 0, none⟩)] w fun e w' => e = .returned (.tuple #[]) ∧ DrvP B K w' d g M at_ s' ∧ Mod (VF B K) w w' := by
  obtain ⟨⟨a, k, c, cs, h⟩, hp⟩ := hd
  refine (start_at hp hs hl0 hl1).mono ?_
  rintro e w2 ⟨rfl, hp2, hm⟩
  exact ⟨rfl, ⟨⟨a, k, c, cs, h.pf hm⟩, hp2⟩, PF.vf hm⟩
theorem drv_offK {s : PS} {r : Bool} (w : World) (hd : DrvP B K w d g M at_ s) (hs : s.off = r) :
    Calls Try.prog 89 #[.pointer (some ⟨g, 0, none⟩)] w fun e w' => e = .returned (.bool r) ∧ w = w' := off_at hd.pow hs
/-- Such a tape stays. -/
theorem MedR.snap {n m : Nat} {a : Option Addr} {k c : Nat} {cs : List CellV} (h : MedR w n M a k c cs) (hm : Mod (VF B (ZK n m)) w w') (hw : m = w.heap.size) : MedR w' n M a k c cs := h.vf hm fun b h1 h2 => ZK.no h1 (by omega)
end Go.Proofs.Ytclkkhpnnbkfmaa

/- Slices of slices of records as they lie. -/
namespace Go.Proofs.Ytclkkhpnnbkfmaa
open Go.RowKit
/-- A slice of records, as it lies. -/
structure RRow where
  a : Option Addr
  c : Nat
  rs : List RecV
def RRow.cells (y : RRow) : List Value := [.slice y.a y.rs.length y.c]
theorem RRow.len (y : RRow) : y.cells.length = 1 := rfl
def RRow.ok (w : World) (y : RRow) : Prop := RMat w y.a y.rs ∧ y.rs.length ≤ 9223372036854775807 ∧ y.rs.length ≤ y.c
theorem RRow.ok.ext {w w' : World} {y : RRow} (h : y.ok w) (hb : Below w.heap.size w w') : y.ok w' := ⟨h.1.ext hb, h.2⟩
structure RRMat (w : World) (a : Option Addr) (l : List RRow) : Prop where
  src : Src w a (flt RRow.cells l)
  ok : ∀ y ∈ l, y.ok w
theorem RRMat.ext {w w' : World} {a : Option Addr} {l : List RRow} (h : RRMat w a l) (hb : Below w.heap.size w w') : RRMat w' a l := ⟨h.src.ext hb, fun y hy => (h.ok y hy).ext hb⟩
/-- One of them. -/
theorem RRMat.at {w : World} {a : Option Addr} {l : List RRow} (h : RRMat w a l) {i : Nat} (hi : i < l.length) :
    ∃ b o, a = some ⟨b, o, none⟩ ∧ b < w.heap.size ∧ ∀ i (hi : i < l.length), w.cell? ⟨b, o + i, none⟩ = some (.slice l[i].a l[i].rs.length l[i].c) := by
  obtain ⟨b, o, ha, hlt, hat⟩ := h.src.elem RRow.len (by decide) hi
  refine ⟨b, o, ha, hlt, fun i hi => ?_⟩
  have := hat i hi 0 _ rfl
  rw [Nat.mul_one] at this
  exact this
end Go.Proofs.Ytclkkhpnnbkfmaa

/- What VolumeBack keeps of each aggregate. -/
namespace Go.Proofs.Ytclkkhpnnbkfmaa
open Go.RowKit

/-- An aggregate that was appended: its records, its offsets as told, its blocks. -/
structure Ent where
  y : RRow
  ao : Option Addr
  co : Nat
  rows : List (List Byte)
def Ent.of (e : Ent) : List Int := offsP (recs e.y.rs)
def Ent.ov (e : Ent) : Value := .slice e.ao e.y.rs.length e.co
def Ent.yv (e : Ent) : Value := .slice e.y.a e.y.rs.length e.y.c
structure Ent.ok (size : Int) (w : World) (e : Ent) : Prop where
  pk : PackOk size (recs e.y.rs) e.rows e.of
  row : e.y.ok w
  few : e.y.rs.length ≤ 64
def entG (es : List Ent) : List (List (List Byte)) := es.map Ent.rows
theorem entG_length (es : List Ent) : (entG es).length = es.length := by simp [entG]
/-- The offsets' slices lie in rows of their own. -/
structure EntsAt (w : World) (B : Nat) (aF : Option Addr) (G cF : Nat) (aY : Option Addr) (cY : Nat) (es : List Ent) : Prop where
  len : G = es.length
  fr : Own w B 41 1 aF G cF (es.map Ent.ov)
  yr : Own w B 39 1 aY G cY (es.map Ent.yv)
  ints : ∀ e ∈ es, Own w B 3 1 e.ao e.y.rs.length e.co (ivs e.of)
/-- A row of one's own is no block ahead of it, nor a new one. -/
theorem Own.far {w : World} {B : Nat} {e : TypeId} {k : Nat} {a : Option Addr} {n c : Nat} {xs : List Value} (h : Own w B e k a n c xs) {b : Nat} (hb : b < B ∨ w.heap.size ≤ b) : (n = 0 ∧ c = 0) ∨ ∀ o, a ≠ some ⟨b, o, none⟩ := by
  obtain ⟨hl, h0 | ⟨g, cur, ha, hg, hh, rest⟩⟩ := h
  · exact .inl h0
  · refine .inr fun o he => ?_
    rw [ha] at he
    simp only [Option.some.injEq, Addr.mk.injEq] at he
    have := heap_lt hh
    omega
variable {B : Nat} {K : Nat → Prop} {w w' : World} {aF aY : Option Addr} {G cF cY : Nat} {es : List Ent}
theorem EntsAt.mod {F : Nat → TypeId → Prop} (h : EntsAt w B aF G cF aY cY es) (hm : Mod F w w') (hF : ∀ b T, F b T → T ≠ 41 ∧ T ≠ 39 ∧ T ≠ 3) : EntsAt w' B aF G cF aY cY es :=
  ⟨h.len, h.fr.mod hm fun b _ _ hf => (hF _ _ hf).1 rfl, h.yr.mod hm fun b _ _ hf => (hF _ _ hf).2.1 rfl, fun e he => (h.ints e he).mod hm fun b _ _ hf => (hF _ _ hf).2.2 rfl⟩
theorem EntsAt.vf {B' : Nat} (h : EntsAt w B aF G cF aY cY es) (hm : Mod (VF B' K) w w') : EntsAt w' B aF G cF aY cY es := h.mod hm (by
  rintro b T ⟨_, hT | ⟨_, hT⟩⟩
  · simp only [PT, List.mem_cons, List.not_mem_nil, or_false] at hT
    rcases hT with rfl | rfl <;> decide
  · simp only [TT, List.mem_cons, List.not_mem_nil, or_false] at hT
    rcases hT with rfl | rfl <;> decide)
theorem EntsAt.ext (h : EntsAt w B aF G cF aY cY es) (hb : Below w.heap.size w w') : EntsAt w' B aF G cF aY cY es :=
  ⟨h.len, h.fr.ext hb, h.yr.ext hb, fun e he => (h.ints e he).ext hb⟩
/-- One of them. -/
theorem EntsAt.at (h : EntsAt w B aF G cF aY cY es) {i : Nat} (hi : i < es.length) :
    ∃ x y, aF = some ⟨x, 0, none⟩ ∧ aY = some ⟨y, 0, none⟩ ∧ x < w.heap.size ∧ y < w.heap.size ∧ w.cell? ⟨x, i, none⟩ = some es[i].ov ∧ w.cell? ⟨y, i, none⟩ = some es[i].yv := by
  obtain ⟨x, hx, _, hlx, hatx, _⟩ := h.fr.at (i := i) (by rw [h.len]; exact hi)
  obtain ⟨y, hy, _, hly, haty, _⟩ := h.yr.at (i := i) (by rw [h.len]; exact hi)
  refine ⟨x, y, hx, hy, hlx, hly, ?_, ?_⟩
  · have := hatx i (by rw [List.length_map]; exact hi)
    rw [this, List.getElem_map]
  · have := haty i (by rw [List.length_map]; exact hi)
    rw [this, List.getElem_map]
theorem infoRowI : (Try.prog.info? 41).map (fun i => (i.zero, i.size, i.bytes)) = some (some (.slice none 0 0), 1, 24) := by kernel_rfl
theorem infoRowR : (Try.prog.info? 39).map (fun i => (i.zero, i.size, i.bytes)) = some (some (.slice none 0 0), 1, 24) := by kernel_rfl
/-- Bytes of a record where it stands. -/
theorem frame_at {l : List Rec} (h : AggrOk l) {j : Nat} (hj : j < l.length) : ((joinB (aggrL l)).drop (offP l j)).take (13 + l[j].d.length) = frameOf l[j] ∧ offP l j + (13 + l[j].d.length) ≤ (joinB (aggrL l)).length := by
  have h1 := aggrL_split l hj
  have h2 := pre_len l j
  refine ⟨?_, ?_⟩
  · rw [h1, List.drop_left' h2, List.take_left' (by rw [frameOf_length])]
  · rw [h1, List.length_append, h2, List.length_append, frameOf_length]
    omega
theorem frame_kind {r : Rec} (h : r.e = 0) : ∃ b t, frameOf r = b :: t ∧ ((b.toNat : Nat) : Int) = r.kind := by
  have hk := recE_ok.1 h
  have hf : frameOf r = be r.kind.toNat 1 ++ (be r.seq.toNat 4 ++ be r.d.length 4 ++ (crcBytesOf (crc (fhead r ++ r.d)) ++ r.d)) := by
    unfold frameOf
    conv => lhs; rw [show fhead r = be r.kind.toNat 1 ++ (be r.seq.toNat 4 ++ be r.d.length 4) from rfl]
    rw [List.append_assoc]
    rfl
  have hb : be r.kind.toNat 1 = [BitVec.ofNat 8 r.kind.toNat] := by simp [be]
  rw [hb] at hf
  refine ⟨_, _, hf, ?_⟩
  rw [BitVec.toNat_ofNat]
  omega
theorem frame_drop (r : Rec) : (frameOf r).drop 13 = r.d := by
  unfold frameOf
  rw [← List.append_assoc, List.drop_left' (by rw [List.length_append]; show (fhead r).length + 4 = 13; unfold fhead; simp [be_length])]
theorem entG_get {es : List Ent} {i : Nat} (hi : i < es.length) : (entG es)[i]? = some es[i].rows := by unfold entG; rw [List.getElem?_map, List.getElem?_eq_getElem hi]; rfl
end Go.Proofs.Ytclkkhpnnbkfmaa

/- A label that lies in memory; cellarerlaw14.wakes. -/
namespace Go.Proofs.Ytclkkhpnnbkfmaa
open Go.RowKit

set_option maxRecDepth 100000

/-- In block g stands the label. -/
def LabAt (w : World) (g : Nat) (v p e : Int) : Prop := w.heap[g]? = some (.cells #[.int .i64 v, .int .i64 p, .int .i64 e] 37)
theorem LabAt.new (w : World) (v p e : Int) : LabAt (w.alloc (.cells #[.int .i64 v, .int .i64 p, .int .i64 e] 37)) w.heap.size v p e := heap_alloc_new w _
theorem LabAt.put (w : World) (v p e : Int) : LabAt ((w.alloc (.cells #[.int .i64 0, .int .i64 0, .int .i64 0] 37)).setRow w.heap.size #[.int .i64 v, .int .i64 p, .int .i64 e]) w.heap.size v p e :=
  setRow_heap _ _ _ _ _ _ (heap_alloc_new w _)
theorem below_put (w : World) (v p e : Int) : Below w.heap.size w ((w.alloc (.cells #[.int .i64 0, .int .i64 0, .int .i64 0] 37)).setRow w.heap.size #[.int .i64 v, .int .i64 p, .int .i64 e]) :=
  bsetRow (ext_alloc w _) (Nat.le_refl _) _
theorem LabAt.cells {w : World} {g : Nat} {v p e : Int} (h : LabAt w g v p e) : w.cell? ⟨g, 0, none⟩ = some (.int .i64 v) ∧ w.cell? ⟨g, 1, none⟩ = some (.int .i64 p) ∧ w.cell? ⟨g, 2, none⟩ = some (.int .i64 e) :=
  ⟨cell_of_row w g 0 _ _ _ h, cell_of_row w g 1 _ _ _ h, cell_of_row w g 2 _ _ _ h⟩
theorem LabAt.ext {w w' : World} {g : Nat} {v p e : Int} (h : LabAt w g v p e) (hb : Below w.heap.size w w') : LabAt w' g v p e := (hb.block g (heap_lt h)).trans h
theorem LabAt.drewN {w : World} {g : Nat} {v p e : Int} (h : LabAt w g v p e) (n : Nat) : LabAt (w.drewN n) g v p e := h

end Go.Proofs.Ytclkkhpnnbkfmaa
