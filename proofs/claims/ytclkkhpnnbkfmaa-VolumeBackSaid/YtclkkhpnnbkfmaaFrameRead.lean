/- frame.Read. -/
import Derived.Test.YtclkkhpnnbkfmaaRecK
import Derived.Test.YtclkkhpnnbkfmaaVolumeBackPartQ
import Derived.Test.YtclkkhpnnbkfmaaVolumeBackPartT
import Derived.Test.YtclkkhpnnbkfmaaRegionLast
import Derived.Laws.ResultCell
namespace Go.Proofs.Ytclkkhpnnbkfmaa
open Go.RowKit

set_option maxRecDepth 100000

/-- readF, from the place on. -/
theorem readF_mid {l l' : List Byte} {p : Nat} (hl : l' = l.drop p) (hp : p ≤ l.length) (h13 : 13 ≤ l'.length) : readF l (p : Int) =
    (if recE ((l'.getD 0 0#8).toNat : Int) ((numOf ((l'.drop 1).take 4) : Nat) : Int) 0 ≠ 0 ∨ 8000 < numOf ((l'.drop 5).take 4) ∨ l'.length < 13 + numOf ((l'.drop 5).take 4) then (Rec.zero, 0, 3)
     else if crcBytesOf (crc (l'.take 9 ++ (l'.drop 13).take (numOf ((l'.drop 5).take 4)))) = (l'.drop 9).take 4 then
       (⟨((l'.getD 0 0#8).toNat : Int), ((numOf ((l'.drop 1).take 4) : Nat) : Int), (l'.drop 13).take (numOf ((l'.drop 5).take 4))⟩, ((p + 13 + numOf ((l'.drop 5).take 4) : Nat) : Int), 0)
     else (Rec.zero, 0, 4)) := by
  have hlen : l'.length = l.length - p := by rw [hl]; simp
  have e0 : ((p : Int)).toNat = p := by simp
  have hd : ∀ k, l.drop (p + k) = l'.drop k := by intro k; rw [hl, List.drop_drop]
  have hg : l.getD p 0#8 = l'.getD 0 0#8 := by rw [hl]; simp [List.getD_eq_getElem?_getD]
  unfold readF
  rw [e0, if_neg (by omega), if_neg (by omega), hd 1, hd 5, hd 9, hd 13, hg, ← hl]
  congr 1
  simp only [eq_iff_iff]
  constructor
  · rintro (h | h | h)
    · exact .inl h
    · exact .inr (.inl h)
    · exact .inr (.inr (by omega))
  · rintro (h | h | h)
    · exact .inl h
    · exact .inr (.inl h)
    · exact .inr (.inr (by omega))

theorem results_cell3 {P : Program} {fn : Func} {p u v : Tmp} {ty : TypeId} (h : fn.results = #[.cell p ty, .tmp u, .tmp v]) (tmps : Array Value) (w : World) (g : Nat) (t : TypeId) (cs : Array Value) (fr : Nat × Nat) (d : TypeDesc)
    (hp : tmps.getD p undef = .pointer (some ⟨g, 0, none⟩)) (hg : w.heap[g]? = some (.cells cs t fr))
    (hu : P.underlying ty = some d) (hd : (match d with | .struct _ | .array _ _ => true | _ => false) = true) (hi : (P.info? ty).map (·.size) = some cs.size) :
    (results fn tmps).run P w = .ok (.tuple #[.agg cs, tmps.getD u undef, tmps.getD v undef]) w := by
  have hp' : tmps[p]?.getD undef = .pointer (some ⟨g, 0, none⟩) := by simpa using hp
  simp [results, h, hp', asAddr, run_loadVar_row w g t ty cs fr d hg hu hd hi, Sem.run_bind, Result.andThen]
theorem heap_own3 {w w' : World} {B g : Nat} {o : Obj} (hb : Below B w w') (hg : w.heap[g]? = some o) (hlt : g < B) : w'.heap[g]? = some o := (hb.block g hlt).trans hg

/-- What is owned stays as it is while a block of another type is written. -/
theorem own_store {w w' : World} {B : Nat} {e : TypeId} {k : Nat} {a : Option Addr} {n c : Nat} {xs : List Value} (h : Own w B e k a n c xs) {g : Nat} {cs : Array Value} {T : TypeId} {m : Nat × Nat} (hg : w.heap[g]? = some (.cells cs T m)) (hT : T ≠ e)
    (hw : ∀ b, b ≠ g → w'.heap[b]? = w.heap[b]?) : Own w' B e k a n c xs := by
  obtain ⟨hl, h0 | ⟨g', cur, ha, hb', hh, rest⟩⟩ := h
  · exact ⟨hl, Or.inl h0⟩
  · refine ⟨hl, Or.inr ⟨g', cur, ha, hb', ?_, rest⟩⟩
    rw [hw g' ?_]
    · exact hh
    · rintro rfl
      rw [hg] at hh
      simp at hh
      exact hT hh.2.1

/-- What Read returns: the record, its end, the error. -/
def ReadOut (w : World) (r : Rec) (nx E : Int) (e : Ending) (w' : World) : Prop :=
  ∃ a' c', e = .returned (.tuple #[.agg #[.int .i64 r.kind, .int .i64 r.seq, .slice a' r.d.length c'], .int .i64 nx, .int .i64 E]) ∧ Own w' w.heap.size 5 1 a' r.d.length c' (bvs r.d) ∧ Below w.heap.size w w'

theorem frread_arg (a : Option Addr) (L c : Nat) (A : Int) (w : World) (h : A < 0 ∨ (L : Int) < A) :
    Calls Try.prog 117 #[.slice a L c, .int .i64 A] w (ReadOut w Rec.zero 0 1) := by
  have hg0 := heap_alloc_new w (.cells #[.int .i64 0, .int .i64 0, .slice none 0 0] 54)
  rcases (show A < 0 ∨ (0 ≤ A ∧ (L : Int) < A) by omega) with h | ⟨h, h2⟩
  all_goals
    go_enter Try.func117, Try.ntmps117
    go_wp2_with (refine wpList_store_row rfl rfl 54 (.tmp 4) (.tmp 22) rfl w.heap.size rfl 54 #[.int .i64 0, .int .i64 0, .slice none 0 0] #[.int .i64 0, .int .i64 0, .slice none 0 0] rfl hg0 rfl (by kernel_rfl) (by simp [Value.oneCell']) ?_)
    exact bodyPost_ret (results_cell3 (p := 4) (u := 5) (v := 6) rfl _ _ w.heap.size _ #[.int .i64 0, .int .i64 0, .slice none 0 0] _ _ rfl (setRow_heap _ w.heap.size _ _ _ _ hg0) Try.underlying54 rfl (by kernel_rfl)) rfl
      ⟨none, 0, rfl, Own.nil _ _ _ _ _, bsetRow (ext_alloc w _) (Nat.le_refl _) _⟩

set_option maxHeartbeats 1000000 in
theorem frread_few (L c p : Nat) (w : World) (hp : p ≤ L) (hc : L ≤ c) (h : L < p + 13) (hL : L ≤ 4611686018427387904) (a : Option Addr) :
    Calls Try.prog 117 #[.slice a L c, .int .i64 (p : Int)] w (ReadOut w Rec.zero 0 3) := by
  have hg0 := heap_alloc_new w (.cells #[.int .i64 0, .int .i64 0, .slice none 0 0] 54)
  go_enter Try.func117, Try.ntmps117
  go_wp2_with (refine wpList_store_row rfl rfl 54 (.tmp 4) (.tmp 29) rfl w.heap.size rfl 54 #[.int .i64 0, .int .i64 0, .slice none 0 0] #[.int .i64 0, .int .i64 0, .slice none 0 0] rfl hg0 rfl (by kernel_rfl) (by simp [Value.oneCell']) ?_)
  all_goals
    exact bodyPost_ret (results_cell3 (p := 4) (u := 5) (v := 6) rfl _ _ w.heap.size _ #[.int .i64 0, .int .i64 0, .slice none 0 0] _ _ rfl (setRow_heap _ w.heap.size _ _ _ _ hg0) Try.underlying54 rfl (by kernel_rfl)) rfl
      ⟨none, 0, rfl, Own.nil _ _ _ _ _, bsetRow (ext_alloc w _) (Nat.le_refl _) _⟩

set_option maxHeartbeats 4000000 in
theorem frread_mid (b o L c p : Nat) (l l' : List Byte) (x : Byte) (S N : Nat) (w : World) (hs : Src w (some ⟨b, o, none⟩) (bvs l)) (hL : L = l.length) (hl' : l' = l.drop p) (hp : p + 13 ≤ L) (hc : L ≤ c) (hLm : L ≤ 4611686018427387904)
    (hx : l'.getD 0 0#8 = x) (hS : numOf ((l'.drop 1).take 4) = S) (hN : numOf ((l'.drop 5).take 4) = N) (r : Rec) (nx E : Int)
    (hR : (if recE (x.toNat : Int) (S : Int) 0 ≠ 0 ∨ 8000 < N ∨ l'.length < 13 + N then (Rec.zero, 0, 3)
     else if crcBytesOf (crc (l'.take 9 ++ (l'.drop 13).take N)) = (l'.drop 9).take 4 then (⟨(x.toNat : Int), (S : Int), (l'.drop 13).take N⟩, ((p + 13 + N : Nat) : Int), 0)
     else (Rec.zero, 0, 4)) = (r, nx, E)) :
    Calls Try.prog 117 #[.slice (some ⟨b, o, none⟩) L c, .int .i64 (p : Int)] w (ReadOut w r nx E) := by
  have hl'l : l'.length = L - p := by rw [hl', hL]; simp
  have hs' : Src w (some ⟨b, o + p, none⟩) (bvs l') := by
    have := hs.sub p l.length
    rw [List.take_of_length_le (by simp), ← bvs_drop, ← hl'] at this
    exact this
  obtain ⟨b', o', hbo, hlb, hat⟩ := src_bytes_at hs' (show 0 < l'.length by omega)
  simp only [Option.some.injEq, Addr.mk.injEq, and_true] at hbo
  obtain ⟨rfl, rfl⟩ := hbo
  have hx0 := hat 0 (by omega)
  have hx1 : l'[0]'(by omega) = x := by rw [← hx, List.getD_eq_getElem?_getD, List.getElem?_eq_getElem (by omega)]; rfl
  rw [hx1, Nat.add_zero] at hx0
  have HG1 := Lib.hid fun w' (hb : Below w.heap.size w w') => get_ok (some ⟨b, o + p, none⟩) (c - p) (L - p) l' 1 4 _ _ w' (hs'.ext hb) hl'l.symm rfl rfl (by omega) (by omega) (by omega) (by omega) (by omega)
  have HG2 := Lib.hid fun w' (hb : Below w.heap.size w w') => get_ok (some ⟨b, o + p, none⟩) (c - p) (L - p) l' 5 4 _ _ w' (hs'.ext hb) hl'l.symm rfl rfl (by omega) (by omega) (by omega) (by omega) (by omega)
  rw [hS] at HG1
  rw [hN] at HG2
  have HR := Lib.hid hR
  have Hll := Lib.hid hl'l
  have hcp : ¬ c = p := by omega
  have hg0 := heap_alloc_new w (.cells #[.int .i64 0, .int .i64 0, .slice none 0 0] 54)
  have hb01 := ext_alloc w (.cells #[.int .i64 0, .int .i64 0, .slice none 0 0] 54)
  clear hR hL hl' hx hS hN hl'l hat hx1 hs
  go_enter Try.func117, Try.ntmps117
  go_wp2_with fail
  refine (HG1.out _ hb01).mono ?_
  rintro e w1 ⟨rfl, rfl⟩
  go_wp2_with fail
  refine (HG2.out _ hb01).mono ?_
  rintro e w1 ⟨rfl, rfl⟩
  have hx2 := (World.cell?_of_block (w := w) (a := ⟨b, o + p, none⟩) (hb01.block b hlb)).trans hx0
  have hg3 := setRow_heap _ w.heap.size _ #[.int .i64 (x.toNat : Int), .int .i64 (S : Int), .slice none 0 0] _ _ hg0
  have hb03 := bsetRow hb01 (Nat.le_refl _) #[.int .i64 (x.toNat : Int), .int .i64 (S : Int), .slice none 0 0]
  have hr3 : RecAt _ w.heap.size ⟨(x.toNat : Int), (S : Int), ⟨none, 0, []⟩⟩ := hg3
  obtain ⟨k0, k1, k2⟩ := hr3.cells
  obtain ⟨E', hE'⟩ : ∃ E', recE (x.toNat : Int) (S : Int) 0 = E' := ⟨_, rfl⟩
  have HC := Lib.hid fun w => check06_at ⟨(x.toNat : Int), (S : Int), ⟨none, 0, []⟩⟩ E' w hE'
  unfold RecV.val at HC
  simp only [List.length_nil] at HC
  go_wp2_with (first
    | refine wpList_store_row rfl rfl 54 (.tmp 4) (.tmp 47) rfl w.heap.size rfl 54 #[.int .i64 0, .int .i64 0, .slice none 0 0] #[.int .i64 (x.toNat : Int), .int .i64 (S : Int), .slice none 0 0] rfl hg0 rfl (by kernel_rfl) (by simp [Value.oneCell']) ?_)
  generalize hws : World.setRow _ _ _ = w3 at *
  clear hws hg0 hb01 hx0 hx2 HG1 HG2
  refine (HC.out _).mono ?_
  rintro e w4 ⟨rfl, hb34⟩
  have hl3 := heap_lt hg3
  have hg4 := heap_own3 hb34 hg3 hl3
  have hb04 := bthen hb03 hb34 (Nat.le_refl _)
  clear k0 k1 k2 hr3 hg3 hb03 hb34 HC hl3
  have HE' := Lib.hid hE'
  clear hE'
  by_cases hbad : E' ≠ 0 ∨ 8000 < N ∨ L - p < 13 + N
  · have hV : r = Rec.zero ∧ nx = 0 ∧ E = 3 := by
      have := HR.out
      rw [HE'.out, Hll.out, if_pos hbad] at this
      simp only [Prod.mk.injEq] at this
      exact ⟨this.1.symm, this.2.1.symm, this.2.2.symm⟩
    obtain ⟨rfl, rfl, rfl⟩ := hV
    rcases (show E' ≠ 0 ∨ (E' = 0 ∧ 8000 < N) ∨ (E' = 0 ∧ ¬ 8000 < N ∧ L - p < 13 + N) by omega) with h1 | ⟨rfl, h1⟩ | ⟨rfl, h1, h2⟩
    · have hne : ((E' : Int) != 0) = true := by simpa using h1
      clear hbad h1
      go_wp2_with (refine wpList_store_row rfl rfl 54 (.tmp 4) (.tmp 62) rfl w.heap.size rfl 54 #[.int .i64 (x.toNat : Int), .int .i64 (S : Int), .slice none 0 0] #[.int .i64 0, .int .i64 0, .slice none 0 0] rfl hg4 rfl (by kernel_rfl) (by simp [Value.oneCell']) ?_)
      exact bodyPost_ret (results_cell3 (p := 4) (u := 5) (v := 6) rfl _ _ w.heap.size _ #[.int .i64 0, .int .i64 0, .slice none 0 0] _ _ rfl (setRow_heap _ w.heap.size _ _ _ _ hg4) Try.underlying54 rfl (by kernel_rfl)) rfl
        ⟨none, 0, rfl, Own.nil _ _ _ _ _, bsetRow (hb04) (Nat.le_refl _) _⟩
    · clear hbad
      go_wp2_with (refine wpList_store_row rfl rfl 54 (.tmp 4) (.tmp 62) rfl w.heap.size rfl 54 #[.int .i64 (x.toNat : Int), .int .i64 (S : Int), .slice none 0 0] #[.int .i64 0, .int .i64 0, .slice none 0 0] rfl hg4 rfl (by kernel_rfl) (by simp [Value.oneCell']) ?_)
      exact bodyPost_ret (results_cell3 (p := 4) (u := 5) (v := 6) rfl _ _ w.heap.size _ #[.int .i64 0, .int .i64 0, .slice none 0 0] _ _ rfl (setRow_heap _ w.heap.size _ _ _ _ hg4) Try.underlying54 rfl (by kernel_rfl)) rfl
        ⟨none, 0, rfl, Own.nil _ _ _ _ _, bsetRow (hb04) (Nat.le_refl _) _⟩
    · clear hbad
      go_wp2_with (refine wpList_store_row rfl rfl 54 (.tmp 4) (.tmp 62) rfl w.heap.size rfl 54 #[.int .i64 (x.toNat : Int), .int .i64 (S : Int), .slice none 0 0] #[.int .i64 0, .int .i64 0, .slice none 0 0] rfl hg4 rfl (by kernel_rfl) (by simp [Value.oneCell']) ?_)
      exact bodyPost_ret (results_cell3 (p := 4) (u := 5) (v := 6) rfl _ _ w.heap.size _ #[.int .i64 0, .int .i64 0, .slice none 0 0] _ _ rfl (setRow_heap _ w.heap.size _ _ _ _ hg4) Try.underlying54 rfl (by kernel_rfl)) rfl
        ⟨none, 0, rfl, Own.nil _ _ _ _ _, bsetRow (hb04) (Nat.le_refl _) _⟩
  · obtain ⟨rfl, hN8, hN13⟩ : E' = 0 ∧ N ≤ 8000 ∧ 13 + N ≤ L - p := by omega
    have hR2 := HR.out
    rw [HE'.out, Hll.out, if_neg hbad] at hR2
    have HR2 := Lib.hid hR2
    clear hbad hR2 HR
    have hsd0 : Src w4 (some ⟨b, o + p + 13, none⟩) (bvs ((l'.drop 13).take N)) := by
      have := (hs'.ext hb04).sub 13 N
      rw [← bvs_drop, ← bvs_take] at this
      exact this
    have hddl : ((l'.drop 13).take N).length = N := by simp; have := Hll.out; omega
    have hs9 : Src w4 (some ⟨b, o + p, none⟩) (bvs (l'.take 9)) := by rw [bvs_take]; exact (hs'.ext hb04).take 9
    have hl9 : (l'.take 9).length = 9 := by simp; have := Hll.out; omega
    have hs4 : Src w4 (some ⟨b, o + p + 9, none⟩) (bvs ((l'.drop 9).take 4)) := by
      have := (hs'.ext hb04).sub 9 4
      rw [← bvs_drop, ← bvs_take] at this
      exact this
    have hl4' : ((l'.drop 9).take 4).length = 4 := by simp; have := Hll.out; omega
    generalize (l'.drop 13).take N = dd at *
    generalize l'.take 9 = l9 at *
    generalize (l'.drop 9).take 4 = s4 at *
    have Hdd := Lib.hid hddl
    have Hl9 := Lib.hid hl9
    have Hs4 := Lib.hid hl4'
    clear hddl hl9 hl4'
    by_cases h13 : c - p = 13
    · have hN0 : N = 0 := by omega
      have hdd0 : dd = [] := List.eq_nil_of_length_eq_zero (by rw [Hdd.out]; exact hN0)
      have Hdd0 := Lib.hid hdd0
      have HN0 := Lib.hid hN0
      clear hN0 hdd0
      go_wp2_with fail
      refine (clone_at _ _ N dd w4 (by rw [Hdd0.out]; exact Src.nil _ _) Hdd.out.symm (by omega)).mono ?_
      rintro e w5 ⟨ad, cd, rfl, hod, hb5⟩
      have hl4 := heap_lt hg4
      have hsz4 := hb04.size
      have hg5 := heap_own3 hb5 hg4 hl4
      have hr5 : RecAt w5 w.heap.size ⟨(x.toNat : Int), (S : Int), ⟨none, 0, []⟩⟩ := hg5
      obtain ⟨k0, k1, k2⟩ := hr5.cells
      have hfz := frozen_of_row w5 w.heap.size 2 _ _ hg5
      have hb05 := bthen hb04 hb5 (Nat.le_refl _)
      have hw6 : ∀ b', b' ≠ w.heap.size → (w5.setCell ⟨w.heap.size, 2, none⟩ (.slice ad N cd)).heap[b']? = w5.heap[b']? := fun b' hb' => Below.heap_setCell w5 ⟨w.heap.size, 2, none⟩ _ b' hb'
      have hg6 : (w5.setCell ⟨w.heap.size, 2, none⟩ (.slice ad N cd)).heap[w.heap.size]? = some (.cells #[.int .i64 (x.toNat : Int), .int .i64 (S : Int), .slice ad N cd] 54 (0, 0)) := heap_setCell_same w5 w.heap.size 2 _ _ _ hg5
      have hod6 := own_store hod hg5 (by decide) hw6
      have hsk : ∀ {a' : Option Addr} {xs : List Value}, (∀ b' o', a' = some ⟨b', o', none⟩ → b' = b) → Src w4 a' xs → Src (w5.setCell ⟨w.heap.size, 2, none⟩ (.slice ad N cd)) a' xs := fun he hsx => (hsx.ext hb5).keep fun b' o' ha' _ => hw6 b' (by have := he b' o' ha'; omega)
      have hs96 := hsk (by intro b' o' h; simp only [Option.some.injEq, Addr.mk.injEq] at h; exact h.1.symm) hs9
      have hs46 := hsk (by intro b' o' h; simp only [Option.some.injEq, Addr.mk.injEq] at h; exact h.1.symm) hs4
      have hb06 := hb05.setCell (p := ⟨w.heap.size, 2, none⟩) (Nat.le_refl _) (.slice ad N cd)
      go_wp2_with fail
      generalize hws : World.setCell _ _ _ = w6 at *
      clear hws k0 k1 k2 hr5 hfz hb05 hw6 hsk hs9 hs4 hg5 hg4 hb04 hb5 hl4 hsd0
      have hsd := hod6.src
      have hs9 := hs96
      have hl6 := heap_lt hg6
      obtain ⟨z, hz⟩ : ∃ z, crc (l9 ++ dd) = z := ⟨_, rfl⟩
      have Hz : Hid (crc (flat [(⟨some ⟨b, o + p, none⟩, 13, l9⟩ : Bsl), ⟨ad, cd, dd⟩]) = z) := Lib.hid (by rw [← hz]; simp [flat])
      have HR3 := HR2.out
      rw [hz] at HR3
      have HR4 := Lib.hid HR3
      clear hz HR3 HR2
      refine wp_region_last2 _ _ (by simp only [lastSplit, Option.map_some]; rfl) (by kernel_rfl) [Sp.eq (.slice (some ⟨b, o + p, none⟩) (L - p) 13), Sp.eq (.slice (some ⟨b, o + p, none⟩) 9 13), Sp.eq (.pointer (some ⟨w.heap.size, 2, none⟩)), Sp.eq (.slice ad N cd), ⟨fun w v => ∃ Bx, v = .slice (some ⟨Bx, 0, none⟩) 2 2 ∧ Mat w (some ⟨Bx, 0, none⟩) [⟨some ⟨b, o + p, none⟩, 13, l9⟩, ⟨ad, cd, dd⟩], fun _ _ _ ⟨B, h, hm⟩ hb => ⟨B, h, hm.ext hb⟩⟩, Sp.eq (.agg (bvs (crcBytesOf z)).toArray), ⟨fun w v => ∃ g, v = .pointer (some ⟨g, 0, none⟩) ∧ w6.heap.size ≤ g ∧ w.heap[g]? = some (.cells #[.int .u8 0, .int .u8 0, .int .u8 0, .int .u8 0] 177), fun _ _ _ ⟨g, h, hle, hg⟩ hb => ⟨g, h, hle, (hb.block g (heap_lt hg)).trans hg⟩⟩] (by kernel_rfl) (by kernel_rfl) ?_ ?_
      · refine stepsOk_cons ?_ (stepsOk_cons ?_ (stepsOk_cons ?_ (stepsOk_cons ?_ (stepsOk_cons ?_ (stepsOk_cons ?_ (stepsOk_cons ?_ (stepsOk_nil)))))))
        · intro ρ w' E
          have e0 : ρ (.tmp 0) = .slice (some ⟨b, o + p, none⟩) (L - p) 13 := E.out 0 rfl
          refine step_plain rfl ?_
          exact op_move (.inl rfl) e0 ⟨Below.refl _ _, rfl⟩
        · intro ρ w' E
          have e69 : ρ (.tmp 69) = .slice (some ⟨b, o + p, none⟩) (L - p) 13 := E.pre 0 rfl
          refine step_plain rfl ?_
          refine op_val (v := .slice (some ⟨b, o + p, none⟩) 9 13) (w' := w') ?_ ⟨Below.refl _ _, rfl⟩
          have hcon := E.con
          clear E
          go_simp
        · intro ρ w' E
          have e4 : ρ (.tmp 4) = .pointer (some ⟨w.heap.size, 0, none⟩) := E.out 4 rfl
          refine step_plain rfl ?_
          refine op_val (v := .pointer (some ⟨w.heap.size, 2, none⟩)) (w' := w') ?_ ⟨Below.refl _ _, rfl⟩
          have hcon := E.con
          clear E
          go_simp
        · intro ρ w' E
          have e71 : ρ (.tmp 71) = .pointer (some ⟨w.heap.size, 2, none⟩) := E.pre 2 rfl
          refine step_plain rfl ?_
          refine op_val (v := .slice ad N cd) (w' := w') ?_ ⟨Below.refl _ _, rfl⟩
          have hg : w'.heap[w.heap.size]? = _ := heap_own3 E.below hg6 hl6
          have hk : w'.cell? ⟨w.heap.size, 2, none⟩ = some (.slice ad N cd) := cell_of_row w' w.heap.size 2 _ _ _ hg
          have hcon := E.con
          clear E hg
          go_simp
        · intro ρ w' E
          have e70 : ρ (.tmp 70) = .slice (some ⟨b, o + p, none⟩) 9 13 := E.pre 1 rfl
          have e72 : ρ (.tmp 72) = .slice ad N cd := E.pre 3 rfl
          refine step_plain rfl ?_
          refine op_val (v := .slice (some ⟨w'.heap.size, 0, none⟩) 2 2) (w' := w'.alloc (.cells #[.slice (some ⟨b, o + p, none⟩) 9 13, .slice ad N cd] 50)) (by have hcon := E.con; clear E; go_simp; try rfl) ⟨ext_alloc _ _, _, rfl, mat_new' rfl (by simp [Bsl.val, Hl9.out, Hdd.out]) ?_⟩
          intro q hq
          simp only [List.mem_cons, List.not_mem_nil, or_false] at hq
          rcases hq with rfl | rfl
          · exact ⟨hs9.ext E.below, by show l9.length ≤ _; rw [Hl9.out]; omega⟩
          · exact ⟨hsd.ext E.below, by show dd.length ≤ _; rw [Hdd.out]; omega⟩
        · intro ρ w' E
          have p73 : (fun w v => ∃ Bx, v = .slice (some ⟨Bx, 0, none⟩) 2 2 ∧ Mat w (some ⟨Bx, 0, none⟩) [⟨some ⟨b, o + p, none⟩, 13, l9⟩, ⟨ad, cd, dd⟩]) w' (ρ (.tmp 73)) := E.pre 4 rfl
          refine step_plain rfl ?_
          refine op_call (f := 114) (args := #[ρ (.tmp 73)]) (w' := w') (by have hcon := E.con; have hfn := E.fn; clear E; go_simp) ?_
          obtain ⟨B', e1, hmat⟩ := p73
          rw [e1]
          refine (crcbytes_at _ _ _ _ 2 z hmat rfl (by omega) Hz.out).mono ?_
          rintro e w2 ⟨rfl, hb⟩
          exact ⟨_, rfl, hb, rfl⟩
        · intro ρ w' E
          refine step_plain rfl ?_
          refine op_val (v := .pointer (some ⟨w'.heap.size, 0, none⟩)) (w' := w'.alloc (.cells #[.int .u8 0, .int .u8 0, .int .u8 0, .int .u8 0] 177)) (by have hcon := E.con; clear E; go_simp; try rfl) ⟨ext_alloc _ _, _, rfl, E.below.size, heap_alloc_new _ _⟩
      · intro σ w7 hb67 hall
        obtain ⟨_, _, _, _, _, h74, ⟨g13, hp13, hg13, hgg⟩, _⟩ := hall
        have h74 : σ 74 = .agg (bvs (crcBytesOf z)).toArray := h74
        have hp13 : σ 13 = .pointer (some ⟨g13, 0, none⟩) := hp13
        simp only [upd, updL, dstsOf', elemB, List.filterMap_cons, List.filterMap_nil, Nat.reduceAdd, Nat.reduceBEq, Bool.or_false, Bool.false_or, Bool.or_true, Bool.true_or, cond_true, cond_false, Nat.zero_add, hp13, h74]
        have hg7 := heap_own3 hb67 hg6 hl6
        have hne : w.heap.size ≠ g13 := by omega
        have hg8 := (setRow_other w7 g13 w.heap.size (bvs (crcBytesOf z)).toArray hne).trans hg7
        have hr8 := setRow_heap w7 g13 _ (bvs (crcBytesOf z)).toArray _ _ hgg
        have hw8 : ∀ b', b' ≠ g13 → (w7.setRow g13 (bvs (crcBytesOf z)).toArray).heap[b']? = w7.heap[b']? := fun b' hb' => setRow_other w7 g13 b' _ hb'
        have hod8 := own_store (hod6.ext hb67) hgg (by decide) hw8
        have hs48 : Src (w7.setRow g13 (bvs (crcBytesOf z)).toArray) (some ⟨b, o + p + 9, none⟩) (bvs s4) := (hs46.ext hb67).keep fun b' o' ha' _ => hw8 b' (by simp only [Option.some.injEq, Addr.mk.injEq] at ha'; omega)
        have hs13 : Src (w7.setRow g13 (bvs (crcBytesOf z)).toArray) (some ⟨g13, 0, none⟩) (bvs (crcBytesOf z)) := Or.inr ⟨_, 0, _, _, _, rfl, hr8, by simp [bvs, crcBytesOf]⟩
        have hb08 := bsetRow (bthen hb06 hb67 (Nat.le_refl _)) (show w.heap.size ≤ g13 by omega) (bvs (crcBytesOf z)).toArray
        go_wp2_with (refine wpList_store_row rfl rfl 177 (.tmp 13) (.tmp 74) rfl g13 rfl 177 #[.int .u8 0, .int .u8 0, .int .u8 0, .int .u8 0] (bvs (crcBytesOf z)).toArray rfl hgg rfl (by kernel_rfl) (by simpa using bvs_one (crcBytesOf z)) ?_)
        generalize hws : World.setRow _ _ _ = w8 at *
        clear hws hw8 hg7 hgg hs46 hs96 hb06 hb67 hg6 hsd hs9 hod hod6 hp13 h74 hr8
        have hl8 := heap_lt hg8
        by_cases hq : crcBytesOf z = s4
        · have hV : r = ⟨(x.toNat : Int), (S : Int), dd⟩ ∧ nx = ((p + 13 + N : Nat) : Int) ∧ E = 0 := by
            have := HR4.out
            rw [if_pos hq] at this
            simp only [Prod.mk.injEq] at this
            exact ⟨this.1.symm, this.2.1.symm, this.2.2.symm⟩
          obtain ⟨rfl, rfl, rfl⟩ := hV
          have Heq : Hid (decide (crcBytesOf z = s4) = true) := Lib.hid (by simp [hq])
          clear hq
          refine wp_region_sp (by kernel_rfl) [Sp.eq (.slice (some ⟨g13, 0, none⟩) 4 4), Sp.eq (.slice (some ⟨b, o + p, none⟩) (L - p) 13), Sp.eq (.slice (some ⟨b, o + p + 9, none⟩) 4 4), Sp.eq (.bool true), Sp.eq (.bool false)] (by kernel_rfl) ?_ ?_
          · refine stepsOk_cons ?_ (stepsOk_cons ?_ (stepsOk_cons ?_ (stepsOk_cons ?_ (stepsOk_cons ?_ (stepsOk_nil)))))
            · intro ρ w' E
              have e13 : ρ (.tmp 13) = .pointer (some ⟨g13, 0, none⟩) := E.out 13 rfl
              refine step_plain rfl ?_
              refine op_val (v := .slice (some ⟨g13, 0, none⟩) 4 4) (w' := w') ?_ ⟨Below.refl _ _, rfl⟩
              have hcon := E.con
              clear E
              go_simp
            · intro ρ w' E
              have e0 : ρ (.tmp 0) = .slice (some ⟨b, o + p, none⟩) (L - p) 13 := E.out 0 rfl
              refine step_plain rfl ?_
              exact op_move (.inl rfl) e0 ⟨Below.refl _ _, rfl⟩
            · intro ρ w' E
              have e76 : ρ (.tmp 76) = .slice (some ⟨b, o + p, none⟩) (L - p) 13 := E.pre 1 rfl
              refine step_plain rfl ?_
              refine op_val (v := .slice (some ⟨b, o + p + 9, none⟩) 4 4) (w' := w') ?_ ⟨Below.refl _ _, rfl⟩
              have hcon := E.con
              clear E
              go_simp
            · intro ρ w' E
              have e75 : ρ (.tmp 75) = .slice (some ⟨g13, 0, none⟩) 4 4 := E.pre 0 rfl
              have e77 : ρ (.tmp 77) = .slice (some ⟨b, o + p + 9, none⟩) 4 4 := E.pre 2 rfl
              refine step_plain rfl ?_
              refine op_call (f := 122) (args := #[.slice (some ⟨g13, 0, none⟩) 4 4, .slice (some ⟨b, o + p + 9, none⟩) 4 4]) (w' := w') (by have hcon := E.con; have hfn := E.fn; clear E; go_simp) ?_
              refine (equal_at _ _ (crcBytesOf z) _ _ s4 w' 4 4 true (hs13.ext E.below) (hs48.ext E.below) rfl Hs4.out.symm (by omega) (by omega) Heq.out).mono ?_
              rintro e w2 ⟨rfl, n, rfl⟩
              exact ⟨_, rfl, ext_drewN _ _ _, rfl⟩
            · intro ρ w' E
              have e78 : ρ (.tmp 78) = .bool true := E.pre 3 rfl
              refine step_plain rfl ?_
              refine op_val (v := .bool false) (w' := w') ?_ ⟨Below.refl _ _, rfl⟩
              have hcon := E.con
              clear E
              go_simp
          · intro σ2 w9 hb89 hall
            have h79 : σ2 79 = .bool false := by obtain ⟨_, _, _, _, h, _⟩ := hall; exact h
            clear hall
            simp only [upd, updL, dstsOf', elemB, List.filterMap_cons, List.filterMap_nil, Nat.reduceAdd, Nat.reduceBEq, Bool.or_false, Bool.false_or, Bool.or_true, Bool.true_or, cond_true, cond_false, Nat.zero_add, h79]
            have hg9 := heap_own3 hb89 hg8 hl8
            have hod9 := hod8.ext hb89
            have hb09 := bthen hb08 hb89 (Nat.le_refl _)
            have hdl := Hdd.out
            go_wp2_with (first
              | refine wpList_load_row rfl 54 (.tmp 4) rfl w.heap.size rfl 54 #[.int .i64 (x.toNat : Int), .int .i64 (S : Int), .slice ad N cd] (0, 0) _ hg9 Try.underlying54 rfl (by kernel_rfl) ?_
              | refine wpList_store_row rfl rfl 54 (.tmp 4) (.tmp 81) rfl w.heap.size rfl 54 #[.int .i64 (x.toNat : Int), .int .i64 (S : Int), .slice ad N cd] #[.int .i64 (x.toNat : Int), .int .i64 (S : Int), .slice ad N cd] rfl hg9 rfl (by kernel_rfl) (by simp [Value.oneCell']) ?_)
            refine bodyPost_ret (results_cell3 (p := 4) (u := 5) (v := 6) rfl _ _ w.heap.size _ #[.int .i64 (x.toNat : Int), .int .i64 (S : Int), .slice ad N cd] _ _ rfl (setRow_heap _ w.heap.size _ _ _ _ hg9) Try.underlying54 rfl (by kernel_rfl)) rfl
              ⟨ad, cd, ?_, ?_, bsetRow hb09 (Nat.le_refl _) _⟩
            · rw [show (((p : Int) + 13 + (N : Int))) = ((p + 13 + N : Nat) : Int) by omega]
              simp only [hdl]
              rfl
            · have hod10 := own_store hod9 hg9 (by decide) (w' := w9.setRow w.heap.size #[.int .i64 (x.toNat : Int), .int .i64 (S : Int), .slice ad N cd]) (fun b' hb' => setRow_other w9 w.heap.size b' _ hb')
              simp only [hdl]
              exact hod10.mono (by omega)
        · have hV : r = Rec.zero ∧ nx = 0 ∧ E = 4 := by
            have := HR4.out
            rw [if_neg hq] at this
            simp only [Prod.mk.injEq] at this
            exact ⟨this.1.symm, this.2.1.symm, this.2.2.symm⟩
          obtain ⟨rfl, rfl, rfl⟩ := hV
          have Heq : Hid (decide (crcBytesOf z = s4) = false) := Lib.hid (by simp [hq])
          clear hq
          refine wp_region_sp (by kernel_rfl) [Sp.eq (.slice (some ⟨g13, 0, none⟩) 4 4), Sp.eq (.slice (some ⟨b, o + p, none⟩) (L - p) 13), Sp.eq (.slice (some ⟨b, o + p + 9, none⟩) 4 4), Sp.eq (.bool false), Sp.eq (.bool true)] (by kernel_rfl) ?_ ?_
          · refine stepsOk_cons ?_ (stepsOk_cons ?_ (stepsOk_cons ?_ (stepsOk_cons ?_ (stepsOk_cons ?_ (stepsOk_nil)))))
            · intro ρ w' E
              have e13 : ρ (.tmp 13) = .pointer (some ⟨g13, 0, none⟩) := E.out 13 rfl
              refine step_plain rfl ?_
              refine op_val (v := .slice (some ⟨g13, 0, none⟩) 4 4) (w' := w') ?_ ⟨Below.refl _ _, rfl⟩
              have hcon := E.con
              clear E
              go_simp
            · intro ρ w' E
              have e0 : ρ (.tmp 0) = .slice (some ⟨b, o + p, none⟩) (L - p) 13 := E.out 0 rfl
              refine step_plain rfl ?_
              exact op_move (.inl rfl) e0 ⟨Below.refl _ _, rfl⟩
            · intro ρ w' E
              have e76 : ρ (.tmp 76) = .slice (some ⟨b, o + p, none⟩) (L - p) 13 := E.pre 1 rfl
              refine step_plain rfl ?_
              refine op_val (v := .slice (some ⟨b, o + p + 9, none⟩) 4 4) (w' := w') ?_ ⟨Below.refl _ _, rfl⟩
              have hcon := E.con
              clear E
              go_simp
            · intro ρ w' E
              have e75 : ρ (.tmp 75) = .slice (some ⟨g13, 0, none⟩) 4 4 := E.pre 0 rfl
              have e77 : ρ (.tmp 77) = .slice (some ⟨b, o + p + 9, none⟩) 4 4 := E.pre 2 rfl
              refine step_plain rfl ?_
              refine op_call (f := 122) (args := #[.slice (some ⟨g13, 0, none⟩) 4 4, .slice (some ⟨b, o + p + 9, none⟩) 4 4]) (w' := w') (by have hcon := E.con; have hfn := E.fn; clear E; go_simp) ?_
              refine (equal_at _ _ (crcBytesOf z) _ _ s4 w' 4 4 false (hs13.ext E.below) (hs48.ext E.below) rfl Hs4.out.symm (by omega) (by omega) Heq.out).mono ?_
              rintro e w2 ⟨rfl, n, rfl⟩
              exact ⟨_, rfl, ext_drewN _ _ _, rfl⟩
            · intro ρ w' E
              have e78 : ρ (.tmp 78) = .bool false := E.pre 3 rfl
              refine step_plain rfl ?_
              refine op_val (v := .bool true) (w' := w') ?_ ⟨Below.refl _ _, rfl⟩
              have hcon := E.con
              clear E
              go_simp
          · intro σ2 w9 hb89 hall
            have h79 : σ2 79 = .bool true := by obtain ⟨_, _, _, _, h, _⟩ := hall; exact h
            clear hall
            simp only [upd, updL, dstsOf', elemB, List.filterMap_cons, List.filterMap_nil, Nat.reduceAdd, Nat.reduceBEq, Bool.or_false, Bool.false_or, Bool.or_true, Bool.true_or, cond_true, cond_false, Nat.zero_add, h79]
            have hg9 := heap_own3 hb89 hg8 hl8
            have hb09 := bthen hb08 hb89 (Nat.le_refl _)
            go_wp2_with (refine wpList_store_row rfl rfl 54 (.tmp 4) (.tmp 80) rfl w.heap.size rfl 54 #[.int .i64 (x.toNat : Int), .int .i64 (S : Int), .slice ad N cd] #[.int .i64 0, .int .i64 0, .slice none 0 0] rfl hg9 rfl (by kernel_rfl) (by simp [Value.oneCell']) ?_)
            exact bodyPost_ret (results_cell3 (p := 4) (u := 5) (v := 6) rfl _ _ w.heap.size _ #[.int .i64 0, .int .i64 0, .slice none 0 0] _ _ rfl (setRow_heap _ w.heap.size _ _ _ _ hg9) Try.underlying54 rfl (by kernel_rfl)) rfl
              ⟨none, 0, rfl, Own.nil _ _ _ _ _, bsetRow hb09 (Nat.le_refl _) _⟩
    · go_wp2_with fail
      refine (clone_at _ _ N dd w4 hsd0 Hdd.out.symm (by omega)).mono ?_
      rintro e w5 ⟨ad, cd, rfl, hod, hb5⟩
      have hl4 := heap_lt hg4
      have hsz4 := hb04.size
      have hg5 := heap_own3 hb5 hg4 hl4
      have hr5 : RecAt w5 w.heap.size ⟨(x.toNat : Int), (S : Int), ⟨none, 0, []⟩⟩ := hg5
      obtain ⟨k0, k1, k2⟩ := hr5.cells
      have hfz := frozen_of_row w5 w.heap.size 2 _ _ hg5
      have hb05 := bthen hb04 hb5 (Nat.le_refl _)
      have hw6 : ∀ b', b' ≠ w.heap.size → (w5.setCell ⟨w.heap.size, 2, none⟩ (.slice ad N cd)).heap[b']? = w5.heap[b']? := fun b' hb' => Below.heap_setCell w5 ⟨w.heap.size, 2, none⟩ _ b' hb'
      have hg6 : (w5.setCell ⟨w.heap.size, 2, none⟩ (.slice ad N cd)).heap[w.heap.size]? = some (.cells #[.int .i64 (x.toNat : Int), .int .i64 (S : Int), .slice ad N cd] 54 (0, 0)) := heap_setCell_same w5 w.heap.size 2 _ _ _ hg5
      have hod6 := own_store hod hg5 (by decide) hw6
      have hsk : ∀ {a' : Option Addr} {xs : List Value}, (∀ b' o', a' = some ⟨b', o', none⟩ → b' = b) → Src w4 a' xs → Src (w5.setCell ⟨w.heap.size, 2, none⟩ (.slice ad N cd)) a' xs := fun he hsx => (hsx.ext hb5).keep fun b' o' ha' _ => hw6 b' (by have := he b' o' ha'; omega)
      have hs96 := hsk (by intro b' o' h; simp only [Option.some.injEq, Addr.mk.injEq] at h; exact h.1.symm) hs9
      have hs46 := hsk (by intro b' o' h; simp only [Option.some.injEq, Addr.mk.injEq] at h; exact h.1.symm) hs4
      have hb06 := hb05.setCell (p := ⟨w.heap.size, 2, none⟩) (Nat.le_refl _) (.slice ad N cd)
      go_wp2_with fail
      generalize hws : World.setCell _ _ _ = w6 at *
      clear hws k0 k1 k2 hr5 hfz hb05 hw6 hsk hs9 hs4 hg5 hg4 hb04 hb5 hl4 hsd0
      have hsd := hod6.src
      have hs9 := hs96
      have hl6 := heap_lt hg6
      obtain ⟨z, hz⟩ : ∃ z, crc (l9 ++ dd) = z := ⟨_, rfl⟩
      have Hz : Hid (crc (flat [(⟨some ⟨b, o + p, none⟩, (c - p), l9⟩ : Bsl), ⟨ad, cd, dd⟩]) = z) := Lib.hid (by rw [← hz]; simp [flat])
      have HR3 := HR2.out
      rw [hz] at HR3
      have HR4 := Lib.hid HR3
      clear hz HR3 HR2
      refine wp_region_last2 _ _ (by simp only [lastSplit, Option.map_some]; rfl) (by kernel_rfl) [Sp.eq (.slice (some ⟨b, o + p, none⟩) (L - p) (c - p)), Sp.eq (.slice (some ⟨b, o + p, none⟩) 9 (c - p)), Sp.eq (.pointer (some ⟨w.heap.size, 2, none⟩)), Sp.eq (.slice ad N cd), ⟨fun w v => ∃ Bx, v = .slice (some ⟨Bx, 0, none⟩) 2 2 ∧ Mat w (some ⟨Bx, 0, none⟩) [⟨some ⟨b, o + p, none⟩, (c - p), l9⟩, ⟨ad, cd, dd⟩], fun _ _ _ ⟨B, h, hm⟩ hb => ⟨B, h, hm.ext hb⟩⟩, Sp.eq (.agg (bvs (crcBytesOf z)).toArray), ⟨fun w v => ∃ g, v = .pointer (some ⟨g, 0, none⟩) ∧ w6.heap.size ≤ g ∧ w.heap[g]? = some (.cells #[.int .u8 0, .int .u8 0, .int .u8 0, .int .u8 0] 177), fun _ _ _ ⟨g, h, hle, hg⟩ hb => ⟨g, h, hle, (hb.block g (heap_lt hg)).trans hg⟩⟩] (by kernel_rfl) (by kernel_rfl) ?_ ?_
      · refine stepsOk_cons ?_ (stepsOk_cons ?_ (stepsOk_cons ?_ (stepsOk_cons ?_ (stepsOk_cons ?_ (stepsOk_cons ?_ (stepsOk_cons ?_ (stepsOk_nil)))))))
        · intro ρ w' E
          have e0 : ρ (.tmp 0) = .slice (some ⟨b, o + p, none⟩) (L - p) (c - p) := E.out 0 rfl
          refine step_plain rfl ?_
          exact op_move (.inl rfl) e0 ⟨Below.refl _ _, rfl⟩
        · intro ρ w' E
          have e69 : ρ (.tmp 69) = .slice (some ⟨b, o + p, none⟩) (L - p) (c - p) := E.pre 0 rfl
          refine step_plain rfl ?_
          refine op_val (v := .slice (some ⟨b, o + p, none⟩) 9 (c - p)) (w' := w') ?_ ⟨Below.refl _ _, rfl⟩
          have hcon := E.con
          clear E
          go_simp
          intro hx9
          omega
        · intro ρ w' E
          have e4 : ρ (.tmp 4) = .pointer (some ⟨w.heap.size, 0, none⟩) := E.out 4 rfl
          refine step_plain rfl ?_
          refine op_val (v := .pointer (some ⟨w.heap.size, 2, none⟩)) (w' := w') ?_ ⟨Below.refl _ _, rfl⟩
          have hcon := E.con
          clear E
          go_simp
        · intro ρ w' E
          have e71 : ρ (.tmp 71) = .pointer (some ⟨w.heap.size, 2, none⟩) := E.pre 2 rfl
          refine step_plain rfl ?_
          refine op_val (v := .slice ad N cd) (w' := w') ?_ ⟨Below.refl _ _, rfl⟩
          have hg : w'.heap[w.heap.size]? = _ := heap_own3 E.below hg6 hl6
          have hk : w'.cell? ⟨w.heap.size, 2, none⟩ = some (.slice ad N cd) := cell_of_row w' w.heap.size 2 _ _ _ hg
          have hcon := E.con
          clear E hg
          go_simp
        · intro ρ w' E
          have e70 : ρ (.tmp 70) = .slice (some ⟨b, o + p, none⟩) 9 (c - p) := E.pre 1 rfl
          have e72 : ρ (.tmp 72) = .slice ad N cd := E.pre 3 rfl
          refine step_plain rfl ?_
          refine op_val (v := .slice (some ⟨w'.heap.size, 0, none⟩) 2 2) (w' := w'.alloc (.cells #[.slice (some ⟨b, o + p, none⟩) 9 (c - p), .slice ad N cd] 50)) (by have hcon := E.con; clear E; go_simp; try rfl) ⟨ext_alloc _ _, _, rfl, mat_new' rfl (by simp [Bsl.val, Hl9.out, Hdd.out]) ?_⟩
          intro q hq
          simp only [List.mem_cons, List.not_mem_nil, or_false] at hq
          rcases hq with rfl | rfl
          · exact ⟨hs9.ext E.below, by show l9.length ≤ _; rw [Hl9.out]; omega⟩
          · exact ⟨hsd.ext E.below, by show dd.length ≤ _; rw [Hdd.out]; omega⟩
        · intro ρ w' E
          have p73 : (fun w v => ∃ Bx, v = .slice (some ⟨Bx, 0, none⟩) 2 2 ∧ Mat w (some ⟨Bx, 0, none⟩) [⟨some ⟨b, o + p, none⟩, (c - p), l9⟩, ⟨ad, cd, dd⟩]) w' (ρ (.tmp 73)) := E.pre 4 rfl
          refine step_plain rfl ?_
          refine op_call (f := 114) (args := #[ρ (.tmp 73)]) (w' := w') (by have hcon := E.con; have hfn := E.fn; clear E; go_simp) ?_
          obtain ⟨B', e1, hmat⟩ := p73
          rw [e1]
          refine (crcbytes_at _ _ _ _ 2 z hmat rfl (by omega) Hz.out).mono ?_
          rintro e w2 ⟨rfl, hb⟩
          exact ⟨_, rfl, hb, rfl⟩
        · intro ρ w' E
          refine step_plain rfl ?_
          refine op_val (v := .pointer (some ⟨w'.heap.size, 0, none⟩)) (w' := w'.alloc (.cells #[.int .u8 0, .int .u8 0, .int .u8 0, .int .u8 0] 177)) (by have hcon := E.con; clear E; go_simp; try rfl) ⟨ext_alloc _ _, _, rfl, E.below.size, heap_alloc_new _ _⟩
      · intro σ w7 hb67 hall
        obtain ⟨_, _, _, _, _, h74, ⟨g13, hp13, hg13, hgg⟩, _⟩ := hall
        have h74 : σ 74 = .agg (bvs (crcBytesOf z)).toArray := h74
        have hp13 : σ 13 = .pointer (some ⟨g13, 0, none⟩) := hp13
        simp only [upd, updL, dstsOf', elemB, List.filterMap_cons, List.filterMap_nil, Nat.reduceAdd, Nat.reduceBEq, Bool.or_false, Bool.false_or, Bool.or_true, Bool.true_or, cond_true, cond_false, Nat.zero_add, hp13, h74]
        have hg7 := heap_own3 hb67 hg6 hl6
        have hne : w.heap.size ≠ g13 := by omega
        have hg8 := (setRow_other w7 g13 w.heap.size (bvs (crcBytesOf z)).toArray hne).trans hg7
        have hr8 := setRow_heap w7 g13 _ (bvs (crcBytesOf z)).toArray _ _ hgg
        have hw8 : ∀ b', b' ≠ g13 → (w7.setRow g13 (bvs (crcBytesOf z)).toArray).heap[b']? = w7.heap[b']? := fun b' hb' => setRow_other w7 g13 b' _ hb'
        have hod8 := own_store (hod6.ext hb67) hgg (by decide) hw8
        have hs48 : Src (w7.setRow g13 (bvs (crcBytesOf z)).toArray) (some ⟨b, o + p + 9, none⟩) (bvs s4) := (hs46.ext hb67).keep fun b' o' ha' _ => hw8 b' (by simp only [Option.some.injEq, Addr.mk.injEq] at ha'; omega)
        have hs13 : Src (w7.setRow g13 (bvs (crcBytesOf z)).toArray) (some ⟨g13, 0, none⟩) (bvs (crcBytesOf z)) := Or.inr ⟨_, 0, _, _, _, rfl, hr8, by simp [bvs, crcBytesOf]⟩
        have hb08 := bsetRow (bthen hb06 hb67 (Nat.le_refl _)) (show w.heap.size ≤ g13 by omega) (bvs (crcBytesOf z)).toArray
        go_wp2_with (refine wpList_store_row rfl rfl 177 (.tmp 13) (.tmp 74) rfl g13 rfl 177 #[.int .u8 0, .int .u8 0, .int .u8 0, .int .u8 0] (bvs (crcBytesOf z)).toArray rfl hgg rfl (by kernel_rfl) (by simpa using bvs_one (crcBytesOf z)) ?_)
        generalize hws : World.setRow _ _ _ = w8 at *
        clear hws hw8 hg7 hgg hs46 hs96 hb06 hb67 hg6 hsd hs9 hod hod6 hp13 h74 hr8
        have hl8 := heap_lt hg8
        by_cases hq : crcBytesOf z = s4
        · have hV : r = ⟨(x.toNat : Int), (S : Int), dd⟩ ∧ nx = ((p + 13 + N : Nat) : Int) ∧ E = 0 := by
            have := HR4.out
            rw [if_pos hq] at this
            simp only [Prod.mk.injEq] at this
            exact ⟨this.1.symm, this.2.1.symm, this.2.2.symm⟩
          obtain ⟨rfl, rfl, rfl⟩ := hV
          have Heq : Hid (decide (crcBytesOf z = s4) = true) := Lib.hid (by simp [hq])
          clear hq
          refine wp_region_sp (by kernel_rfl) [Sp.eq (.slice (some ⟨g13, 0, none⟩) 4 4), Sp.eq (.slice (some ⟨b, o + p, none⟩) (L - p) (c - p)), Sp.eq (.slice (some ⟨b, o + p + 9, none⟩) 4 ((c - p) - 9)), Sp.eq (.bool true), Sp.eq (.bool false)] (by kernel_rfl) ?_ ?_
          · refine stepsOk_cons ?_ (stepsOk_cons ?_ (stepsOk_cons ?_ (stepsOk_cons ?_ (stepsOk_cons ?_ (stepsOk_nil)))))
            · intro ρ w' E
              have e13 : ρ (.tmp 13) = .pointer (some ⟨g13, 0, none⟩) := E.out 13 rfl
              refine step_plain rfl ?_
              refine op_val (v := .slice (some ⟨g13, 0, none⟩) 4 4) (w' := w') ?_ ⟨Below.refl _ _, rfl⟩
              have hcon := E.con
              clear E
              go_simp
            · intro ρ w' E
              have e0 : ρ (.tmp 0) = .slice (some ⟨b, o + p, none⟩) (L - p) (c - p) := E.out 0 rfl
              refine step_plain rfl ?_
              exact op_move (.inl rfl) e0 ⟨Below.refl _ _, rfl⟩
            · intro ρ w' E
              have e76 : ρ (.tmp 76) = .slice (some ⟨b, o + p, none⟩) (L - p) (c - p) := E.pre 1 rfl
              refine step_plain rfl ?_
              refine op_val (v := .slice (some ⟨b, o + p + 9, none⟩) 4 ((c - p) - 9)) (w' := w') ?_ ⟨Below.refl _ _, rfl⟩
              have hcon := E.con
              clear E
              go_simp
              rw [if_pos (by omega), if_neg (by omega)]
            · intro ρ w' E
              have e75 : ρ (.tmp 75) = .slice (some ⟨g13, 0, none⟩) 4 4 := E.pre 0 rfl
              have e77 : ρ (.tmp 77) = .slice (some ⟨b, o + p + 9, none⟩) 4 ((c - p) - 9) := E.pre 2 rfl
              refine step_plain rfl ?_
              refine op_call (f := 122) (args := #[.slice (some ⟨g13, 0, none⟩) 4 4, .slice (some ⟨b, o + p + 9, none⟩) 4 ((c - p) - 9)]) (w' := w') (by have hcon := E.con; have hfn := E.fn; clear E; go_simp) ?_
              refine (equal_at _ _ (crcBytesOf z) _ _ s4 w' 4 4 true (hs13.ext E.below) (hs48.ext E.below) rfl Hs4.out.symm (by omega) (by omega) Heq.out).mono ?_
              rintro e w2 ⟨rfl, n, rfl⟩
              exact ⟨_, rfl, ext_drewN _ _ _, rfl⟩
            · intro ρ w' E
              have e78 : ρ (.tmp 78) = .bool true := E.pre 3 rfl
              refine step_plain rfl ?_
              refine op_val (v := .bool false) (w' := w') ?_ ⟨Below.refl _ _, rfl⟩
              have hcon := E.con
              clear E
              go_simp
          · intro σ2 w9 hb89 hall
            have h79 : σ2 79 = .bool false := by obtain ⟨_, _, _, _, h, _⟩ := hall; exact h
            clear hall
            simp only [upd, updL, dstsOf', elemB, List.filterMap_cons, List.filterMap_nil, Nat.reduceAdd, Nat.reduceBEq, Bool.or_false, Bool.false_or, Bool.or_true, Bool.true_or, cond_true, cond_false, Nat.zero_add, h79]
            have hg9 := heap_own3 hb89 hg8 hl8
            have hod9 := hod8.ext hb89
            have hb09 := bthen hb08 hb89 (Nat.le_refl _)
            have hdl := Hdd.out
            go_wp2_with (first
              | refine wpList_load_row rfl 54 (.tmp 4) rfl w.heap.size rfl 54 #[.int .i64 (x.toNat : Int), .int .i64 (S : Int), .slice ad N cd] (0, 0) _ hg9 Try.underlying54 rfl (by kernel_rfl) ?_
              | refine wpList_store_row rfl rfl 54 (.tmp 4) (.tmp 81) rfl w.heap.size rfl 54 #[.int .i64 (x.toNat : Int), .int .i64 (S : Int), .slice ad N cd] #[.int .i64 (x.toNat : Int), .int .i64 (S : Int), .slice ad N cd] rfl hg9 rfl (by kernel_rfl) (by simp [Value.oneCell']) ?_)
            refine bodyPost_ret (results_cell3 (p := 4) (u := 5) (v := 6) rfl _ _ w.heap.size _ #[.int .i64 (x.toNat : Int), .int .i64 (S : Int), .slice ad N cd] _ _ rfl (setRow_heap _ w.heap.size _ _ _ _ hg9) Try.underlying54 rfl (by kernel_rfl)) rfl
              ⟨ad, cd, ?_, ?_, bsetRow hb09 (Nat.le_refl _) _⟩
            · rw [show (((p : Int) + 13 + (N : Int))) = ((p + 13 + N : Nat) : Int) by omega]
              simp only [hdl]
              rfl
            · have hod10 := own_store hod9 hg9 (by decide) (w' := w9.setRow w.heap.size #[.int .i64 (x.toNat : Int), .int .i64 (S : Int), .slice ad N cd]) (fun b' hb' => setRow_other w9 w.heap.size b' _ hb')
              simp only [hdl]
              exact hod10.mono (by omega)
        · have hV : r = Rec.zero ∧ nx = 0 ∧ E = 4 := by
            have := HR4.out
            rw [if_neg hq] at this
            simp only [Prod.mk.injEq] at this
            exact ⟨this.1.symm, this.2.1.symm, this.2.2.symm⟩
          obtain ⟨rfl, rfl, rfl⟩ := hV
          have Heq : Hid (decide (crcBytesOf z = s4) = false) := Lib.hid (by simp [hq])
          clear hq
          refine wp_region_sp (by kernel_rfl) [Sp.eq (.slice (some ⟨g13, 0, none⟩) 4 4), Sp.eq (.slice (some ⟨b, o + p, none⟩) (L - p) (c - p)), Sp.eq (.slice (some ⟨b, o + p + 9, none⟩) 4 ((c - p) - 9)), Sp.eq (.bool false), Sp.eq (.bool true)] (by kernel_rfl) ?_ ?_
          · refine stepsOk_cons ?_ (stepsOk_cons ?_ (stepsOk_cons ?_ (stepsOk_cons ?_ (stepsOk_cons ?_ (stepsOk_nil)))))
            · intro ρ w' E
              have e13 : ρ (.tmp 13) = .pointer (some ⟨g13, 0, none⟩) := E.out 13 rfl
              refine step_plain rfl ?_
              refine op_val (v := .slice (some ⟨g13, 0, none⟩) 4 4) (w' := w') ?_ ⟨Below.refl _ _, rfl⟩
              have hcon := E.con
              clear E
              go_simp
            · intro ρ w' E
              have e0 : ρ (.tmp 0) = .slice (some ⟨b, o + p, none⟩) (L - p) (c - p) := E.out 0 rfl
              refine step_plain rfl ?_
              exact op_move (.inl rfl) e0 ⟨Below.refl _ _, rfl⟩
            · intro ρ w' E
              have e76 : ρ (.tmp 76) = .slice (some ⟨b, o + p, none⟩) (L - p) (c - p) := E.pre 1 rfl
              refine step_plain rfl ?_
              refine op_val (v := .slice (some ⟨b, o + p + 9, none⟩) 4 ((c - p) - 9)) (w' := w') ?_ ⟨Below.refl _ _, rfl⟩
              have hcon := E.con
              clear E
              go_simp
              rw [if_pos (by omega), if_neg (by omega)]
            · intro ρ w' E
              have e75 : ρ (.tmp 75) = .slice (some ⟨g13, 0, none⟩) 4 4 := E.pre 0 rfl
              have e77 : ρ (.tmp 77) = .slice (some ⟨b, o + p + 9, none⟩) 4 ((c - p) - 9) := E.pre 2 rfl
              refine step_plain rfl ?_
              refine op_call (f := 122) (args := #[.slice (some ⟨g13, 0, none⟩) 4 4, .slice (some ⟨b, o + p + 9, none⟩) 4 ((c - p) - 9)]) (w' := w') (by have hcon := E.con; have hfn := E.fn; clear E; go_simp) ?_
              refine (equal_at _ _ (crcBytesOf z) _ _ s4 w' 4 4 false (hs13.ext E.below) (hs48.ext E.below) rfl Hs4.out.symm (by omega) (by omega) Heq.out).mono ?_
              rintro e w2 ⟨rfl, n, rfl⟩
              exact ⟨_, rfl, ext_drewN _ _ _, rfl⟩
            · intro ρ w' E
              have e78 : ρ (.tmp 78) = .bool false := E.pre 3 rfl
              refine step_plain rfl ?_
              refine op_val (v := .bool true) (w' := w') ?_ ⟨Below.refl _ _, rfl⟩
              have hcon := E.con
              clear E
              go_simp
          · intro σ2 w9 hb89 hall
            have h79 : σ2 79 = .bool true := by obtain ⟨_, _, _, _, h, _⟩ := hall; exact h
            clear hall
            simp only [upd, updL, dstsOf', elemB, List.filterMap_cons, List.filterMap_nil, Nat.reduceAdd, Nat.reduceBEq, Bool.or_false, Bool.false_or, Bool.or_true, Bool.true_or, cond_true, cond_false, Nat.zero_add, h79]
            have hg9 := heap_own3 hb89 hg8 hl8
            have hb09 := bthen hb08 hb89 (Nat.le_refl _)
            go_wp2_with (refine wpList_store_row rfl rfl 54 (.tmp 4) (.tmp 80) rfl w.heap.size rfl 54 #[.int .i64 (x.toNat : Int), .int .i64 (S : Int), .slice ad N cd] #[.int .i64 0, .int .i64 0, .slice none 0 0] rfl hg9 rfl (by kernel_rfl) (by simp [Value.oneCell']) ?_)
            exact bodyPost_ret (results_cell3 (p := 4) (u := 5) (v := 6) rfl _ _ w.heap.size _ #[.int .i64 0, .int .i64 0, .slice none 0 0] _ _ rfl (setRow_heap _ w.heap.size _ _ _ _ hg9) Try.underlying54 rfl (by kernel_rfl)) rfl
              ⟨none, 0, rfl, Own.nil _ _ _ _ _, bsetRow hb09 (Nat.le_refl _) _⟩

theorem frread_at (a : Option Addr) (L c : Nat) (l : List Byte) (A : Int) (r : Rec) (nx E : Int) (w : World) (hs : Src w a (bvs l)) (hL : L = l.length) (hc : L ≤ c) (hLm : L ≤ 4611686018427387904) (hR : readF l A = (r, nx, E)) :
    Calls Try.prog 117 #[.slice a L c, .int .i64 A] w (ReadOut w r nx E) := by
  by_cases h1 : A < 0 ∨ (L : Int) < A
  · have : readF l A = (Rec.zero, 0, 1) := by unfold readF; rw [if_pos (by omega)]
    rw [this] at hR
    simp only [Prod.mk.injEq] at hR
    obtain ⟨rfl, rfl, rfl⟩ := hR
    exact frread_arg a L c A w h1
  · obtain ⟨p, rfl⟩ := Int.eq_ofNat_of_zero_le (show 0 ≤ A by omega)
    by_cases h2 : L < p + 13
    · have : readF l (p : Int) = (Rec.zero, 0, 3) := by
        unfold readF
        have e0 : ((p : Int)).toNat = p := by simp
        rw [e0, if_neg (by omega), if_pos (by omega)]
      rw [this] at hR
      simp only [Prod.mk.injEq] at hR
      obtain ⟨rfl, rfl, rfl⟩ := hR
      exact frread_few L c p w (by omega) hc h2 hLm a
    · obtain ⟨b, o, rfl, _, _⟩ := src_bytes_at hs (show 0 < l.length by omega)
      rw [readF_mid (l' := l.drop p) rfl (by omega) (by simp; omega)] at hR
      exact frread_mid b o L c p l _ _ _ _ w hs hL rfl (by omega) hc hLm rfl rfl rfl r nx E hR
end Go.Proofs.Ytclkkhpnnbkfmaa
