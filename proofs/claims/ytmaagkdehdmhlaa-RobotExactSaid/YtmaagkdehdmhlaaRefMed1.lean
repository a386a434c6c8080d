/- The page's Write, Mark, Tear, of a right tape. -/
import Derived.Test.YtmaagkdehdmhlaaRefPut
import Derived.Test.YtmaagkdehdmhlaaRobotExactPartL
namespace Go.Proofs.Ytmaagkdehdmhlaa
open Go.RowKit

theorem Med.wrong1 {m : Med} {p : Int} {n : Nat} {blk : Bool} (h : p < 0 ∨ (m.cells.length : Int) < p) : m.wrong p n blk = 1 := by unfold Med.wrong; rw [if_pos h]
theorem Med.wrong2 {m : Med} {p : Int} {n : Nat} (h : ¬ (p < 0 ∨ (m.cells.length : Int) < p)) (hn : n < 1 ∨ 256 < n) : m.wrong p n true = 2 := by unfold Med.wrong; rw [if_neg h, if_pos ⟨rfl, hn⟩]
theorem Med.wrong7 {m : Med} {p : Int} {n : Nat} {blk : Bool} (h : ¬ (p < 0 ∨ (m.cells.length : Int) < p)) (hn : blk = true → ¬ (n < 1 ∨ 256 < n)) (hc : p = m.cap) : m.wrong p n blk = 7 := by
  unfold Med.wrong; rw [if_neg h, if_neg (fun k => hn k.1 k.2), if_pos hc]
theorem Med.wrong0 {m : Med} {p : Int} {n : Nat} {blk : Bool} (h : ¬ (p < 0 ∨ (m.cells.length : Int) < p)) (hn : blk = true → ¬ (n < 1 ∨ 256 < n)) (hc : ¬ p = m.cap) : m.wrong p n blk = 0 := by
  unfold Med.wrong; rw [if_neg h, if_neg (fun k => hn k.1 k.2), if_neg hc]
theorem Med.write_eq {m : Med} (h : m.ok = true) (p : Int) (b : List Byte) : m.write p b = if m.wrong p b.length true ≠ 0 then (Med.none, m.wrong p b.length true) else (m.lay p.toNat ⟨1, b, false⟩, 0) := by unfold Med.write; rw [if_neg (by rw [h]; decide)]
theorem Med.mark_eq {m : Med} (h : m.ok = true) (p : Int) : m.mark p = if m.wrong p 0 false ≠ 0 then (Med.none, m.wrong p 0 false) else (m.lay p.toNat ⟨2, [], false⟩, 0) := by unfold Med.mark; rw [if_neg (by rw [h]; decide)]
theorem Med.tear_eq {m : Med} (h : m.ok = true) (p : Int) (b : List Byte) (keep : Int) : m.tear p b keep = if m.wrong p b.length true ≠ 0 then (Med.none, m.wrong p b.length true) else if keep < 0 then (m, 0) else (m.lay p.toNat ⟨3, b.take keep.toNat, false⟩, 0) := by unfold Med.tear; rw [if_neg (by rw [h]; decide)]

set_option maxRecDepth 100000 in
set_option maxHeartbeats 4000000 in
theorem refwrite_any (cap : Int) (a : Option Addr) (c n : Nat) (cs : List CellV) (p : Int) (ab : Option Addr) (m cb : Nat) (l : List Byte) (M : Med) (E : Int) (w : World) (hs : CMat w a cs) (hn : n = cs.length) (hn2 : n ≤ 90000) (hx : ∀ x ∈ cs, x.d.l.length ≤ 140737488355328) (hsb : Src w ab (bvs l)) (hm : m = l.length) (hm2 : m ≤ 140737488355328) (hok : (medOf cap cs).ok = true) (hr : (medOf cap cs).write p l = (M, E)) :
    Calls Try.prog 55 #[.agg #[.int .i64 cap, .slice a n c], .int .i64 p, .slice ab m cb] w fun e w' => ∃ a' c' k cs', e = .returned (.tuple #[.agg #[.int .i64 M.cap, .slice a' k c'], .int .i64 E]) ∧ MedR w' w.heap.size M a' k c' cs' ∧ k ≤ c' ∧ Below w.heap.size w w' := by
  have Hsb := Lib.hid hsb
  have Hm := Lib.hid hm
  clear hsb hm
  have Hs := Lib.hid hs
  have Hn := Lib.hid hn
  have Hx := Lib.hid hx
  have HR := Lib.hid hr
  have hcl : (medOf cap cs).cells.length = n := (pls_length cs).trans hn.symm
  have Hcl := Lib.hid hcl
  have hz1 := heap_alloc_new w (.cells #[.int .i64 cap, .slice a n c] 45)
  have hz2 := heap_alloc_new (w.alloc (.cells #[.int .i64 cap, .slice a n c] 45)) (.cells #[.int .i64 0, .slice none 0 0] 45)
  rw [World.size_alloc] at hz2
  have hb1 := ext_alloc w (.cells #[.int .i64 cap, .slice a n c] 45)
  have hb2 := ext_alloc (w.alloc (.cells #[.int .i64 cap, .slice a n c] 45)) (.cells #[.int .i64 0, .slice none 0 0] 45)
  have hz1' := (hb2.block w.heap.size (by rw [World.size_alloc]; omega)).trans hz1
  have hb02 := bthen hb1 hb2 (Nat.le_refl _)
  clear hs hn hx hb1 hb2 hz1 hr hcl
  have d0 := cell_of_row _ w.heap.size 0 _ _ _ hz1'
  have d1 := cell_of_row _ w.heap.size 1 _ _ _ hz1'
  have hw := Med.write_eq hok p l
  rw [show (medOf cap cs).write p l = (M, E) from HR.out, ← Hm.out] at hw
  have HW := Lib.hid hw
  clear HR hok hw hz1'
  by_cases hp : p < 0 ∨ (n : Int) < p
  · have hl : M = Med.none ∧ E = 1 := by have := HW.out; rw [Med.wrong1 (by rw [Hcl.out]; exact hp), if_pos (by decide)] at this; simpa using this
    obtain ⟨rfl, rfl⟩ := hl
    clear HW
    go_enter Try.func55, Try.ntmps55
    by_cases hp1 : p < 0
    · clear hp
      have hg3 := setRow_heap _ (w.heap.size + 1) _ #[.int .i64 0, .slice none 0 0] _ _ hz2
      have hbF := bsetRow hb02 (show w.heap.size ≤ w.heap.size + 1 by omega) #[.int .i64 0, .slice none 0 0]
      go_wp2_with (refine wpList_store_row rfl rfl 45 (.tmp 6) (.tmp 17) rfl (w.heap.size + 1) rfl 45 #[.int .i64 0, .slice none 0 0] #[.int .i64 0, .slice none 0 0] rfl hz2 rfl (by kernel_rfl) (by simp [Value.oneCell']) ?_)
      refine bodyPost_ret (results_cellm (p := 6) (u := 7) rfl _ _ (w.heap.size + 1) _ #[.int .i64 0, .slice none 0 0] _ _ rfl hg3 Try.underlying45 rfl (by kernel_rfl)) rfl ?_
      first | exact ⟨none, 0, 0, [], rfl, MedR.none _ _, Nat.le_refl _, hbF⟩ | exact ⟨none, 0, 0, rfl, ⟨[], MedR.none _ _⟩, Nat.le_refl _, hbF⟩ | exact ⟨none, 0, 0, ⟨[], rfl, MedR.none _ _⟩, Nat.le_refl _, hbF⟩
    · have hp2 : (n : Int) < p := by omega
      clear hp
      have hg3 := setRow_heap _ (w.heap.size + 1) _ #[.int .i64 0, .slice none 0 0] _ _ hz2
      have hbF := bsetRow hb02 (show w.heap.size ≤ w.heap.size + 1 by omega) #[.int .i64 0, .slice none 0 0]
      go_wp2_with (refine wpList_store_row rfl rfl 45 (.tmp 6) (.tmp 17) rfl (w.heap.size + 1) rfl 45 #[.int .i64 0, .slice none 0 0] #[.int .i64 0, .slice none 0 0] rfl hz2 rfl (by kernel_rfl) (by simp [Value.oneCell']) ?_)
      refine bodyPost_ret (results_cellm (p := 6) (u := 7) rfl _ _ (w.heap.size + 1) _ #[.int .i64 0, .slice none 0 0] _ _ rfl hg3 Try.underlying45 rfl (by kernel_rfl)) rfl ?_
      first | exact ⟨none, 0, 0, [], rfl, MedR.none _ _, Nat.le_refl _, hbF⟩ | exact ⟨none, 0, 0, rfl, ⟨[], MedR.none _ _⟩, Nat.le_refl _, hbF⟩ | exact ⟨none, 0, 0, ⟨[], rfl, MedR.none _ _⟩, Nat.le_refl _, hbF⟩
  have hpL : ¬ (p < 0 ∨ ((medOf cap cs).cells.length : Int) < p) := by rw [Hcl.out]; exact hp
  have HpL := Lib.hid hpL
  obtain ⟨p, rfl⟩ := Int.eq_ofNat_of_zero_le (show 0 ≤ p by omega)
  have hpn2 : p ≤ n := by omega
  have hp0 : ¬ (p : Int) < 0 := by omega
  have hp1 : ¬ n < p := by omega
  clear hp hpL
  by_cases hb : m < 1 ∨ 256 < m
  · have hl : M = Med.none ∧ E = 2 := by have := HW.out; rw [Med.wrong2 HpL.out hb, if_pos (by decide)] at this; simpa using this
    obtain ⟨rfl, rfl⟩ := hl
    clear HW
    go_enter Try.func55, Try.ntmps55
    by_cases hb1 : m < 1
    · have hb1' : (m : Int) < 1 := by omega
      clear hb
      have hg3 := setRow_heap _ (w.heap.size + 1) _ #[.int .i64 0, .slice none 0 0] _ _ hz2
      have hbF := bsetRow hb02 (show w.heap.size ≤ w.heap.size + 1 by omega) #[.int .i64 0, .slice none 0 0]
      go_wp2_with (refine wpList_store_row rfl rfl 45 (.tmp 6) (.tmp 26) rfl (w.heap.size + 1) rfl 45 #[.int .i64 0, .slice none 0 0] #[.int .i64 0, .slice none 0 0] rfl hz2 rfl (by kernel_rfl) (by simp [Value.oneCell']) ?_)
      refine bodyPost_ret (results_cellm (p := 6) (u := 7) rfl _ _ (w.heap.size + 1) _ #[.int .i64 0, .slice none 0 0] _ _ rfl hg3 Try.underlying45 rfl (by kernel_rfl)) rfl ?_
      first | exact ⟨none, 0, 0, [], rfl, MedR.none _ _, Nat.le_refl _, hbF⟩ | exact ⟨none, 0, 0, rfl, ⟨[], MedR.none _ _⟩, Nat.le_refl _, hbF⟩ | exact ⟨none, 0, 0, ⟨[], rfl, MedR.none _ _⟩, Nat.le_refl _, hbF⟩
    · have hb1' : ¬ (m : Int) < 1 := by omega
      have hb2' : (256 : Int) < (m : Int) := by omega
      clear hb
      have hg3 := setRow_heap _ (w.heap.size + 1) _ #[.int .i64 0, .slice none 0 0] _ _ hz2
      have hbF := bsetRow hb02 (show w.heap.size ≤ w.heap.size + 1 by omega) #[.int .i64 0, .slice none 0 0]
      go_wp2_with (refine wpList_store_row rfl rfl 45 (.tmp 6) (.tmp 26) rfl (w.heap.size + 1) rfl 45 #[.int .i64 0, .slice none 0 0] #[.int .i64 0, .slice none 0 0] rfl hz2 rfl (by kernel_rfl) (by simp [Value.oneCell']) ?_)
      refine bodyPost_ret (results_cellm (p := 6) (u := 7) rfl _ _ (w.heap.size + 1) _ #[.int .i64 0, .slice none 0 0] _ _ rfl hg3 Try.underlying45 rfl (by kernel_rfl)) rfl ?_
      first | exact ⟨none, 0, 0, [], rfl, MedR.none _ _, Nat.le_refl _, hbF⟩ | exact ⟨none, 0, 0, rfl, ⟨[], MedR.none _ _⟩, Nat.le_refl _, hbF⟩ | exact ⟨none, 0, 0, ⟨[], rfl, MedR.none _ _⟩, Nat.le_refl _, hbF⟩
  have hb1' : ¬ (m : Int) < 1 := by omega
  have hb2' : ¬ (256 : Int) < (m : Int) := by omega
  by_cases hc : (p : Int) = cap
  · have hl : M = Med.none ∧ E = 7 := by have := HW.out; rw [Med.wrong7 HpL.out (fun _ => hb) hc, if_pos (by decide)] at this; simpa using this
    obtain ⟨rfl, rfl⟩ := hl
    have hc' : ((p : Int) == cap) = true := by simpa using hc
    clear HW hb hc
    go_enter Try.func55, Try.ntmps55
    have hg3 := setRow_heap _ (w.heap.size + 1) _ #[.int .i64 0, .slice none 0 0] _ _ hz2
    have hbF := bsetRow hb02 (show w.heap.size ≤ w.heap.size + 1 by omega) #[.int .i64 0, .slice none 0 0]
    go_wp2_with (refine wpList_store_row rfl rfl 45 (.tmp 6) (.tmp 31) rfl (w.heap.size + 1) rfl 45 #[.int .i64 0, .slice none 0 0] #[.int .i64 0, .slice none 0 0] rfl hz2 rfl (by kernel_rfl) (by simp [Value.oneCell']) ?_)
    refine bodyPost_ret (results_cellm (p := 6) (u := 7) rfl _ _ (w.heap.size + 1) _ #[.int .i64 0, .slice none 0 0] _ _ rfl hg3 Try.underlying45 rfl (by kernel_rfl)) rfl ?_
    first | exact ⟨none, 0, 0, [], rfl, MedR.none _ _, Nat.le_refl _, hbF⟩ | exact ⟨none, 0, 0, rfl, ⟨[], MedR.none _ _⟩, Nat.le_refl _, hbF⟩ | exact ⟨none, 0, 0, ⟨[], rfl, MedR.none _ _⟩, Nat.le_refl _, hbF⟩
  · have hl : M = (medOf cap cs).lay p ⟨1, l, false⟩ ∧ E = 0 := by have := HW.out; rw [Med.wrong0 HpL.out (fun _ => hb) hc, if_neg (by decide), Int.toNat_natCast] at this; simpa using this
    obtain ⟨rfl, rfl⟩ := hl
    have hc' : ((p : Int) == cap) = false := by simpa using hc
    have hsr := Lib.hid (Hsb.out.ext hb02)
    clear HW hb hc
    go_enter Try.func55, Try.ntmps55
    go_wp2_with fail
    refine (put_any cap a c n p cs 1 ab m cb l _ (Hs.out.ext hb02) Hn.out hn2 Hx.out hpn2 hsr.out Hm.out (by omega)).mono ?_
    rintro e w5 ⟨a5, c5, cs5, rfl, hl5, ho5, hp5, hb5⟩
    have g3 := (hb5.block _ (heap_lt hz2)).trans hz2
    have hMR : MedR w5 w.heap.size ((medOf cap cs).lay p ⟨1, l, false⟩) a5 (p + 1) c5 cs5 := ⟨ho5.mono (hb02).size, hl5, hp5⟩
    have HMR := Lib.hid (hMR.setRow (new := #[.int .i64 cap, .slice a5 (p + 1) c5]) g3)
    have hlc := Lib.hid (by have := ho5.row.len.1; rw [hl5] at this; exact this : p + 1 ≤ c5)
    have hg3 := setRow_heap w5 (w.heap.size + 1) _ #[.int .i64 cap, .slice a5 (p + 1) c5] _ _ g3
    have hbF := bsetRow (bthen hb02 hb5 (Nat.le_refl _)) (show w.heap.size ≤ w.heap.size + 1 by omega) #[.int .i64 cap, .slice a5 (p + 1) c5]
    clear hb5 ho5 hMR d0 d1 hp5
    go_wp2_with (refine wpList_store_row rfl rfl 45 (.tmp 6) (.tmp 36) rfl (w.heap.size + 1) rfl 45 #[.int .i64 0, .slice none 0 0] #[.int .i64 cap, .slice a5 (p + 1) c5] rfl g3 rfl (by kernel_rfl) (by simp [Value.oneCell']) ?_)
    exact bodyPost_ret (results_cellm (p := 6) (u := 7) rfl _ _ (w.heap.size + 1) _ #[.int .i64 cap, .slice a5 (p + 1) c5] _ _ rfl hg3 Try.underlying45 rfl (by kernel_rfl)) rfl
      ⟨a5, c5, p + 1, cs5, rfl, HMR.out, hlc.out, hbF⟩

set_option maxRecDepth 100000 in
set_option maxHeartbeats 4000000 in
theorem refmark_any (cap : Int) (a : Option Addr) (c n : Nat) (cs : List CellV) (p : Int) (M : Med) (E : Int) (w : World) (hs : CMat w a cs) (hn : n = cs.length) (hn2 : n ≤ 90000) (hx : ∀ x ∈ cs, x.d.l.length ≤ 140737488355328) (hok : (medOf cap cs).ok = true) (hr : (medOf cap cs).mark p = (M, E)) :
    Calls Try.prog 58 #[.agg #[.int .i64 cap, .slice a n c], .int .i64 p] w fun e w' => ∃ a' c' k cs', e = .returned (.tuple #[.agg #[.int .i64 M.cap, .slice a' k c'], .int .i64 E]) ∧ MedR w' w.heap.size M a' k c' cs' ∧ k ≤ c' ∧ Below w.heap.size w w' := by
  have Hs := Lib.hid hs
  have Hn := Lib.hid hn
  have Hx := Lib.hid hx
  have HR := Lib.hid hr
  have hcl : (medOf cap cs).cells.length = n := (pls_length cs).trans hn.symm
  have Hcl := Lib.hid hcl
  have hz1 := heap_alloc_new w (.cells #[.int .i64 cap, .slice a n c] 45)
  have hz2 := heap_alloc_new (w.alloc (.cells #[.int .i64 cap, .slice a n c] 45)) (.cells #[.int .i64 0, .slice none 0 0] 45)
  rw [World.size_alloc] at hz2
  have hb1 := ext_alloc w (.cells #[.int .i64 cap, .slice a n c] 45)
  have hb2 := ext_alloc (w.alloc (.cells #[.int .i64 cap, .slice a n c] 45)) (.cells #[.int .i64 0, .slice none 0 0] 45)
  have hz1' := (hb2.block w.heap.size (by rw [World.size_alloc]; omega)).trans hz1
  have hb02 := bthen hb1 hb2 (Nat.le_refl _)
  clear hs hn hx hb1 hb2 hz1 hr hcl
  have d0 := cell_of_row _ w.heap.size 0 _ _ _ hz1'
  have d1 := cell_of_row _ w.heap.size 1 _ _ _ hz1'
  have hw := Med.mark_eq hok p
  rw [show (medOf cap cs).mark p = (M, E) from HR.out] at hw
  have HW := Lib.hid hw
  clear HR hok hw hz1'
  by_cases hp : p < 0 ∨ (n : Int) < p
  · have hl : M = Med.none ∧ E = 1 := by have := HW.out; rw [Med.wrong1 (by rw [Hcl.out]; exact hp), if_pos (by decide)] at this; simpa using this
    obtain ⟨rfl, rfl⟩ := hl
    clear HW
    go_enter Try.func58, Try.ntmps58
    by_cases hp1 : p < 0
    · clear hp
      have hg3 := setRow_heap _ (w.heap.size + 1) _ #[.int .i64 0, .slice none 0 0] _ _ hz2
      have hbF := bsetRow hb02 (show w.heap.size ≤ w.heap.size + 1 by omega) #[.int .i64 0, .slice none 0 0]
      go_wp2_with (refine wpList_store_row rfl rfl 45 (.tmp 4) (.tmp 15) rfl (w.heap.size + 1) rfl 45 #[.int .i64 0, .slice none 0 0] #[.int .i64 0, .slice none 0 0] rfl hz2 rfl (by kernel_rfl) (by simp [Value.oneCell']) ?_)
      refine bodyPost_ret (results_cellm (p := 4) (u := 5) rfl _ _ (w.heap.size + 1) _ #[.int .i64 0, .slice none 0 0] _ _ rfl hg3 Try.underlying45 rfl (by kernel_rfl)) rfl ?_
      first | exact ⟨none, 0, 0, [], rfl, MedR.none _ _, Nat.le_refl _, hbF⟩ | exact ⟨none, 0, 0, rfl, ⟨[], MedR.none _ _⟩, Nat.le_refl _, hbF⟩ | exact ⟨none, 0, 0, ⟨[], rfl, MedR.none _ _⟩, Nat.le_refl _, hbF⟩
    · have hp2 : (n : Int) < p := by omega
      clear hp
      have hg3 := setRow_heap _ (w.heap.size + 1) _ #[.int .i64 0, .slice none 0 0] _ _ hz2
      have hbF := bsetRow hb02 (show w.heap.size ≤ w.heap.size + 1 by omega) #[.int .i64 0, .slice none 0 0]
      go_wp2_with (refine wpList_store_row rfl rfl 45 (.tmp 4) (.tmp 15) rfl (w.heap.size + 1) rfl 45 #[.int .i64 0, .slice none 0 0] #[.int .i64 0, .slice none 0 0] rfl hz2 rfl (by kernel_rfl) (by simp [Value.oneCell']) ?_)
      refine bodyPost_ret (results_cellm (p := 4) (u := 5) rfl _ _ (w.heap.size + 1) _ #[.int .i64 0, .slice none 0 0] _ _ rfl hg3 Try.underlying45 rfl (by kernel_rfl)) rfl ?_
      first | exact ⟨none, 0, 0, [], rfl, MedR.none _ _, Nat.le_refl _, hbF⟩ | exact ⟨none, 0, 0, rfl, ⟨[], MedR.none _ _⟩, Nat.le_refl _, hbF⟩ | exact ⟨none, 0, 0, ⟨[], rfl, MedR.none _ _⟩, Nat.le_refl _, hbF⟩
  have hpL : ¬ (p < 0 ∨ ((medOf cap cs).cells.length : Int) < p) := by rw [Hcl.out]; exact hp
  have HpL := Lib.hid hpL
  obtain ⟨p, rfl⟩ := Int.eq_ofNat_of_zero_le (show 0 ≤ p by omega)
  have hpn2 : p ≤ n := by omega
  have hp0 : ¬ (p : Int) < 0 := by omega
  have hp1 : ¬ n < p := by omega
  clear hp hpL
  by_cases hc : (p : Int) = cap
  · have hl : M = Med.none ∧ E = 7 := by have := HW.out; rw [Med.wrong7 HpL.out (by simp) hc, if_pos (by decide)] at this; simpa using this
    obtain ⟨rfl, rfl⟩ := hl
    have hc' : ((p : Int) == cap) = true := by simpa using hc
    clear HW hc
    go_enter Try.func58, Try.ntmps58
    have hg3 := setRow_heap _ (w.heap.size + 1) _ #[.int .i64 0, .slice none 0 0] _ _ hz2
    have hbF := bsetRow hb02 (show w.heap.size ≤ w.heap.size + 1 by omega) #[.int .i64 0, .slice none 0 0]
    go_wp2_with (refine wpList_store_row rfl rfl 45 (.tmp 4) (.tmp 20) rfl (w.heap.size + 1) rfl 45 #[.int .i64 0, .slice none 0 0] #[.int .i64 0, .slice none 0 0] rfl hz2 rfl (by kernel_rfl) (by simp [Value.oneCell']) ?_)
    refine bodyPost_ret (results_cellm (p := 4) (u := 5) rfl _ _ (w.heap.size + 1) _ #[.int .i64 0, .slice none 0 0] _ _ rfl hg3 Try.underlying45 rfl (by kernel_rfl)) rfl ?_
    first | exact ⟨none, 0, 0, [], rfl, MedR.none _ _, Nat.le_refl _, hbF⟩ | exact ⟨none, 0, 0, rfl, ⟨[], MedR.none _ _⟩, Nat.le_refl _, hbF⟩ | exact ⟨none, 0, 0, ⟨[], rfl, MedR.none _ _⟩, Nat.le_refl _, hbF⟩
  · have hl : M = (medOf cap cs).lay p ⟨2, [], false⟩ ∧ E = 0 := by have := HW.out; rw [Med.wrong0 HpL.out (by simp) hc, if_neg (by decide), Int.toNat_natCast] at this; simpa using this
    obtain ⟨rfl, rfl⟩ := hl
    have hc' : ((p : Int) == cap) = false := by simpa using hc
    have srcnil : Src ((w.alloc (.cells #[.int .i64 cap, .slice a n c] 45)).alloc (.cells #[.int .i64 0, .slice none 0 0] 45)) none (bvs []) := Src.nil _ _
    clear HW hc
    go_enter Try.func58, Try.ntmps58
    go_wp2_with fail
    refine (put_any cap a c n p cs 2 none 0 0 [] _ (Hs.out.ext hb02) Hn.out hn2 Hx.out hpn2 srcnil rfl (by omega)).mono ?_
    rintro e w5 ⟨a5, c5, cs5, rfl, hl5, ho5, hp5, hb5⟩
    have g3 := (hb5.block _ (heap_lt hz2)).trans hz2
    have hMR : MedR w5 w.heap.size ((medOf cap cs).lay p ⟨2, [], false⟩) a5 (p + 1) c5 cs5 := ⟨ho5.mono (hb02).size, hl5, hp5⟩
    have HMR := Lib.hid (hMR.setRow (new := #[.int .i64 cap, .slice a5 (p + 1) c5]) g3)
    have hlc := Lib.hid (by have := ho5.row.len.1; rw [hl5] at this; exact this : p + 1 ≤ c5)
    have hg3 := setRow_heap w5 (w.heap.size + 1) _ #[.int .i64 cap, .slice a5 (p + 1) c5] _ _ g3
    have hbF := bsetRow (bthen hb02 hb5 (Nat.le_refl _)) (show w.heap.size ≤ w.heap.size + 1 by omega) #[.int .i64 cap, .slice a5 (p + 1) c5]
    clear hb5 ho5 hMR d0 d1 hp5
    go_wp2_with (refine wpList_store_row rfl rfl 45 (.tmp 4) (.tmp 24) rfl (w.heap.size + 1) rfl 45 #[.int .i64 0, .slice none 0 0] #[.int .i64 cap, .slice a5 (p + 1) c5] rfl g3 rfl (by kernel_rfl) (by simp [Value.oneCell']) ?_)
    exact bodyPost_ret (results_cellm (p := 4) (u := 5) rfl _ _ (w.heap.size + 1) _ #[.int .i64 cap, .slice a5 (p + 1) c5] _ _ rfl hg3 Try.underlying45 rfl (by kernel_rfl)) rfl
      ⟨a5, c5, p + 1, cs5, rfl, HMR.out, hlc.out, hbF⟩
end Go.Proofs.Ytmaagkdehdmhlaa
