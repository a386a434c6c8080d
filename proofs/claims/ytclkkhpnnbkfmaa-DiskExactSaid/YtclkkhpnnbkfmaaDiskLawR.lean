/- Disks, in the law: fill, sector. -/
import Derived.Test.YtclkkhpnnbkfmaaDiskDWR
namespace Go.Proofs.Ytclkkhpnnbkfmaa
open Go.RowKit
variable {R : Nat}

/-- As many of one byte. -/
def fb (b : Byte) (n : Nat) : List Byte := List.replicate n b
theorem fb_length (b : Byte) (n : Nat) : (fb b n).length = n := by simp [fb]
theorem fb_zero (n : Nat) : fb 0#8 n = zb n := rfl
set_option maxRecDepth 100000 in
set_option maxHeartbeats 1000000 in
theorem fill_any (b : Byte) (w : World) :
    Calls Try.prog 104 #[.int .u8 (b.toNat : Int)] w fun e w' => ∃ a c, e = .returned (.slice a 256 c) ∧ Own w' w.heap.size 5 1 a 256 c (bvs (fb b 256)) ∧ Below w.heap.size w w' := by
  obtain ⟨i0, hi, hz0, hz1, hz2⟩ := info_parts info8
  obtain ⟨n, hn⟩ : ∃ n : Nat, n = 256 := ⟨_, rfl⟩
  have Hn := Lib.hid hn
  have hfin : ∀ (l : List Byte), l = fb b n → l = fb b 256 := fun l h => by rw [h, hn]
  have Hf := Lib.hid hfin
  have h256 : (256 : Int) = (n : Int) := by omega
  clear hn hfin
  go_enter Try.func104, Try.ntmps104
  go_wp2_with (refine wpList_make8 rfl _ _ 50 rfl 5 i0 Try.underlying50 hi hz0 hz1 hz2 256 rfl rfl (by decide) ?_; intro w1 ho1 hb1)
  go_loopw [4] (fun i wr => ∃ (k : Nat) (l : List Byte), k ≤ 256 ∧ i = .int .i64 (k : Int) ∧ Own wr w.heap.size 5 1 (some ⟨w.heap.size, 0, none⟩) 256 256 (bvs l) ∧ l = fb b k ++ zb (256 - k) ∧ Below w.heap.size w wr) (fun i _ => 256 - (intOf i).toNat)
  case atStart => exact ⟨0, zb 256, by omega, rfl, ho1, by simp [fb], hb1⟩
  case round =>
    rename_i wr
    obtain ⟨k, l, hk, rfl, hown, hl, hb⟩ := hrel
    have Hl := Lib.hid hl
    have hll : l.length = 256 := by have := hown.1; simpa using this
    have Hll := Lib.hid hll
    clear hl hll
    by_cases hlt : k < 256
    · obtain ⟨g, hg, hbg, hlg, hat, hfz⟩ := hown.at hlt
      simp only [Option.some.injEq, Addr.mk.injEq, and_self, and_true] at hg
      subst hg
      have hc1 := hat k (by rw [bvs_length, Hll.out]; exact hlt)
      have hf1 := hfz k
      clear hat hfz
      go_wp2_with fail
      go_roundw
      case rel =>
        refine ⟨k + 1, l.set k b, by omega, by go_num, ?_, ?_, hb.setCell hbg _⟩
        · rw [← bvs_set]; exact hown.set k _ hlt
        · rw [Hl.out]
          have h1 : (fb b k).length = k := fb_length b k
          rw [List.set_append_right _ _ (by omega), h1, Nat.sub_self, show 256 - k = (256 - (k + 1)) + 1 by omega]
          show fb b k ++ (List.replicate ((256 - (k + 1)) + 1) 0#8).set 0 b = fb b (k + 1) ++ zb (256 - (k + 1))
          rw [List.replicate_succ, List.set_cons_zero, show fb b (k + 1) = fb b k ++ [b] from List.replicate_succ', List.append_assoc]
          rfl
      case measure => simp [intOf]; omega
    · obtain rfl : k = 256 := by omega
      go_wp2
      go_ret
      exact ⟨_, _, rfl, by have := Hl.out; rw [show 256 - 256 = 0 from rfl, show zb 0 = [] from rfl, List.append_nil] at this; rw [← this]; exact hown, hb⟩

/-- sector's answer. -/
def secOf (raw : Bool) (l : List Byte) : List Byte := if raw then l else pad l
set_option maxRecDepth 100000 in
set_option maxHeartbeats 1000000 in
theorem sector_any (B1 I1 I2 I3 T1 : Value) (ra : Bool) (a : Option Addr) (c n : Nat) (l : List Byte) (w : World) (hs : Src w a (bvs l)) (hn : n = l.length) (hl : n ≤ 140737488355328) (hr : ra = false) :
    Calls Try.prog 67 #[.agg #[I1, I2, I3, .slice a n c, .bool ra, B1, T1]] w fun e w' => ∃ a' c', e = .returned (.slice a' 256 c') ∧ Own w' w.heap.size 5 1 a' 256 c' (bvs (pad l)) ∧ Below w.heap.size w w' := by
  subst hr
  obtain ⟨i0, hi, hz0, hz1, hz2⟩ := info_parts info8
  have Hn := Lib.hid hn
  clear hn
  go_enter Try.func67, Try.ntmps67
  have hz := heap_alloc_new w (.cells #[I1, I2, I3, .slice a n c, .bool false, B1, T1] 112)
  have h3 : (w.alloc (.cells #[I1, I2, I3, .slice a n c, .bool false, B1, T1] 112)).cell? ⟨w.heap.size, 3, none⟩ = some (.slice a n c) := cell_of_row _ _ 3 _ _ _ hz
  have hlt := heap_lt hz
  have hs1 := hs.ext (ext_alloc w (.cells #[I1, I2, I3, .slice a n c, .bool false, B1, T1] 112))
  have hb1 := ext_alloc w (.cells #[I1, I2, I3, .slice a n c, .bool false, B1, T1] 112)
  go_wp2_with (first
    | (refine wpList_make8 rfl _ _ 50 rfl 5 i0 Try.underlying50 hi hz0 hz1 hz2 256 rfl rfl (by decide) ?_
       intro w2 ho2 hb2
       have q3 := (World.cell?_of_block (w := w.alloc (.cells #[I1, I2, I3, .slice a n c, .bool false, B1, T1] 112)) (hb2.block w.heap.size hlt)).trans h3
       have hs2 := hs1.ext hb2
       have hb02 := bthen hb1 hb2 (Nat.le_refl _)
       rw [World.size_alloc] at ho2)
    | (refine wpList_copyx rfl (.tmp 9) (.tmp 11) 50 rfl _ 5 Try.underlying50 (by rw [hi]; simp [hz1]) _ _ _ _ rfl ho2 a n c (bvs l) rfl hs2 (by rw [bvs_length]; exact Hn.out.symm) (bvs_one _) ?_
       intro w3 ho3 hb3 hz3 hf3))
  have hfin : (bvs l).take 256 ++ (bvs (zb 256)).drop n = bvs (pad l) := by
    rw [pad, bvs_append, bvs_take, bvs_drop, Hn.out]
  rw [hfin] at ho3
  have hbA := hb02.trans (hb3.mono (by simp))
  have Ho3 := Lib.hid ho3
  clear hfin ho3 hf3 hz h3 q3 hs1 hs2
  go_wp2
  go_ret
  exact ⟨_, _, rfl, Ho3.out.mono (by simp), hbA⟩
theorem sector_raw (B1 I1 I2 I3 T1 : Value) (ra : Bool) (a : Option Addr) (c n : Nat) (w : World) (hr : ra = true) :
    Calls Try.prog 67 #[.agg #[I1, I2, I3, .slice a n c, .bool ra, B1, T1]] w fun e w' => e = .returned (.slice a n c) ∧ Below w.heap.size w w' := by
  subst hr
  go_enter Try.func67, Try.ntmps67
  go_wp2
  go_ret
  exact ⟨rfl, ext_alloc w _⟩

end Go.Proofs.Ytclkkhpnnbkfmaa
