/- cellarerlaw09: fill, sector, wakes. -/
import Derived.Test.YtfbbejdbofkpaaaDiskWrite
import Derived.Test.YtfbbejdbofkpaaaDiskErase
import Derived.Test.YtfbbejdbofkpaaaSpoilM
namespace Go.Proofs.Ytfbbejdbofkpaaa
open Go.RowKit

/-- As many of one byte. -/
def fb (b : Byte) (n : Nat) : List Byte := List.replicate n b
theorem fb_length (b : Byte) (n : Nat) : (fb b n).length = n := by simp [fb]
theorem fb_zero (n : Nat) : fb 0#8 n = zb n := rfl
/-- Bytes, filled up to a sector. -/
def pad (l : List Byte) : List Byte := l.take 256 ++ (zb 256).drop l.length
theorem pad_length (l : List Byte) : (pad l).length = 256 := by
  unfold pad; rw [List.length_append, List.length_take, List.length_drop, zb_length]; omega

set_option maxRecDepth 100000 in
set_option maxHeartbeats 1000000 in
theorem fill_any (b : Byte) (w : World) :
    Calls Try.prog 15 #[.int .u8 (b.toNat : Int)] w fun e w' => ∃ a c, e = .returned (.slice a 256 c) ∧ Own w' w.heap.size 5 1 a 256 c (bvs (fb b 256)) ∧ Below w.heap.size w w' := by
  obtain ⟨i0, hi, hz0, hz1, hz2⟩ := info_parts info8
  obtain ⟨n, hn⟩ : ∃ n : Nat, n = 256 := ⟨_, rfl⟩
  have Hn := Lib.hid hn
  have hfin : ∀ (l : List Byte), l = fb b n → l = fb b 256 := fun l h => by rw [h, hn]
  have Hf := Lib.hid hfin
  have h256 : (256 : Int) = (n : Int) := by omega
  clear hn hfin
  go_enter Try.func15, Try.ntmps15
  go_wp2_with (refine wpList_make8 rfl _ _ 31 rfl 5 i0 Try.underlying31 hi hz0 hz1 hz2 256 rfl rfl (by decide) ?_; intro w1 ho1 hb1)
  go_loopw [4] (fun i wr => ∃ (k : Nat) (l : List Byte), k ≤ 256 ∧ i = .int .i64 (k : Int) ∧ Own wr w.heap.size 5 1 (some ⟨w.heap.size, 0, none⟩) 256 256 (bvs l) ∧ l = fb b k ++ zb (256 - k) ∧ Below w.heap.size w wr) (fun i _ => 256 - (intOf i).toNat)
  case atStart => exact ⟨0, zb 256, by omega, rfl, ho1, by simp [fb], hb1⟩
  case round =>
    rename_i wr
    obtain ⟨k, l, hk, rfl, hown, hl, hb⟩ := hrel
    have Hl := Lib.hid hl
    have hll : l.length = 256 := by have := hown.1; simpa using this
    have Hll := Lib.hid hll
    clear hl hll
    by_cases hlt : k < 256
    · obtain ⟨g, hg, hbg, hlg, hat, hfz⟩ := hown.at hlt
      simp only [Option.some.injEq, Addr.mk.injEq, and_self, and_true] at hg
      subst hg
      have hc1 := hat k (by rw [bvs_length, Hll.out]; exact hlt)
      have hf1 := hfz k
      clear hat hfz
      go_wp2_with fail
      go_roundw
      case rel =>
        refine ⟨k + 1, l.set k b, by omega, by go_num, ?_, ?_, hb.setCell hbg _⟩
        · rw [← bvs_set]; exact hown.set k _ hlt
        · rw [Hl.out]
          have h1 : (fb b k).length = k := fb_length b k
          rw [List.set_append_right _ _ (by omega), h1, Nat.sub_self, show 256 - k = (256 - (k + 1)) + 1 by omega]
          show fb b k ++ (List.replicate ((256 - (k + 1)) + 1) 0#8).set 0 b = fb b (k + 1) ++ zb (256 - (k + 1))
          rw [List.replicate_succ, List.set_cons_zero, show fb b (k + 1) = fb b k ++ [b] from List.replicate_succ', List.append_assoc]
          rfl
      case measure => simp [intOf]; omega
    · obtain rfl : k = 256 := by omega
      go_wp2
      go_ret
      exact ⟨_, _, rfl, by have := Hl.out; rw [show 256 - 256 = 0 from rfl, show zb 0 = [] from rfl, List.append_nil] at this; rw [← this]; exact hown, hb⟩

/-- sector's answer. -/
def secOf (raw : Bool) (l : List Byte) : List Byte := if raw then l else pad l
set_option maxRecDepth 100000 in
set_option maxHeartbeats 1000000 in
theorem sector_any (B1 I1 I2 I3 T1 : Value) (ra : Bool) (a : Option Addr) (c n : Nat) (l : List Byte) (w : World) (hs : Src w a (bvs l)) (hn : n = l.length) (hl : n ≤ 140737488355328) (hr : ra = false) :
    Calls Try.prog 16 #[.agg #[I1, I2, I3, .slice a n c, .bool ra, B1, T1]] w fun e w' => ∃ a' c', e = .returned (.slice a' 256 c') ∧ Own w' w.heap.size 5 1 a' 256 c' (bvs (pad l)) ∧ Below w.heap.size w w' := by
  subst hr
  obtain ⟨i0, hi, hz0, hz1, hz2⟩ := info_parts info8
  have Hn := Lib.hid hn
  clear hn
  go_enter Try.func16, Try.ntmps16
  have hz := heap_alloc_new w (.cells #[I1, I2, I3, .slice a n c, .bool false, B1, T1] 36)
  have h3 : (w.alloc (.cells #[I1, I2, I3, .slice a n c, .bool false, B1, T1] 36)).cell? ⟨w.heap.size, 3, none⟩ = some (.slice a n c) := cell_of_row _ _ 3 _ _ _ hz
  have hlt := heap_lt hz
  have hs1 := hs.ext (ext_alloc w (.cells #[I1, I2, I3, .slice a n c, .bool false, B1, T1] 36))
  have hb1 := ext_alloc w (.cells #[I1, I2, I3, .slice a n c, .bool false, B1, T1] 36)
  go_wp2_with (first
    | (refine wpList_make8 rfl _ _ 31 rfl 5 i0 Try.underlying31 hi hz0 hz1 hz2 256 rfl rfl (by decide) ?_
       intro w2 ho2 hb2
       have q3 := (World.cell?_of_block (w := w.alloc (.cells #[I1, I2, I3, .slice a n c, .bool false, B1, T1] 36)) (hb2.block w.heap.size hlt)).trans h3
       have hs2 := hs1.ext hb2
       have hb02 := bthen hb1 hb2 (Nat.le_refl _)
       rw [World.size_alloc] at ho2)
    | (refine wpList_copyx rfl (.tmp 9) (.tmp 11) 31 rfl _ 5 Try.underlying31 (by rw [hi]; simp [hz1]) _ _ _ _ rfl ho2 a n c (bvs l) rfl hs2 (by rw [bvs_length]; exact Hn.out.symm) (bvs_one _) ?_
       intro w3 ho3 hb3 hz3 hf3))
  have hfin : (bvs l).take 256 ++ (bvs (zb 256)).drop n = bvs (pad l) := by
    rw [pad, bvs_append, bvs_take, bvs_drop, Hn.out]
  rw [hfin] at ho3
  have hbA := hb02.trans (hb3.mono (by simp))
  have Ho3 := Lib.hid ho3
  clear hfin ho3 hf3 hz h3 q3 hs1 hs2
  go_wp2
  go_ret
  exact ⟨_, _, rfl, Ho3.out.mono (by simp), hbA⟩
theorem sector_raw (B1 I1 I2 I3 T1 : Value) (ra : Bool) (a : Option Addr) (c n : Nat) (w : World) (hr : ra = true) :
    Calls Try.prog 16 #[.agg #[I1, I2, I3, .slice a n c, .bool ra, B1, T1]] w fun e w' => e = .returned (.slice a n c) ∧ Below w.heap.size w w' := by
  subst hr
  go_enter Try.func16, Try.ntmps16
  go_wp2
  go_ret
  exact ⟨rfl, ext_alloc w _⟩

/-- A disk with its power. -/
structure DW (K : Nat → Prop) (B : Nat) (w : World) (g pg n : Nat) (d : DS) (p : PS) (m : Nat) : Prop where
  disk : DiskAt K B w g pg d
  pow : Pow B w pg p
  ok : d.ok n
  base : B ≤ w.heap.size
  pend : d.pend.length ≤ m
theorem DW.mono {K K' : Nat → Prop} {B : Nat} {w : World} {g pg n : Nat} {d : DS} {p : PS} {m m' : Nat} (h : DW K B w g pg n d p m) (hK : ∀ b, b < w.heap.size → K b → K' b) (hm : m ≤ m') : DW K' B w g pg n d p m' :=
  ⟨h.disk.mono hK, h.pow, h.ok, h.base, Nat.le_trans h.pend hm⟩
/-- Its bytes lie in blocks that there are. -/
theorem DW.lt {K : Nat → Prop} {B : Nat} {w : World} {g pg n : Nat} {d : DS} {p : PS} {m : Nat} (h : DW K B w g pg n d p m) : DW (fun b => b < w.heap.size) B w g pg n d p m := h.mono (fun _ hb _ => hb) (Nat.le_refl _)
theorem DW.ext {K : Nat → Prop} {B : Nat} {w w' : World} {g pg n : Nat} {d : DS} {p : PS} {m : Nat} (h : DW K B w g pg n d p m) (hb : Below w.heap.size w w') : DW K B w' g pg n d p m :=
  ⟨h.disk.ext hb, h.pow.ext hb, h.ok, Nat.le_trans h.base hb.size, h.pend⟩
theorem DW.spoil {K : Nat → Prop} {B : Nat} {w w' : World} {g pg n : Nat} {d : DS} {p : PS} {m : Nat} {a : Option Addr} (h : DW K B w g pg n d p m) (hm : Mod (UF a) w w') (hK : ∀ b, a = some ⟨b, 0, none⟩ → ¬ K b) : DW K B w' g pg n d p m :=
  ⟨h.disk.mod hm (fun b T hf => ⟨UF_no a (by decide) b T hf, UF_no a (by decide) b T hf, UF_no a (by decide) b T hf⟩) (fun b _ hb hf => hK b hf.1 hb), h.pow.mod hm (fun b T hf => ⟨UF_no a (by decide) b T hf, UF_no a (by decide) b T hf, UF_no a (by decide) b T hf⟩), h.ok, Nat.le_trans h.base hm.size, h.pend⟩
theorem DW.read {K : Nat → Prop} {B : Nat} {w : World} {g pg n : Nat} {d : DS} {p : PS} {m : Nat} (h : DW K B w g pg n d p m) (hn : n ≤ 100000) (hn0 : 0 < n) (hm : m ≤ 100000) (i : Int) {b : List Byte} {E : Int} (hr : d.read p i = (b, E)) :
    Calls Try.prog 21 #[.pointer (some ⟨g, 0, none⟩), .int .i64 i] w fun e w' => ∃ a c k, e = .returned (.tuple #[.slice a k c, .int .i64 E]) ∧ k = b.length ∧ Own w' w.heap.size 5 1 a k c (bvs b) ∧ DW K B w' g pg n (d.wake p) p m ∧ Mod (DF B) w w' := by
  refine (disk_read K B g pg n d p i w h.disk h.pow h.ok hn hn0 h.base (Nat.le_trans h.pend hm)).mono ?_
  rintro e w' ⟨a, c, k, he, hk, ho, hd, hp, hM⟩
  rw [hr] at he hk ho
  exact ⟨a, c, k, he, hk, ho, ⟨hd, hp, h.ok.wake p, Nat.le_trans h.base hM.size, by unfold DS.wake; split; exact h.pend; simp⟩, hM⟩
theorem DW.write {K : Nat → Prop} {B : Nat} {w : World} {g pg n : Nat} {d : DS} {p : PS} {m : Nat} (h : DW K B w g pg n d p m) (hn : n ≤ 100000) (hn0 : 0 < n) (hm : m ≤ 100000) (i : Int) (a : Option Addr) (c k : Nat) (l : List Byte)
    (hs : ∀ w', Mod (DF B) w w' → Src w' a (bvs l)) (hl : k = l.length) (hl2 : k ≤ 140737488355328) {E : Int} {d' : DS} {p' : PS} (hr : d.write p i l = (E, d', p')) :
    Calls Try.prog 17 #[.pointer (some ⟨g, 0, none⟩), .int .i64 i, .slice a k c] w fun e w' => e = .returned (.int .i64 E) ∧ DW (fun b => K b ∨ w.heap.size ≤ b) B w' g pg n d' p' (m + 1) ∧ Mod (DF B) w w' := by
  refine (disk_write K B g pg n d p i a c k l w h.disk h.pow h.ok hn hn0 h.base (Nat.le_trans h.pend hm) hs hl hl2).mono ?_
  rintro e w' ⟨he, hd, hp, hM⟩
  have hok := h.ok.write p i l
  rw [hr] at he hd hp hok
  have hpl : d'.pend.length ≤ m + 1 := by
    have e1 : d' = (d.write p i l).2.1 := by rw [hr]
    have hwk : (d.wake p).pend.length ≤ m := by unfold DS.wake; split; exact h.pend; simp
    have h0 := h.pend
    rw [e1]
    unfold DS.write
    split
    · simp only; omega
    · split
      · simp only; omega
      · split
        · simp only; omega
        · split <;> simp only [List.length_append, List.length_singleton] <;> omega
  exact ⟨he, ⟨hd, hp, hok, Nat.le_trans h.base hM.size, hpl⟩, hM⟩
theorem DW.sync {K : Nat → Prop} {B : Nat} {w : World} {g pg n : Nat} {d : DS} {p : PS} {m : Nat} (h : DW K B w g pg n d p m) (hn : n ≤ 100000) (hn0 : 0 < n) (hm : m ≤ 100000) {E : Int} {d' : DS} {p' : PS} (hr : d.sync p = (E, d', p')) :
    Calls Try.prog 20 #[.pointer (some ⟨g, 0, none⟩)] w fun e w' => e = .returned (.int .i64 E) ∧ DW K B w' g pg n d' p' m ∧ Mod (DF B) w w' := by
  refine (disk_sync K B g pg n d p w h.disk h.pow h.ok hn hn0 h.base (Nat.le_trans h.pend hm)).mono ?_
  rintro e w' ⟨he, hd, hp, hM⟩
  have hok := h.ok.sync p
  rw [hr] at he hd hp hok
  have hpl : d'.pend.length ≤ m := by
    have e1 : d' = (d.sync p).2.1 := by rw [hr]
    have hwk : (d.wake p).pend.length ≤ m := by unfold DS.wake; split; exact h.pend; simp
    have h0 := h.pend
    rw [e1]
    unfold DS.sync
    split
    · exact h0
    · split
      · simp
      · exact hwk
  exact ⟨he, ⟨hd, hp, hok, Nat.le_trans h.base hM.size, hpl⟩, hM⟩
theorem DW.erase {K : Nat → Prop} {B : Nat} {w : World} {g pg n : Nat} {d : DS} {p : PS} {m : Nat} (h : DW K B w g pg n d p m) (hn : n ≤ 100000) (hn0 : 0 < n) (hm : m ≤ 100000) {E : Int} {d' : DS} (hr : d.erase p = (E, d')) :
    Calls Try.prog 28 #[.pointer (some ⟨g, 0, none⟩)] w fun e w' => e = .returned (.int .i64 E) ∧ DW K B w' g pg n d' p m ∧ Mod (DF B) w w' := by
  refine (disk_erase K B g pg n d p w h.disk h.pow h.ok hn hn0 h.base (Nat.le_trans h.pend hm)).mono ?_
  rintro e w' ⟨he, hd, hp, hM⟩
  have hok := h.ok.erase p
  rw [hr] at he hd hok
  have hpl : d'.pend.length ≤ m := by
    have e1 : d' = (d.erase p).2 := by rw [hr]
    have h0 := h.pend
    rw [e1]
    unfold DS.erase
    split
    · exact h0
    · simp
  exact ⟨he, ⟨hd, hp, hok, Nat.le_trans h.base hM.size, hpl⟩, hM⟩
theorem DW.cut {K : Nat → Prop} {B : Nat} {w : World} {g pg n : Nat} {d : DS} {p : PS} {m : Nat} (h : DW K B w g pg n d p m) (a : Option Addr) (c k : Nat) (l : List Bool) (t : Int) (hs : Src w a (bovs l)) (hk : k = l.length) (hk2 : k ≤ 1000) {p' : PS} (hr : p.cut l t = p') :
    Calls Try.prog 25 #[.pointer (some ⟨pg, 0, none⟩), .slice a k c, .int .i64 t] w fun e w' => e = .returned (.tuple #[]) ∧ DW K B w' g pg n d p' m ∧ Mod (DF B) w w' := by
  subst hr
  refine (power_cut B pg p a c k l t w h.base h.pow hs hk hk2).mono ?_
  rintro e w' ⟨he, hp, hM⟩
  exact ⟨he, ⟨h.disk.pf hM, hp, h.ok, Nat.le_trans h.base hM.size, h.pend⟩, PF.df hM⟩
theorem DW.start {K : Nat → Prop} {B : Nat} {w : World} {g pg n : Nat} {d : DS} {p : PS} {m : Nat} (h : DW K B w g pg n d p m) (hl0 : 0 ≤ p.life) (hl1 : p.life ≤ 4611686018427387904) {p' : PS} (hr : p.start = p') :
    Calls Try.prog 26 #[.pointer (some ⟨pg, 0, none⟩)] w fun e w' => e = .returned (.tuple #[]) ∧ DW K B w' g pg n d p' m ∧ Mod (DF B) w w' := by
  subst hr
  refine (power_start B pg p w h.pow hl0 hl1).mono ?_
  rintro e w' ⟨he, hp, hM⟩
  exact ⟨he, ⟨h.disk.pf hM, hp, h.ok, Nat.le_trans h.base hM.size, h.pend⟩, PF.df hM⟩
theorem DW.arm {K : Nat → Prop} {B : Nat} {w : World} {g pg n : Nat} {d : DS} {p : PS} {m : Nat} (h : DW K B w g pg n d p m) (N : Int) (a : Option Addr) (c k : Nat) (l : List Bool) (t : Int) (hs : Src (w.setCell ⟨pg, 4, none⟩ (.pointer none)) a (bovs l)) (hk : k = l.length) (hk2 : k ≤ 1000) (hN : N ≤ 9223372036854775807) {p' : PS} (hr : p.arm N l t = p') :
    Calls Try.prog 27 #[.pointer (some ⟨pg, 0, none⟩), .int .i64 N, .slice a k c, .int .i64 t] w fun e w' => e = .returned (.tuple #[]) ∧ DW K B w' g pg n d p' m ∧ Mod (DF B) w w' := by
  subst hr
  refine (power_arm B pg p a c k l N t w h.base h.pow hs hk hk2 hN).mono ?_
  rintro e w' ⟨he, hp, hM⟩
  exact ⟨he, ⟨h.disk.pf hM, hp, h.ok, Nat.le_trans h.base hM.size, h.pend⟩, PF.df hM⟩
end Go.Proofs.Ytfbbejdbofkpaaa
