/- Several texts of this claim, one behind the other: CrcDef, CrcPlain. -/
import Derived.Test.YtmaagkdehdmhlaaBase
/- The sum of bytes as plain functions on words of 32 bits. -/
namespace Go.Proofs.Ytmaagkdehdmhlaa

def crcStep (r : BitVec 32) : BitVec 32 := (r >>> 1) ^^^ (if r.getLsbD 0 then 0xedb88320#32 else 0#32)
def crcIter : Nat → BitVec 32 → BitVec 32
  | 0, r => r
  | n + 1, r => crcStep (crcIter n r)
def crcOne (r : BitVec 32) (b : Byte) : BitVec 32 := (r >>> 8) ^^^ crcIter 8 ((r.setWidth 8 ^^^ b).setWidth 32)
def crcAll : BitVec 32 := 0xffffffff#32
def crcReg (r : BitVec 32) (l : List Byte) : BitVec 32 := l.foldl crcOne r
def crc (l : List Byte) : BitVec 32 := crcReg crcAll l ^^^ crcAll
def tabv : Array Value := Array.ofFn (n := 256) fun i => Value.int .u32 ((crcIter 8 (BitVec.ofNat 32 i)).toNat : Int)
def crcBytesOf (s : BitVec 32) : List Byte := [s.setWidth 8, (s >>> 8).setWidth 8, (s >>> 16).setWidth 8, (s >>> 24).setWidth 8]

theorem tabv_size : tabv.size = 256 := by simp [tabv]
theorem tabv_get (i : Nat) (h : i < 256) : tabv[i]? = some (.int .u32 ((crcIter 8 (BitVec.ofNat 32 i)).toNat : Int)) := by
  simp [tabv, h]

theorem tabv_one : ∀ v ∈ tabv.toList, v.oneCell' = true := by
  intro v hv
  simp only [tabv, Array.toList_ofFn, List.mem_ofFn] at hv
  obtain ⟨i, rfl⟩ := hv
  rfl
/- words as the walk spells them -/
theorem xor32 (x y : BitVec 32) : bits .xor .u32 (x.toNat : Int) (y.toNat : Int) = ((x ^^^ y).toNat : Int) := by
  rw [u32_xor_nat _ _ x.isLt y.isLt, BitVec.toNat_xor]
theorem and32 (x y : BitVec 32) : bits .and .u32 (x.toNat : Int) (y.toNat : Int) = ((x &&& y).toNat : Int) := by
  rw [u32_and_nat _ _ x.isLt y.isLt, BitVec.toNat_and]
theorem xor8 (x y : BitVec 8) : bits .xor .u8 (x.toNat : Int) (y.toNat : Int) = ((x ^^^ y).toNat : Int) := by
  rw [u8_xor_nat _ _ x.isLt y.isLt, BitVec.toNat_xor]
theorem shr32 (x : BitVec 32) (k : Nat) : (x.toNat : Int) / ((2 ^ k : Nat) : Int) = ((x >>> k).toNat : Int) := by
  rw [BitVec.toNat_ushiftRight, Nat.shiftRight_eq_div_pow]
  exact (Int.natCast_ediv _ _).symm
theorem low8 (x : BitVec 32) : (x.toNat : Int) % 256 = ((x.setWidth 8).toNat : Int) := by
  rw [BitVec.toNat_setWidth]; omega

theorem lsb_and1 (r : BitVec 32) : (bits .and .u32 (r.toNat : Int) 1 == 1) = r.getLsbD 0 := by
  have h := and32 r 1#32
  rw [show ((1#32 : BitVec 32).toNat : Int) = 1 from rfl] at h
  rw [h]
  have h2 : (r &&& 1#32).toNat = r.toNat % 2 := by
    rw [BitVec.toNat_and]; exact Nat.and_two_pow_sub_one_eq_mod r.toNat 1
  rw [h2, BitVec.getLsbD, Nat.testBit_zero]
  by_cases h : r.toNat % 2 = 1
  · simp [h]
  · have : r.toNat % 2 = 0 := by omega
    simp [this]

theorem step_one (r : BitVec 32) (h : r.getLsbD 0 = true) : bits .xor .u32 ((r.toNat : Int) / 2) 3988292384 = ((crcStep r).toNat : Int) := by
  have e := shr32 r 1
  simp only [Nat.pow_one] at e
  rw [show ((2 : Nat) : Int) = 2 from rfl] at e
  rw [e, crcStep, if_pos h]
  exact xor32 (r >>> 1) 0xedb88320#32
theorem step_zero (r : BitVec 32) (h : r.getLsbD 0 = false) : (r.toNat : Int) / 2 = ((crcStep r).toNat : Int) := by
  have e := shr32 r 1
  simp only [Nat.pow_one] at e
  rw [show ((2 : Nat) : Int) = 2 from rfl] at e
  rw [e, crcStep, h]
  simp

theorem crcReg_snoc (r : BitVec 32) (l : List Byte) (b : Byte) : crcReg r (l ++ [b]) = crcOne (crcReg r l) b := by simp [crcReg]
theorem crcReg_append (r : BitVec 32) (l m : List Byte) : crcReg r (l ++ m) = crcReg (crcReg r l) m := by simp [crcReg]
theorem crc_round (q : BitVec 32) (x : Byte) : ∃ (y : Byte) (t s : BitVec 32), bits .xor .u8 ((q.toNat : Int) % 256) (x.toNat : Int) = (y.toNat : Int) ∧ crcIter 8 (y.setWidth 32) = t ∧
    bits .xor .u32 ((q.toNat : Int) / 256) (t.toNat : Int) = (s.toNat : Int) ∧ crcOne q x = s := by
  refine ⟨q.setWidth 8 ^^^ x, _, _, ?_, rfl, ?_, rfl⟩
  · rw [low8, xor8]
  · have := shr32 q 8
    rw [show ((2 ^ 8 : Nat) : Int) = 256 from rfl] at this
    rw [this, xor32]
    rfl
theorem crc_last (q : BitVec 32) : bits .xor .u32 (q.toNat : Int) 4294967295 = ((q ^^^ crcAll).toNat : Int) := xor32 q crcAll
theorem tab_cell {w : World} {g : Nat} {T : TypeId} {m : Nat × Nat} (h : w.heap[g]? = some (.cells tabv T m)) (x : Byte) : w.cell? ⟨g, x.toNat, none⟩ = some (.int .u32 ((crcIter 8 (x.setWidth 32)).toNat : Int)) := by
  rw [cell_of_row w g _ _ _ _ h, tabv_get _ x.isLt, BitVec.ofNat_toNat]
end Go.Proofs.Ytmaagkdehdmhlaa

/- Plain laws of the sum: linear, the page's bit by bit, undone, its bytes behind it. -/
namespace Go.Proofs.Ytmaagkdehdmhlaa

theorem step_xor (x y : BitVec 32) : crcStep (x ^^^ y) = crcStep x ^^^ crcStep y := by
  unfold crcStep
  rw [BitVec.ushiftRight_xor_distrib, BitVec.getLsbD_xor]
  generalize (0xedb88320#32) = p
  cases x.getLsbD 0 <;> cases y.getLsbD 0
  · simp
  · simp [BitVec.xor_assoc]
  · simp only [Bool.true_xor, Bool.not_false, if_true, Bool.false_eq_true, if_false, BitVec.xor_zero]
    rw [BitVec.xor_assoc, BitVec.xor_comm (y >>> 1), ← BitVec.xor_assoc]
  · simp only [Bool.true_xor, Bool.not_true, if_true, Bool.false_eq_true, if_false, BitVec.xor_zero]
    rw [BitVec.xor_assoc (x >>> 1), BitVec.xor_comm p, BitVec.xor_assoc (y >>> 1), BitVec.xor_self, BitVec.xor_zero]

theorem iter_xor (n : Nat) (x y : BitVec 32) : crcIter n (x ^^^ y) = crcIter n x ^^^ crcIter n y := by
  induction n with
  | zero => rfl
  | succ n ih => simp only [crcIter, ih, step_xor]

theorem step_shl (v : BitVec 32) (h : v.toNat < 2 ^ 31) : crcStep (v <<< 1) = v := by
  have h0 : (v <<< 1).getLsbD 0 = false := by simp
  rw [crcStep, h0]
  apply BitVec.eq_of_toNat_eq
  simp [Nat.shiftLeft_eq, Nat.shiftRight_eq_div_pow]
  omega

theorem iter_shl (n : Nat) (hn : n ≤ 32) : ∀ v : BitVec 32, v.toNat < 2 ^ (32 - n) → crcIter n (v <<< n) = v := by
  induction n with
  | zero => intro v _; simp [crcIter]
  | succ n ih =>
    intro v hv
    have e1 : 2 ^ (32 - n) = 2 * 2 ^ (32 - (n + 1)) := by rw [← Nat.pow_succ']; congr 1; omega
    have e2 : 2 ^ (32 - (n + 1)) ≤ 2 ^ 31 := Nat.pow_le_pow_right (by omega) (by omega)
    have hs : (v <<< 1).toNat = v.toNat * 2 := by
      rw [BitVec.toNat_shiftLeft, Nat.shiftLeft_eq]; simp; omega
    rw [show n + 1 = 1 + n by omega, BitVec.shiftLeft_add, show 1 + n = n + 1 by omega, crcIter, ih (by omega) _ (by rw [hs]; omega), step_shl v (by omega)]

def bit1 (b : Bool) : BitVec 32 := if b then 1#32 else 0#32
def refStep (s : BitVec 32) (b : Bool) : BitVec 32 := crcStep (s ^^^ bit1 b)
def refIter (x : Byte) : Nat → BitVec 32 → BitVec 32
  | 0, s => s
  | n + 1, s => refStep (refIter x n s) (x.getLsbD n)
def lowBits (x : Byte) : Nat → BitVec 32
  | 0 => 0#32
  | n + 1 => lowBits x n ^^^ (bit1 (x.getLsbD n) <<< n)

theorem refIter_eq (x : Byte) (q : BitVec 32) (n : Nat) (hn : n ≤ 31) : refIter x n q = crcIter n (q ^^^ lowBits x n) := by
  induction n with
  | zero => simp [refIter, crcIter, lowBits]
  | succ n ih =>
    rw [refIter, ih (by omega), refStep, crcIter, lowBits, ← BitVec.xor_assoc, iter_xor n _ (bit1 (x.getLsbD n) <<< n), iter_shl n (by omega)]
    have : 2 ^ 1 ≤ 2 ^ (32 - n) := Nat.pow_le_pow_right (by omega) (by omega)
    cases x.getLsbD n <;> simp [bit1] <;> omega

theorem lowBits_8 : ∀ x : Byte, lowBits x 8 = x.setWidth 32 := by decide +kernel

theorem iter8_high (q : BitVec 32) : crcIter 8 ((q >>> 8) <<< 8) = q >>> 8 := by
  apply iter_shl 8 (by omega)
  have := q.isLt
  rw [BitVec.toNat_ushiftRight, Nat.shiftRight_eq_div_pow]
  omega

theorem high_low (q : BitVec 32) : ((q >>> 8) <<< 8) ^^^ (q.setWidth 8).setWidth 32 = q := by
  apply BitVec.eq_of_getLsbD_eq
  intro i hi
  simp
  by_cases h : i < 8
  · simp [h, hi]
  · have : 8 + (i - 8) = i := by omega
    simp [h, hi, this]

theorem refOne_eq (x : Byte) (q : BitVec 32) : refIter x 8 q = crcOne q x := by
  rw [refIter_eq x q 8 (by omega), lowBits_8, crcOne]
  rw [show (q.setWidth 8 ^^^ x).setWidth 32 = (q.setWidth 8).setWidth 32 ^^^ x.setWidth 32 from by simp]
  rw [iter_xor 8, iter_xor 8, ← BitVec.xor_assoc]
  congr 1
  conv => lhs; rw [← high_low q]
  rw [iter_xor 8, iter8_high]

theorem iter_add (m n : Nat) (x : BitVec 32) : crcIter (m + n) x = crcIter m (crcIter n x) := by
  induction m with
  | zero => simp [crcIter]
  | succ m ih => rw [show m + 1 + n = (m + n) + 1 by omega, crcIter, ih, crcIter]

theorem crcOne_eq (q : BitVec 32) (x : Byte) : crcOne q x = crcIter 8 (q ^^^ x.setWidth 32) := by
  rw [← refOne_eq, refIter_eq x q 8 (by omega), lowBits_8]

theorem byte_lt (x : Byte) : (x.setWidth 32).toNat < 256 := by
  rw [BitVec.toNat_setWidth]
  have := x.isLt
  omega

theorem join4 (s : BitVec 32) : (s.setWidth 8).setWidth 32 ^^^ ((((s >>> 8).setWidth 8).setWidth 32) <<< 8) ^^^ ((((s >>> 16).setWidth 8).setWidth 32) <<< 16) ^^^ ((((s >>> 24).setWidth 8).setWidth 32) <<< 24) = s := by
  apply BitVec.eq_of_getLsbD_eq
  intro i hi
  simp only [BitVec.getLsbD_xor, BitVec.getLsbD_shiftLeft, BitVec.getLsbD_setWidth, BitVec.getLsbD_ushiftRight, hi, decide_true, Bool.true_and]
  rcases (show i < 8 ∨ (8 ≤ i ∧ i < 16) ∨ (16 ≤ i ∧ i < 24) ∨ 24 ≤ i by omega) with h | ⟨h1, h2⟩ | ⟨h1, h2⟩ | h
  · simp [show i < 8 from h, show i < 16 by omega, show i < 24 by omega]
  · simp [show ¬ i < 8 by omega, show i < 16 from h2, show i < 24 by omega, show i - 8 < 8 by omega, show i - 8 < 32 by omega, show 8 + (i - 8) = i by omega]
  · simp [show ¬ i < 8 by omega, show ¬ i < 16 by omega, show i < 24 from h2, show ¬ i - 8 < 8 by omega, show i - 16 < 8 by omega, show i - 16 < 32 by omega, show 16 + (i - 16) = i by omega]
  · simp [show ¬ i < 8 by omega, show ¬ i < 16 by omega, show ¬ i < 24 by omega, show ¬ i - 8 < 8 by omega, show ¬ i - 16 < 8 by omega, show i - 24 < 8 by omega, show i - 24 < 32 by omega, show 24 + (i - 24) = i by omega]

theorem reg4 (q s : BitVec 32) : crcReg q (crcBytesOf s) = crcIter 32 (q ^^^ s) := by
  simp only [crcBytesOf, crcReg, List.foldl_cons, List.foldl_nil, crcOne_eq]
  conv => rhs; rw [← join4 s]
  generalize ((s.setWidth 8).setWidth 32) = a
  have hb := byte_lt ((s >>> 8).setWidth 8)
  have hc := byte_lt ((s >>> 16).setWidth 8)
  have hd := byte_lt ((s >>> 24).setWidth 8)
  generalize ((s >>> 8).setWidth 8).setWidth 32 = b at *
  generalize ((s >>> 16).setWidth 8).setWidth 32 = c at *
  generalize ((s >>> 24).setWidth 8).setWidth 32 = d at *
  have eb : crcIter 8 (b <<< 8) = b := iter_shl 8 (by omega) b (by omega)
  have ec : crcIter 16 (c <<< 16) = c := iter_shl 16 (by omega) c (by omega)
  have ed : crcIter 24 (d <<< 24) = d := iter_shl 24 (by omega) d (by omega)
  have e1 : crcIter 8 (q ^^^ a) ^^^ b = crcIter 8 (q ^^^ a ^^^ b <<< 8) := by rw [iter_xor 8 (q ^^^ a), eb]
  have e2 : crcIter 8 (crcIter 8 (q ^^^ a ^^^ b <<< 8)) ^^^ c = crcIter 16 (q ^^^ a ^^^ b <<< 8 ^^^ c <<< 16) := by
    rw [iter_xor 16 (q ^^^ a ^^^ b <<< 8), ec, iter_add 8 8]
  have e3 : crcIter 8 (crcIter 16 (q ^^^ a ^^^ b <<< 8 ^^^ c <<< 16)) ^^^ d = crcIter 24 (q ^^^ a ^^^ b <<< 8 ^^^ c <<< 16 ^^^ d <<< 24) := by
    rw [iter_xor 24 (q ^^^ a ^^^ b <<< 8 ^^^ c <<< 16), ed, iter_add 8 16]
  rw [e1, e2, e3, ← iter_add 8 24]
  congr 1
  simp only [BitVec.xor_assoc]

/-- With its bytes behind it a text has the one sum. -/
theorem crc_residue (l : List Byte) : crc (l ++ crcBytesOf (crc l)) = 0x2144df1c#32 := by
  rw [crc, crcReg_append, reg4, crc, ← BitVec.xor_assoc, BitVec.xor_self, BitVec.zero_xor]
  decide +kernel

/- three texts held against one another -/
theorem one_xor (q r : BitVec 32) (x y : Byte) : crcOne (q ^^^ r) (x ^^^ y) = crcOne q x ^^^ crcOne r y := by
  rw [crcOne_eq, crcOne_eq, crcOne_eq, ← iter_xor]
  congr 1
  rw [BitVec.setWidth_xor]
  rw [BitVec.xor_assoc, BitVec.xor_assoc, ← BitVec.xor_assoc r, BitVec.xor_comm r, BitVec.xor_assoc]
def xorL (a b : List Byte) : List Byte := List.zipWith (· ^^^ ·) a b
theorem reg_xor (a : List Byte) : ∀ (b : List Byte) (q r : BitVec 32), a.length = b.length → crcReg (q ^^^ r) (xorL a b) = crcReg q a ^^^ crcReg r b := by
  induction a with
  | nil => intro b q r h; cases b with
    | nil => rfl
    | cons y b => simp at h
  | cons x a ih => intro b q r h; cases b with
    | nil => simp at h
    | cons y b =>
      have := ih b (crcOne q x) (crcOne r y) (by simpa using h)
      rw [← one_xor] at this
      exact this
theorem crc_linear (a b c : List Byte) (h1 : a.length = b.length) (h2 : a.length = c.length) : crc (xorL (xorL a b) c) = crc a ^^^ crc b ^^^ crc c := by
  have e : crcAll = (crcAll ^^^ crcAll) ^^^ crcAll := by rw [BitVec.xor_self, BitVec.zero_xor]
  unfold crc
  conv => lhs; rw [show crcReg crcAll (xorL (xorL a b) c) = crcReg ((crcAll ^^^ crcAll) ^^^ crcAll) (xorL (xorL a b) c) from by rw [← e]]
  rw [reg_xor _ c _ _ (by simp [xorL]; omega), reg_xor a b _ _ h1]
  generalize crcReg crcAll a = x
  generalize crcReg crcAll b = y
  generalize crcReg crcAll c = z
  generalize crcAll = t
  apply BitVec.eq_of_getLsbD_eq
  intro i hi
  simp only [BitVec.getLsbD_xor]
  cases x.getLsbD i <;> cases y.getLsbD i <;> cases z.getLsbD i <;> cases t.getLsbD i <;> rfl

/- up to 32 bits side by side -/
theorem step_inj {x y : BitVec 32} (h : crcStep x = crcStep y) : x = y := by
  have hz : crcStep (x ^^^ y) = 0#32 := by rw [step_xor, h, BitVec.xor_self]
  have : x ^^^ y = 0#32 := by
    generalize x ^^^ y = d at hz
    unfold crcStep at hz
    have h31 : (d >>> 1).getLsbD 31 = false := by simp
    cases h0 : d.getLsbD 0 with
    | true =>
      rw [h0] at hz
      have := congrArg (fun v => v.getLsbD 31) hz
      simp at this
    | false =>
      rw [h0] at hz
      simp at hz
      apply BitVec.eq_of_getLsbD_eq
      intro i hi
      cases i with
      | zero => simpa using h0
      | succ i =>
        have := congrArg (fun v => v.getLsbD i) hz
        simpa [Nat.add_comm] using this
  have h2 : x ^^^ y ^^^ y = 0#32 ^^^ y := by rw [this]
  rwa [BitVec.xor_assoc, BitVec.xor_self, BitVec.xor_zero, BitVec.zero_xor] at h2
theorem iter_inj {n : Nat} {x y : BitVec 32} (h : crcIter n x = crcIter n y) : x = y := by
  induction n with
  | zero => exact h
  | succ n ih => exact ih (step_inj h)

/-- Bit t of a text, the lowest of each byte first. -/
def bitAt (l : List Byte) (t : Nat) : Bool := (l.getD (t / 8) 0#8).getLsbD (t % 8)
def feed (q : BitVec 32) (f : Nat → Bool) : Nat → BitVec 32
  | 0 => q
  | n + 1 => refStep (feed q f n) (f n)
theorem feed_congr (q : BitVec 32) (f g : Nat → Bool) (n : Nat) (h : ∀ t, t < n → f t = g t) : feed q f n = feed q g n := by
  induction n with
  | zero => rfl
  | succ n ih => rw [feed, feed, ih (fun t ht => h t (by omega)), h n (by omega)]
theorem feed_add (q : BitVec 32) (f : Nat → Bool) (m n : Nat) : feed q f (m + n) = feed (feed q f m) (fun t => f (m + t)) n := by
  induction n with
  | zero => rfl
  | succ n ih => rw [show m + (n + 1) = (m + n) + 1 by omega, feed, feed, ih]
theorem feed_xor (q r : BitVec 32) (f g : Nat → Bool) (n : Nat) : feed (q ^^^ r) (fun t => f t ^^ g t) n = feed q f n ^^^ feed r g n := by
  induction n with
  | zero => rfl
  | succ n ih =>
    rw [feed, ih, feed, feed, refStep, refStep, refStep, ← step_xor]
    congr 1
    generalize feed q f n = x
    generalize feed r g n = y
    apply BitVec.eq_of_getLsbD_eq
    intro i hi
    cases f n <;> cases g n <;> simp [bit1] <;> (cases y.getLsbD i <;> by_cases hz : i = 0 <;> simp [hz])
theorem feed_false (q : BitVec 32) (f : Nat → Bool) (n : Nat) (h : ∀ t, t < n → f t = false) : feed q f n = crcIter n q := by
  induction n with
  | zero => rfl
  | succ n ih => rw [feed, ih (fun t ht => h t (by omega)), h n (by omega), refStep, crcIter]; simp [bit1]
theorem refIter_feed (x : Byte) (q : BitVec 32) (n : Nat) : refIter x n q = feed q (fun t => x.getLsbD t) n := by
  induction n with
  | zero => rfl
  | succ n ih => rw [refIter, ih, feed]
theorem reg_feed (l : List Byte) : ∀ q, crcReg q l = feed q (bitAt l) (8 * l.length) := by
  induction l with
  | nil => intro q; rfl
  | cons x l ih =>
    intro q
    have e : 8 * (x :: l).length = 8 + 8 * l.length := by simp; omega
    rw [e, feed_add]
    have h1 : feed q (bitAt (x :: l)) 8 = crcOne q x := by
      rw [← refOne_eq, refIter_feed]
      refine feed_congr _ _ _ _ fun t ht => ?_
      simp [bitAt, show t / 8 = 0 by omega, show t % 8 = t by omega]
    rw [h1]
    have h2 : feed (crcOne q x) (fun t => bitAt (x :: l) (8 + t)) (8 * l.length) = feed (crcOne q x) (bitAt l) (8 * l.length) := by
      refine feed_congr _ _ _ _ fun t ht => ?_
      simp [bitAt, show (8 + t) / 8 = t / 8 + 1 by omega, show (8 + t) % 8 = t % 8 by omega]
    rw [h2, ← ih]
    rfl

def num (f : Nat → Bool) : Nat → BitVec 32
  | 0 => 0#32
  | n + 1 => num f n ^^^ (bit1 (f n) <<< n)
theorem feed_num (q : BitVec 32) (f : Nat → Bool) (n : Nat) (hn : n ≤ 32) : feed q f n = crcIter n (q ^^^ num f n) := by
  induction n with
  | zero => simp [feed, crcIter, num]
  | succ n ih =>
    rw [feed, ih (by omega), refStep, crcIter, num, ← BitVec.xor_assoc, iter_xor n _ (bit1 (f n) <<< n), iter_shl n (by omega)]
    have : 2 ^ 1 ≤ 2 ^ (32 - n) := Nat.pow_le_pow_right (by omega) (by omega)
    cases f n <;> simp [bit1] <;> omega
theorem num_bit (f : Nat → Bool) (n : Nat) (i : Nat) (hi : i < 32) (hn : n ≤ 32) : (num f n).getLsbD i = (decide (i < n) && f i) := by
  induction n with
  | zero => simp [num]
  | succ n ih =>
    rw [num, BitVec.getLsbD_xor, ih (by omega), BitVec.getLsbD_shiftLeft]
    by_cases h1 : i < n
    · simp [h1, show i < n + 1 by omega]
    · by_cases h2 : i = n
      · subst h2
        cases f i <;> simp [bit1, hi]
      · have h3 : ¬ i < n + 1 := by omega
        have h4 : i - n ≠ 0 := by omega
        cases f n <;> simp [bit1, h1, h3, h4]

theorem crc_inj_reg {l m : List Byte} (h : crc l = crc m) : crcReg crcAll l = crcReg crcAll m := by
  unfold crc at h
  have := congrArg (· ^^^ crcAll) h
  simpa [BitVec.xor_assoc] using this

theorem bits_ext {l m : List Byte} (hlen : l.length = m.length) (h : ∀ t, t < 8 * l.length → bitAt l t = bitAt m t) : l = m := by
  apply List.ext_getElem hlen
  intro i h1 h2
  apply BitVec.eq_of_getLsbD_eq
  intro j hj
  have := h (8 * i + j) (by omega)
  simpa [bitAt, show (8 * i + j) / 8 = i by omega, show (8 * i + j) % 8 = j by omega, h1, h2] using this

/-- Texts of one length that differ in up to 32 bits side by side alone, and have one sum, are one. -/
theorem burst {l m : List Byte} (hlen : l.length = m.length) (p n : Nat) (hn : n ≤ 32) (hout : ∀ t, t < 8 * l.length → (t < p ∨ p + n ≤ t) → bitAt l t = bitAt m t) (h : crc l = crc m) : l = m := by
  have hr := crc_inj_reg h
  rw [reg_feed, reg_feed, ← hlen] at hr
  have hx : feed (crcAll ^^^ crcAll) (fun t => bitAt l t ^^ bitAt m t) (8 * l.length) = 0#32 := by rw [feed_xor, hr, BitVec.xor_self]
  rw [BitVec.xor_self] at hx
  generalize hd : (fun t => bitAt l t ^^ bitAt m t) = d at hx
  have hd' : ∀ t, d t = (bitAt l t ^^ bitAt m t) := fun t => by rw [← hd]
  have h0 : ∀ k, crcIter k 0#32 = 0#32 := by
    intro k
    induction k with
    | zero => rfl
    | succ k ih => rw [crcIter, ih]; decide
  have hfalse : ∀ t, t < 8 * l.length → (t < p ∨ p + n ≤ t) → d t = false := fun t h1 h2 => by rw [hd', hout t h1 h2]; simp
  refine bits_ext hlen fun t ht => ?_
  have hall : d t = false := by
    by_cases hp : 8 * l.length ≤ p
    · exact hfalse t ht (.inl (by omega))
    · -- the first p bits, the next k, the rest
      generalize hL : 8 * l.length = L at *
      obtain ⟨k, hk⟩ : ∃ k, k = min n (L - p) := ⟨_, rfl⟩
      obtain ⟨r, hr'⟩ : ∃ r, L = p + k + r := ⟨L - p - k, by omega⟩
      rw [hr', feed_add, feed_add, feed_false 0#32 d p (fun u hu => hfalse u (by omega) (.inl hu)), h0] at hx
      rw [feed_num _ _ k (by omega)] at hx
      rw [feed_false _ _ r (fun u hu => hfalse _ (by omega) (.inr (by omega)))] at hx
      have e1 := iter_inj (hx.trans (h0 r).symm)
      have e2 := iter_inj (e1.trans (h0 k).symm)
      rw [BitVec.zero_xor] at e2
      by_cases h1 : t < p
      · exact hfalse t ht (.inl h1)
      · by_cases h2 : p + n ≤ t
        · exact hfalse t ht (.inr h2)
        · have := num_bit (fun u => d (p + u)) k (t - p) (by omega) (by omega)
          rw [e2] at this
          simpa [show t - p < k by omega, show p + (t - p) = t by omega] using this
  rw [hd'] at hall
  simpa using hall

end Go.Proofs.Ytmaagkdehdmhlaa
