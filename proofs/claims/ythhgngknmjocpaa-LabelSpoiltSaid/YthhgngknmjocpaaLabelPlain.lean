/- Labels: plain. -/
import Derived.Test.YthhgngknmjocpaaBinDef
import Derived.Test.YthhgngknmjocpaaCrcPlain
namespace Go.Proofs.Ythhgngknmjocpaa

def okL (v p e : Int) : Bool := decide (0 ≤ v ∧ v < 8 ∧ 0 ≤ p ∧ p ≤ 1 ∧ 0 ≤ e ∧ e ≤ 1048576)
def lhead (v p e : Int) : List Byte := [67#8, 69#8, 76#8, 76#8, BitVec.ofNat 8 v.toNat, BitVec.ofNat 8 p.toNat] ++ be e.toNat 4
def lbytes (v p e : Int) : List Byte := lhead v p e ++ crcBytesOf (crc (lhead v p e))
def labB (v p e : Int) : List Byte := if okL v p e then lbytes v p e else []
def labE (v p e : Int) : Int := if okL v p e then 0 else 1
/-- What bytes are read as: volume, pool, epoch, error. -/
def labOf (l : List Byte) : Int × Int × Int := (((l.getD 4 0#8).toNat : Int), ((l.getD 5 0#8).toNat : Int), ((numOf ((l.drop 6).take 4) : Nat) : Int))
def labR (l : List Byte) : Int × Int × Int × Int :=
  if l.length = 14 ∧ okL (labOf l).1 (labOf l).2.1 (labOf l).2.2 = true ∧ lbytes (labOf l).1 (labOf l).2.1 (labOf l).2.2 = l then ((labOf l).1, (labOf l).2.1, (labOf l).2.2, 0) else (0, 0, 0, 13)

theorem okL_iff {v p e : Int} : okL v p e = true ↔ 0 ≤ v ∧ v < 8 ∧ 0 ≤ p ∧ p ≤ 1 ∧ 0 ≤ e ∧ e ≤ 1048576 := by simp [okL]
theorem lhead_length (v p e : Int) : (lhead v p e).length = 10 := by simp [lhead, be_length]
theorem crcBytesOf_length (z : BitVec 32) : (crcBytesOf z).length = 4 := rfl
theorem lbytes_length (v p e : Int) : (lbytes v p e).length = 14 := by simp [lbytes, lhead_length, crcBytesOf_length]
theorem labB_length_ok {v p e : Int} (h : okL v p e = true) : (labB v p e).length = 14 := by simp [labB, h, lbytes_length]
theorem labB_ok {v p e : Int} (h : okL v p e = true) : labB v p e = lbytes v p e := by simp [labB, h]
theorem labB_no {v p e : Int} (h : okL v p e = false) : labB v p e = [] := by simp [labB, h]
theorem labE_ok {v p e : Int} (h : okL v p e = true) : labE v p e = 0 := by simp [labE, h]
theorem labE_no {v p e : Int} (h : okL v p e = false) : labE v p e = 1 := by simp [labE, h]

/-- A label's bytes tell the label. -/
theorem labOf_lbytes {v p e : Int} (h : okL v p e = true) : labOf (lbytes v p e) = (v, p, e) := by
  rw [okL_iff] at h
  have h1 : (lbytes v p e).getD 4 0#8 = BitVec.ofNat 8 v.toNat := by simp [lbytes, lhead]
  have h2 : (lbytes v p e).getD 5 0#8 = BitVec.ofNat 8 p.toNat := by simp [lbytes, lhead]
  have h3 : ((lbytes v p e).drop 6).take 4 = be e.toNat 4 := by
    simp only [lbytes, lhead, List.cons_append, List.nil_append, List.drop_succ_cons, List.drop_zero]
    rw [List.take_append_of_le_length (by rw [be_length]; omega), List.take_of_length_le (by rw [be_length]; omega)]
  unfold labOf
  rw [h1, h2, h3, numOf_be_of_lt (by have : (256 : Nat) ^ 4 = 4294967296 := by decide
                                     omega), BitVec.toNat_ofNat, BitVec.toNat_ofNat]
  refine Prod.ext ?_ (Prod.ext ?_ ?_) <;> simp <;> omega
theorem labR_lbytes {v p e : Int} (h : okL v p e = true) : labR (lbytes v p e) = (v, p, e, 0) := by
  unfold labR
  rw [labOf_lbytes h, if_pos ⟨lbytes_length _ _ _, h, rfl⟩]
theorem lbytes_inj {v p e v' p' e' : Int} (h : okL v p e = true) (h' : okL v' p' e' = true) (hb : lbytes v p e = lbytes v' p' e') : v = v' ∧ p = p' ∧ e = e' := by
  have h1 := labOf_lbytes h
  rw [hb, labOf_lbytes h'] at h1
  simp only [Prod.mk.injEq] at h1
  omega
theorem labR_len {l : List Byte} (h : l.length ≠ 14) : labR l = (0, 0, 0, 13) := by
  unfold labR; rw [if_neg (fun hh => h hh.1)]
/-- The error is 0 just where the bytes are the label's. -/
theorem labR_err (l : List Byte) : ((labR l).2.2.2 = 0 ∧ okL (labR l).1 (labR l).2.1 (labR l).2.2.1 = true ∧ lbytes (labR l).1 (labR l).2.1 (labR l).2.2.1 = l) ∨ labR l = (0, 0, 0, 13) := by
  unfold labR
  split
  · next h => exact .inl ⟨rfl, h.2⟩
  · exact .inr rfl
end Go.Proofs.Ythhgngknmjocpaa
