/- The store's read. -/
import Derived.Test.YtogcejmnhiphgaaStoreOps
namespace Go.Proofs.Ytogcejmnhiphgaa
open Go.RowKit

theorem DS.read_256 {d : DS} {n : Nat} (h : d.ok n) {p : PS} {i : Int} {b : List Byte} (hR : d.read p i = (b, 0)) : b.length = 256 := by
  have hok := h.wake p
  unfold DS.read DS.get at hR
  split at hR
  · exact absurd (congrArg Prod.snd hR) (show (5 : Int) ≠ 0 by decide)
  · split at hR
    · split at hR
      · exact absurd (congrArg Prod.snd hR) (show (6 : Int) ≠ 0 by decide)
      · simp only [Prod.mk.injEq] at hR
        rw [← hR.1]
        unfold Sec.bytes
        split
        · unfold zeros256; rw [List.length_replicate]
        · rename_i hin _ hne
          have hi2 : i.toNat < (d.wake p).now.length := by unfold DS.inB at hin; simp at hin; omega
          rw [List.getD_eq_getElem?_getD, List.getElem?_eq_getElem hi2] at hne ⊢
          exact (hok.bytes _ (List.mem_append_right _ (List.getElem_mem hi2))).resolve_left hne
    · exact absurd (congrArg Prod.snd hR) (show (1 : Int) ≠ 0 by decide)
/-- A frame, and then one that leaves all that there was. -/
theorem Mod.andThen {F G : Nat → TypeId → Prop} {a w w' : World} (h : Mod F a w) (k : Mod G w w') (hG : ∀ b T, b < a.heap.size → ¬ G b T) : Mod F a w' := by
  refine ⟨k.os.trans h.os, k.tape.trans h.tape, k.output.trans h.output, Nat.le_trans h.size k.size, fun b hb => ?_⟩
  have hk : w'.heap[b]? = w.heap[b]? := by
    rcases k.block b (Nat.lt_of_lt_of_le hb h.size) with h1 | ⟨cs, cs', T, hf, _⟩
    · exact h1
    · exact absurd hf (hG b T hb)
  rcases h.block b hb with h1 | ⟨cs, cs', T, h1, h2, h3⟩
  · exact .inl (hk.trans h1)
  · exact .inr ⟨cs, cs', T, h1, h2, hk.trans h3⟩
/-- Writes to bytes of others leave a disk. -/
theorem DW.bytes {K : Nat → Prop} {B : Nat} {w w' : World} {g pg n : Nat} {d : DS} {p : PS} {m : Nat} {F : Nat → TypeId → Prop} (h : DW K B w g pg n d p m) (hm : Mod F w w') (hF : ∀ b T, F b T → T = 5) (hK : ∀ b, K b → ¬ F b 5) : DW K B w' g pg n d p m :=
  ⟨h.disk.mod hm (fun b T hf => by rw [hF b T hf]; decide) (fun b _ hb => hK b hb), h.pow.mod hm (fun b T hf => by rw [hF b T hf]; decide), h.ok, Nat.le_trans h.base hm.size, h.pend⟩
/-- So many sectors, one behind the other. -/
def catP (d : DS) (p : PS) (at_ : Nat) : Nat → List Byte
  | 0 => []
  | k + 1 => catP d p at_ k ++ (d.read p ((at_ + k : Nat) : Int)).1
def catOk (d : DS) (p : PS) (at_ k : Nat) : Bool := (List.range k).all fun j => decide ((d.read p ((at_ + j : Nat) : Int)).2 = 0)
def secs (len : Nat) : Nat := (len + 255) / 256
/-- What read tells. -/
def rdP (d : DS) (p : PS) (at_ len : Nat) : List Byte × Bool := if catOk d p at_ (secs len) then ((catP d p at_ (secs len)).take len, true) else ([], false)
theorem catOk_succ (d : DS) (p : PS) (at_ k : Nat) : catOk d p at_ (k + 1) = (catOk d p at_ k && decide ((d.read p ((at_ + k : Nat) : Int)).2 = 0)) := by
  unfold catOk
  rw [List.range_succ, List.all_append]
  simp only [List.all_cons, List.all_nil, Bool.and_true]
theorem catOk_at {d : DS} {p : PS} {at_ m k : Nat} (hk : k < m) (h : (d.read p ((at_ + k : Nat) : Int)).2 ≠ 0) : catOk d p at_ m = false := by
  unfold catOk
  rw [List.all_eq_false]
  exact ⟨k, List.mem_range.2 hk, by simpa using h⟩
theorem catP_length {d : DS} {n : Nat} (h : d.ok n) {p : PS} {at_ : Nat} : ∀ {k : Nat}, catOk d p at_ k = true → (catP d p at_ k).length = 256 * k
  | 0, _ => rfl
  | k + 1, hk => by
    rw [catOk_succ, Bool.and_eq_true] at hk
    have h1 := catP_length h hk.1
    have h2 : (d.read p ((at_ + k : Nat) : Int)).2 = 0 := by simpa using hk.2
    have h3 : (d.read p ((at_ + k : Nat) : Int)).1.length = 256 := DS.read_256 h (b := (d.read p ((at_ + k : Nat) : Int)).1) (by rw [← h2])
    rw [catP, List.length_append, h1, h3]
    omega
theorem Own.short {w : World} {B : Nat} {e : TypeId} {a : Option Addr} {n c : Nat} {xs : List Value} (h : Own w B e 1 a n c xs) {m : Nat} (hm : m ≤ n) : Own w B e 1 a m c (xs.take m) := by
  obtain ⟨hl, h0 | ⟨g, cur, ha, hb, hh, hn, hc, hs, ht⟩⟩ := h
  · obtain ⟨rfl, rfl⟩ := h0
    obtain rfl : m = 0 := by omega
    exact ⟨by simp, .inl ⟨rfl, rfl⟩⟩
  · refine ⟨by rw [List.length_take, hl]; omega, .inr ⟨g, cur, ha, hb, hh, by omega, hc, hs, ?_⟩⟩
    rw [← ht, List.take_take]
    congr 1
    omega

set_option maxRecDepth 100000 in
set_option maxHeartbeats 4000000 in
theorem sread_any {K : Nat → Prop} {B : Nat} {w : World} {g pg n : Nat} {d : DS} {p : PS} {m : Nat} (h : DW K B w g pg n d p m) (hd : d.wake p = d) (hn : n ≤ 100000) (hn0 : 0 < n) (hm : m ≤ 100000) (at_ len : Nat) (A L : Int) (hA : A = (at_ : Int)) (hL : L = (len : Int)) (ha : at_ ≤ 1000) (hl : len ≤ 30000)
    {b : List Byte} {r : Bool} (hr : rdP d p at_ len = (b, r)) :
    Calls Try.prog 58 #[.pointer (some ⟨g, 0, none⟩), .int .i64 A, .int .i64 L] w fun e w' => ∃ a k c, e = .returned (.tuple #[.slice a k c, .bool r]) ∧ k = b.length ∧ Own w' w.heap.size 5 1 a k c (bvs b) ∧ DW K B w' g pg n d p m ∧ Mod (DF B) w w' := by
  obtain ⟨i0, hi, hz0, hz1, hz2⟩ := info_parts info8
  subst hA hL
  have H : Hid (DW (fun b => K b ∧ b < w.heap.size) B w g pg n d p m) := Lib.hid (h.mono (fun b hb hk => ⟨hk, hb⟩) (Nat.le_refl _))
  have Hd := Lib.hid hd
  have Hr := Lib.hid hr
  have HBw := Lib.hid h.base
  clear h hd hr
  go_enter Try.func58, Try.ntmps58
  go_wp2_with fail
  go_loopw [1, 8] (fun av ov wx => ∃ (k : Nat) (aO : Option Addr) (cO : Nat) (wr : World), wr = wx ∧ av = .int .i64 ((at_ + k : Nat) : Int) ∧ ov = .slice aO (256 * k) cO ∧ (k = 0 ∨ 256 * (k - 1) < len) ∧ catOk d p at_ k = true ∧ Own wr w.heap.size 5 1 aO (256 * k) cO (bvs (catP d p at_ k)) ∧ DW (fun b => K b ∧ b < w.heap.size) B wr g pg n d p m ∧ Mod (DF B) w wr ∧ (k = 0 → aO = none)) (fun av _ _ => at_ + 200 - (intOf av).toNat)
  case atStart => exact ⟨0, none, 0, _, rfl, by simp, rfl, .inl rfl, rfl, Own.nil _ _ _ _ _, H.out, Mod.refl _ _, fun _ => rfl⟩
  case round =>
    obtain ⟨k, aO, cO, wr, hwr, rfl, rfl, hk, hok, hO, hD, hM, hnil⟩ := hrel
    have Hnil := Lib.hid hnil
    clear hnil
    subst hwr
    have hk2 : k ≤ 118 := by omega
    have HO := Lib.hid hO
    have HD := Lib.hid hD
    have HM := Lib.hid hM
    have Hok := Lib.hid hok
    have Hk := Lib.hid hk
    have hz := hM.size
    clear hO hD hM hok hk
    obtain ⟨q, hq⟩ : ∃ q, q = at_ + k := ⟨_, rfl⟩
    obtain ⟨s, hs⟩ : ∃ s, s = 256 * k := ⟨_, rfl⟩
    rw [← hq, ← hs]
    rw [← hs] at HO
    have hq2 : q ≤ 2000 := by omega
    have hs2 : s ≤ 40000 := by omega
    have Hq := Lib.hid hq
    have Hs := Lib.hid hs
    clear hq hs
    by_cases hlt : s < len
    · obtain ⟨⟨x, E⟩, hR⟩ : ∃ x, x = d.read p (q : Int) := ⟨_, rfl⟩
      have HR := Lib.hid hR.symm
      clear hR
      go_wp2_with fail
      refine (HD.out.read hn hn0 hm (q : Int) HR.out).mono ?_
      rintro e w2 ⟨a2, c2, k2, rfl, hk2', ho2, hd2, hM2⟩
      rw [Hd.out] at hd2
      have HD2 := Lib.hid hd2
      have HO2 := Lib.hid (HO.out.mod hM2 fun b _ _ => DF_no_u8 b)
      have HM2 := Lib.hid (HM.out.trans hM2)
      have HX := Lib.hid ho2.src
      have hsz2 : w.heap.size ≤ w2.heap.size := Nat.le_trans hz hM2.size
      have hcO := HO.out.len
      have Hk2' := Lib.hid hk2'
      clear hd2 ho2 hM2 HD HM HO hk2'
      by_cases hE : E = 0
      · subst hE
        have hx := DS.read_256 HD2.out.ok HR.out
        obtain rfl : k2 = 256 := Hk2'.out.trans hx
        have Hx := Lib.hid hx
        clear hx hcO
        go_wp2_with (refine wpList_appm rfl (.tmp 23) (.tmp 24) 34 rfl w.heap.size 5 i0 (.int .u8 0) 1 1 Try.underlying34 hi hz0 hz1 hz2 rfl (by decide) aO s cO (bvs (catP d p at_ k)) rfl HO2.out a2 256 c2 (bvs x) rfl (by rw [bvs_length, Hx.out]) HX.out (bvs_one _) (by unfold maxLen; omega) (by omega) hsz2 ?_; intro a3 c3 w3 hA3)
        have hm3 := hA3.mod (fun b T => T = 5 ∧ w.heap.size ≤ b) fun b _ _ hb => ⟨rfl, hb⟩
        have HD3 := Lib.hid (HD2.out.bytes hm3 (fun _ _ h => h.1) fun b hb hf => absurd hf.2 (by omega))
        have HM3 := Lib.hid (HM2.out.andThen hm3 fun b T hb hf => absurd hf.2 (by omega))
        have Hok3 : Hid (catOk d p at_ (k + 1) = true) := Lib.hid (by
          rw [catOk_succ, Hok.out, ← Hq.out, HR.out]
          rfl)
        have Hcat : Hid (catP d p at_ (k + 1) = catP d p at_ k ++ x) := Lib.hid (by
          rw [catP, ← Hq.out, HR.out])
        have HO3 : Hid (Own w3 w.heap.size 5 1 a3 (256 * (k + 1)) c3 (bvs (catP d p at_ (k + 1)))) := Lib.hid (by
          rw [Hcat.out, bvs_append, Nat.mul_add, Nat.mul_one, ← Hs.out]
          exact hA3.own)
        clear hA3 hm3 HD2 HO2 HM2 HX
        go_roundw
        case rel => exact ⟨k + 1, a3, c3, _, rfl, by rw [Hq.out]; go_num, by rw [Hs.out, Nat.mul_add, Nat.mul_one], .inr (by rw [Nat.add_sub_cancel, ← Hs.out]; exact hlt), Hok3.out, HO3.out, HD3.out, HM3.out, fun h => absurd h (by omega)⟩
        case measure => simp [intOf]; have := Hq.out; omega
      · have hE' : (E != 0) = true := by simpa using hE
        have hlt2 : k < secs len := by unfold secs; have := Hs.out; omega
        have hr := Hr.out
        unfold rdP at hr
        rw [catOk_at hlt2 (by rw [← Hq.out, HR.out]; exact hE), if_neg (by decide)] at hr
        simp only [Prod.mk.injEq] at hr
        obtain ⟨rfl, rfl⟩ := hr
        have HDK := Lib.hid (HD2.out.mono (fun b _ hk => hk.1) (Nat.le_refl _))
        clear hE hlt2 Hr Hk2' HD2
        go_wp2
        go_ret2
        exact ⟨none, 0, 0, rfl, rfl, Own.nil _ _ _ _ _, HDK.out, HM2.out⟩
    · have hks : secs len = k := by
        unfold secs
        have h1 := Hk.out
        have h2 := Hs.out
        omega
      have hr := Hr.out
      unfold rdP at hr
      rw [hks, Hok.out, if_pos rfl] at hr
      simp only [Prod.mk.injEq] at hr
      obtain ⟨rfl, rfl⟩ := hr
      have hcl := catP_length HD.out.ok Hok.out
      have HF : Hid (Own wr w.heap.size 5 1 aO len cO (bvs ((catP d p at_ k).take len))) := Lib.hid (by
        rw [bvs_take]
        exact HO.out.short (by omega))
      have HFl : Hid (len = ((catP d p at_ k).take len).length) := Lib.hid (by rw [List.length_take, hcl, ← Hs.out]; omega)
      have HDK := Lib.hid (HD.out.mono (fun b _ hk => hk.1) (Nat.le_refl _))
      have hcO := HO.out.len
      have hcO1 := hcO.1
      have hcO2 := hcO.2
      unfold maxLen at hcO2
      by_cases hk0 : k = 0
      · have ha0 := Hnil.out hk0
        have hs0 : s = 0 := by have := Hs.out; omega
        have hl0 : len = 0 := by omega
        have hc0 : cO = 0 := by
          obtain ⟨_, h0 | ⟨g', cur, hag, _⟩⟩ := HO.out
          · exact h0.2
          · rw [ha0] at hag; cases hag
        subst hl0
        rw [ha0, hs0, hc0]
        rw [ha0, hc0] at HF
        clear hcO hcO1 hcO2 hcl hks Hr HD hk0 ha0 hs0 hc0 HO
        go_wp2
        go_ret2
        exact ⟨none, 0, 0, rfl, HFl.out, HF.out, HDK.out, HM.out⟩
      · obtain ⟨x2, rfl⟩ : ∃ x, aO = some ⟨x, 0, none⟩ := by
          obtain ⟨_, h0 | ⟨g', cur, hag, _⟩⟩ := HO.out
          · have := Hs.out; omega
          · exact ⟨g', hag⟩
        clear hcO hcl hks Hr HD hk0 HO
        go_wp2
        go_ret2
        exact ⟨some ⟨x2, 0, none⟩, len, cO, rfl, HFl.out, HF.out, HDK.out, HM.out⟩
end Go.Proofs.Ytogcejmnhiphgaa
