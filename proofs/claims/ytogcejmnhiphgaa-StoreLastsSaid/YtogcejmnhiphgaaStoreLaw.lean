/- Open and Save of a store whose disk is awake, the power on. -/
import Derived.Test.YtogcejmnhiphgaaStoreGood
namespace Go.Proofs.Ytogcejmnhiphgaa
open Go.RowKit

/-- A new disk of n sectors, of a new power. -/
theorem new_dws {n : Nat} {w w1 w2 : World} {pg g : Nat} (hp : Pow w.heap.size w1 pg PS.new) (hb1 : Below w.heap.size w w1) (hd : DiskAt (fun _ => False) w1.heap.size w2 g pg (DS.new PS.new.life n)) (hb2 : Below w1.heap.size w1 w2) :
    DW (fun _ => False) w.heap.size w2 g pg n (DS.new 0 n) PS.new 0 := ⟨hd.base hb1.size, hp.ext hb2, DS.new_ok 0 n, (bthen hb1 hb2 (Nat.le_refl _)).size, Nat.le_refl _⟩
theorem Own.srcS {B B' : Nat} {w : World} {a : Option Addr} {n c : Nat} {xs : List Value} (h : Own w B 5 1 a n c xs) : SrcS B' w a xs := by
  obtain ⟨hl, h0 | ⟨g, cur, ha, hb, hh, hn, hc, hs, ht⟩⟩ := h
  · exact .inl (List.eq_nil_of_length_eq_zero (by rw [hl, h0.1]))
  · refine .inr ⟨g, 0, _, _, _, ha, hh, ?_, .inr rfl⟩
    rw [List.drop_zero, hl]
    simpa using ht
theorem SrcS.new {B : Nat} (w : World) (cs : List Value) (m : Nat × Nat) : SrcS B (w.alloc (.cells cs.toArray 5 m)) (some ⟨w.heap.size, 0, none⟩) cs :=
  .inr ⟨w.heap.size, 0, cs.toArray, _, m, rfl, heap_alloc_new w _, by simp, .inr rfl⟩
theorem SrcS.nil (B : Nat) (w : World) (a : Option Addr) : SrcS B w a [] := .inl rfl
/-- An argument. -/
theorem Src.srcS {w0 w : World} {a : Option Addr} {xs : List Value} (h : Src w0 a xs) (hb : Below w0.heap.size w0 w) : SrcS w0.heap.size w a xs := by
  rcases h with h | ⟨b, o, cs, T, m, ha, hh, ht⟩
  · exact .inl h
  · exact .inr ⟨b, o, cs, T, m, ha, (hb.block b (heap_lt hh)).trans hh, ht, .inl (heap_lt hh)⟩
def SvF (B gs : Nat) : Nat → TypeId → Prop := fun b T => DF B b T ∨ b = gs ∧ T = 103
theorem SvF.base {B gs : Nat} (h : B ≤ gs) : ∀ b T, SvF B gs b T → B ≤ b := fun b T hf => by
  rcases hf with hf | hf
  · exact hf.1
  · rw [hf.1]; exact h
theorem SvF.no_u8 {B gs : Nat} (b : Nat) : ¬ SvF B gs b 5 := by
  rintro (hf | hf)
  · exact DF_no_u8 b hf
  · exact absurd hf.2 (by decide)

theorem sopen_good {K : Nat → Prop} {B : Nat} {w : World} {g pg n : Nat} {d : DS} {p : PS} {m : Nat} {s : List Byte} {cnt : Nat} (h : DW K B w g pg n d p m) (hn : 300 ≤ n) (hn2 : n ≤ 100000) (hm : m ≤ 100000) (hp : p.off = false) (hl : d.life = p.life) (hG : Good d.now s cnt) :
    Calls Try.prog 30 #[.pointer (some ⟨g, 0, none⟩)] w fun e w' => ∃ gs, e = .returned (.tuple #[.pointer (some ⟨gs, 0, none⟩), .int .i64 0]) ∧ StA w.heap.size w' gs g s cnt ∧ DW K B w' g pg n d p m ∧ Mod (DF B) w w' := by
  have hop := hG.open h.ok hn hp hl
  rw [← wake_on hl] at hop
  have := sopen_on h hn hn2 hm hp hop
  rw [wake_on hl] at this
  exact this
theorem ssave_good {K : Nat → Prop} {B Bs : Nat} {w : World} {gs g pg n : Nat} {d : DS} {p : PS} {m : Nat} {s : List Byte} {cnt : Nat} (h : DW K B w g pg n d p m) (hS : StA Bs w gs g s cnt) (hn : 300 ≤ n) (hn2 : n ≤ 100000) (hm : m ≤ 90000) (hp : p.off = false) (ht : p.trip = none) (hl : d.life = p.life) (hG : Good d.now s cnt) (hcnt : cnt ≤ 1000000)
    (a : Option Addr) (c L : Nat) (b : List Byte) (hsrc : SrcS B w a (bvs b)) (hL : L = b.length) (hL2 : L ≤ 30000) (hLc : L ≤ c) :
    Calls Try.prog 32 #[.pointer (some ⟨gs, 0, none⟩), .slice a L c] w fun e w' => ∃ d', e = .returned (.int .i64 0) ∧ DW (fun b => K b ∨ w.heap.size ≤ b) B w' g pg n d' p 0 ∧ d'.life = d.life ∧ Good d'.now b (cnt + 1) ∧ (∀ j, 238 ≤ j → d'.now.getD j Sec.nought = d.now.getD j Sec.nought) ∧ StA Bs w' gs g b (cnt + 1) ∧ StO w.heap.size w' gs g b (cnt + 1) ∧ d'.safe = d'.now ∧ Mod (SvF B gs) w w' := by
  obtain ⟨⟨E, d', p'⟩, hr⟩ : ∃ x, x = saveP d p cnt b (rowsS b) := ⟨_, rfl⟩
  obtain ⟨hok', hl', hpl', hcase, htr⟩ := saveP_law h.ok hn hp hl hG (by omega) hcnt hr.symm
  obtain ⟨rfl, rfl⟩ := htr ht
  have hr2 : saveP (d.wake p') p' cnt b (rowsS b) = (0, d', p') := by rw [wake_on hl]; exact hr.symm
  refine (ssave_any h hS (by omega) hn2 hm hp hcnt a c L b hsrc hL hL2 hLc hr2).mono ?_
  rintro e w' ⟨he, hd, hs, hso, hM⟩
  rcases hcase with ⟨_, _, hpd, hsn, hG', hfr⟩ | ⟨h5, _⟩
  · exact ⟨d', he, ⟨hd.disk, hd.pow, hd.ok, hd.base, by rw [hpd]; exact Nat.le_refl _⟩, hl', hG', hfr, hs, hso rfl, hsn, hM⟩
  · exact absurd h5 (by decide)
theorem good_new (n : Nat) : Good (DS.new 0 n).now [] 0 := Good.blank fun i _ => by
  show (List.replicate n Sec.nought).getD i Sec.nought = Sec.nought
  rw [List.getD_eq_getElem?_getD, List.getElem?_replicate]
  split <;> rfl
end Go.Proofs.Ytogcejmnhiphgaa
