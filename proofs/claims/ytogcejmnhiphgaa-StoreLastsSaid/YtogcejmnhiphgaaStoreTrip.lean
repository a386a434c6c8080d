/- Save while a cut may come, and Open behind it. -/
import Derived.Test.YtogcejmnhiphgaaStoreLaw
namespace Go.Proofs.Ytogcejmnhiphgaa
open Go.RowKit

/-- What Save leaves where a cut may have come. -/
structure Saved (K : Nat → Prop) (B Bs : Nat) (w w' : World) (gs g pg n : Nat) (d : DS) (p : PS) (m : Nat) (s : List Byte) (cnt : Nat) (b : List Byte) (d' : DS) (p' : PS) : Prop where
  dw : DW (fun b => K b ∨ w.heap.size ≤ b) B w' g pg n d' p' (m + 119)
  dlife : d'.life = d.life
  plife : p'.life = p.life
  mod : Mod (SvF B gs) w w'
theorem ssave_trip {K : Nat → Prop} {B Bs : Nat} {w : World} {gs g pg n : Nat} {d : DS} {p : PS} {m : Nat} {s : List Byte} {cnt : Nat} (h : DW K B w g pg n d p m) (hS : StA Bs w gs g s cnt) (hn : 300 ≤ n) (hn2 : n ≤ 100000) (hm : m ≤ 90000) (hp : p.off = false) (hl : d.life = p.life) (hG : Good d.now s cnt) (hsn : d.safe = d.now) (hpd : d.pend = []) (hcnt : cnt ≤ 1000000)
    (a : Option Addr) (c L : Nat) (b : List Byte) (hsrc : SrcS B w a (bvs b)) (hL : L = b.length) (hL2 : L ≤ 30000) (hLc : L ≤ c) :
    Calls Try.prog 32 #[.pointer (some ⟨gs, 0, none⟩), .slice a L c] w fun e w' => ∃ E d' p', e = .returned (.int .i64 E) ∧ Saved K B Bs w w' gs g pg n d p m s cnt b d' p' ∧
      (E = 0 ∧ p'.off = false ∧ d'.pend = [] ∧ d'.safe = d'.now ∧ Good d'.now b (cnt + 1) ∧ StA Bs w' gs g b (cnt + 1) ∧ StO w.heap.size w' gs g b (cnt + 1) ∨
       E = 5 ∧ p'.off = true ∧ ∀ q, Good (applyP q 0 d'.pend d'.safe) s cnt ∨ Good (applyP q 0 d'.pend d'.safe) b (cnt + 1)) := by
  obtain ⟨⟨E, d', p'⟩, hr⟩ : ∃ x, x = saveP d p cnt b (rowsS b) := ⟨_, rfl⟩
  obtain ⟨hok', hl', hpl', hcase, htr⟩ := saveP_law h.ok hn hp hl hG (by omega) hcnt hr.symm
  have hr2 : saveP (d.wake p) p cnt b (rowsS b) = (E, d', p') := by rw [wake_on hl]; exact hr.symm
  refine (ssave_any h hS (by omega) hn2 hm hp hcnt a c L b hsrc hL hL2 hLc hr2).mono ?_
  rintro e w' ⟨he, hd, hs, hso, hM⟩
  refine ⟨E, d', p', he, ⟨hd, hl', hpl', hM⟩, ?_⟩
  rcases hcase with ⟨rfl, h1, h2, h3, h4, _⟩ | ⟨rfl, h1, h2⟩
  · exact .inl ⟨rfl, h1, h2, h3, h4, hs, hso rfl⟩
  · exact .inr ⟨rfl, h1, h2 hsn hpd⟩
/-- A disk that is not awake yet. -/
theorem wake_off {d : DS} {p : PS} (hp : p.off = false) (hl : d.life ≠ p.life) : d.wake p = ⟨p.life, applyP p 0 d.pend d.safe, applyP p 0 d.pend d.safe, []⟩ := by
  unfold DS.wake
  rw [if_neg]
  rintro (h | h)
  · rw [hp] at h; cases h
  · exact hl h
theorem sopen_woken {K : Nat → Prop} {B : Nat} {w : World} {g pg n : Nat} {d : DS} {p : PS} {m : Nat} {s : List Byte} {cnt : Nat} (h : DW K B w g pg n d p m) (hn : 300 ≤ n) (hn2 : n ≤ 100000) (hm : m ≤ 100000) (hp : p.off = false) (hl : d.life ≠ p.life) (hG : Good (applyP p 0 d.pend d.safe) s cnt) :
    Calls Try.prog 30 #[.pointer (some ⟨g, 0, none⟩)] w fun e w' => ∃ gs d', e = .returned (.tuple #[.pointer (some ⟨gs, 0, none⟩), .int .i64 0]) ∧ StA w.heap.size w' gs g s cnt ∧ DW K B w' g pg n d' p 0 ∧ d'.life = p.life ∧ Good d'.now s cnt ∧ d'.safe = d'.now ∧ d'.pend = [] ∧ Mod (DF B) w w' := by
  have hwk := wake_off hp hl
  have hG' : Good (d.wake p).now s cnt := by rw [hwk]; exact hG
  have hop := hG'.open (h.ok.wake p) hn hp (by rw [hwk])
  refine (sopen_on h hn hn2 hm hp hop).mono ?_
  rintro e w' ⟨gs, he, hs, hd, hM⟩
  exact ⟨gs, _, he, hs, ⟨hd.disk, hd.pow, hd.ok, hd.base, by rw [hwk]; exact Nat.le_refl _⟩, by rw [hwk], hG', by rw [hwk], by rw [hwk], hM⟩
/-- What Trip is handed stays while the power's object is written. -/
theorem DW.armOwn {K : Nat → Prop} {B B' : Nat} {w : World} {g pg n : Nat} {d : DS} {p : PS} {m : Nat} (h : DW K B w g pg n d p m) {a : Option Addr} {k c : Nat} {l : List Bool} (ho : Own w B' 4 1 a k c (bovs l)) (v : Value) : Src (w.setCell ⟨pg, 4, none⟩ v) a (bovs l) := by
  obtain ⟨ka, kc, tp, ⟨_, hg⟩, _⟩ := h.pow
  exact (ho.store hg (by decide) setCell_ne).src
theorem DW.armArg {K : Nat → Prop} {w0 : World} {w : World} {g pg n : Nat} {d : DS} {p : PS} {m : Nat} (h : DW K w0.heap.size w g pg n d p m) {a : Option Addr} {l : List Bool} (hs : Src w0 a (bovs l)) (hb : Below w0.heap.size w0 w) (v : Value) : Src (w.setCell ⟨pg, 4, none⟩ v) a (bovs l) := by
  obtain ⟨ka, kc, tp, ⟨hp, hg⟩, _⟩ := h.pow
  exact hs.ext (hb.setCell hp v)
theorem bovs_set (l : List Bool) (i : Nat) (b : Bool) : (bovs l).set i (.bool b) = bovs (l.set i b) := by
  simp [bovs, List.map_set]
theorem flt_bool (l : List Bool) : flt (fun b : Bool => [Value.bool b]) l = bovs l := by
  induction l with
  | nil => rfl
  | cons b l ih => rw [flt_cons, ih]; rfl
end Go.Proofs.Ytogcejmnhiphgaa
