/- frame.Split; cellarerlaw06.wakes. -/
import Derived.Test.YtffcpjhokfjhfaaFrameRead
import Derived.Test.YtffcpjhokfjhfaaJoin
namespace Go.Proofs.Ytffcpjhokfjhfaa
open Go.RowKit

set_option maxRecDepth 100000

theorem infoRec : (Try.prog.info? 29).map (fun i => (i.zero, i.size, i.bytes)) = some (some (.agg #[.int .i64 0, .int .i64 0, .slice none 0 0]), 3, 40) := by kernel_rfl

/-- What is read ends behind it. -/
theorem readF_ok {l : List Byte} {p : Nat} {r : Rec} {nx : Int} (h : readF l (p : Int) = (r, nx, 0)) : nx = ((p + 13 + r.d.length : Nat) : Int) ∧ p + 13 + r.d.length ≤ l.length ∧ r.d.length ≤ 8000 := by
  have e0 : ((p : Int)).toNat = p := by simp
  unfold readF at h
  rw [e0] at h
  split at h
  · simp only [Prod.mk.injEq] at h; omega
  · split at h
    · simp only [Prod.mk.injEq] at h; omega
    · split at h
      · simp only [Prod.mk.injEq] at h; omega
      · next h3 =>
        have hlen : ((l.drop (p + 13)).take (numOf ((l.drop (p + 5)).take 4))).length = numOf ((l.drop (p + 5)).take 4) := by simp; omega
        split at h
        · simp only [Prod.mk.injEq, and_true] at h
          obtain ⟨rfl, h2⟩ := h
          simp only [hlen]
          exact ⟨h2.symm, by omega, by omega⟩
        · simp only [Prod.mk.injEq] at h; omega

/-- Records that lie in rows of the call's own. -/
structure OwnRecs (w : World) (B : Nat) (a : Option Addr) (c : Nat) (vs : List RecV) : Prop where
  row : Own w B 29 3 a vs.length c (rvs vs)
  dat : ∀ v ∈ vs, Own w B 5 1 v.d.a v.d.l.length v.d.c (bvs v.d.l)
theorem OwnRecs.ext {w w' : World} {B : Nat} {a : Option Addr} {c : Nat} {vs : List RecV} (h : OwnRecs w B a c vs) (hb : Below w.heap.size w w') : OwnRecs w' B a c vs :=
  ⟨h.row.ext hb, fun v hv => (h.dat v hv).ext hb⟩
theorem OwnRecs.mat {w : World} {B : Nat} {a : Option Addr} {c : Nat} {vs : List RecV} (h : OwnRecs w B a c vs) : RMat w a vs :=
  ⟨h.row.src, fun v hv => ⟨(h.dat v hv).src, by have := (h.dat v hv).len; simp only [maxLen] at this; omega⟩⟩
theorem OwnRecs.mono {w : World} {B B' : Nat} {a : Option Addr} {c : Nat} {vs : List RecV} (h : OwnRecs w B a c vs) (hB : B' ≤ B) : OwnRecs w B' a c vs :=
  ⟨h.row.mono hB, fun v hv => (h.dat v hv).mono hB⟩

set_option maxHeartbeats 4000000 in
theorem split_at (a : Option Addr) (L c : Nat) (l : List Byte) (rl : List Rec) (E : Int) (w : World) (hs : Src w a (bvs l)) (hL : L = l.length) (hc : L ≤ c) (hLm : L ≤ 1000000) (hR : splitF l = (rl, E)) :
    Calls Try.prog 27 #[.slice a L c] w fun e w' => ∃ a' c' vs, e = .returned (.tuple #[.slice a' vs.length c', .int .i64 E]) ∧ OwnRecs w' w.heap.size a' c' vs ∧ recs vs = rl ∧ Below w.heap.size w w' := by
  obtain ⟨i0, hi, hz0, hz1, hz2⟩ := info_parts infoRec
  have HL := Lib.hid hL
  have HR := Lib.hid hR
  clear hL hR
  go_enter Try.func27, Try.ntmps27
  go_wp2_with fail
  go_loopw [4, 5] (fun v i wr => ∃ (p fuel : Nat) (a' : Option Addr) (c' : Nat) (vs : List RecV), p ≤ L ∧ L ≤ p + fuel ∧ vs.length ≤ p ∧ i = .int .i64 p ∧ v = .slice a' vs.length c' ∧ OwnRecs wr w.heap.size a' c' vs ∧ Below w.heap.size w wr ∧ splitFrom l fuel p (recs vs) = (rl, E)) (fun _ i _ => L - (intOf i).toNat)
  case atStart => exact ⟨0, L, none, 0, [], by omega, by omega, by simp, rfl, rfl, ⟨Own.nil _ _ _ _ _, by simp⟩, Below.refl _ _, by have := HR.out; rw [splitF, ← HL.out] at this; exact this⟩
  case round =>
    rename_i wr
    obtain ⟨p, fuel, a', c', vs, hp, hf, hvl, rfl, rfl, hown, hbr, hsp⟩ := hrel
    by_cases hlt : p < L
    · obtain ⟨r, nx, e, hrd⟩ : ∃ r nx e, readF l (p : Int) = (r, nx, e) := ⟨_, _, _, rfl⟩
      have HRd := Lib.hid (frread_at a L c l (p : Int) r nx e wr (hs.ext hbr) HL.out hc (by omega) hrd)
      obtain ⟨f', rfl⟩ : ∃ f', fuel = f' + 1 := ⟨fuel - 1, by omega⟩
      rw [splitFrom, if_pos (by rw [← HL.out]; exact hlt), hrd] at hsp
      by_cases he0 : e = 0
      · subst he0
        rw [if_pos rfl] at hsp
        obtain ⟨rfl, hnx, hn8⟩ := readF_ok hrd
        have hsp : splitFrom l f' (((p + 13 + r.d.length : Nat) : Int)).toNat (recs vs ++ [r]) = (rl, E) := hsp
        rw [Int.toNat_natCast] at hsp
        rw [← HL.out] at hnx
        have Hsp := Lib.hid hsp
        clear hsp hrd
        go_wp2_with fail
        refine HRd.out.mono ?_
        rintro e w1 ⟨ad, cd, rfl, hod, hb1⟩
        have hown1 := hown.ext hb1
        have hbw1 := bthen hbr hb1 (Nat.le_refl _)
        have hod1 := hod.mono (base' := w.heap.size) hbr.size
        clear hown hod hb1 HRd
        obtain ⟨rv, hrv⟩ : ∃ rv : RecV, rv = ⟨r.kind, r.seq, ⟨ad, cd, r.d⟩⟩ := ⟨_, rfl⟩
        have hput := RecAt.put w1 #[.int .i64 0, .int .i64 0, .slice none 0 0] rfl rv
        have hbp := below_putr w1 #[.int .i64 0, .int .i64 0, .slice none 0 0] rv
        have hpl : rv.pl = r := by rw [hrv]; rfl
        have hod2 : Own w1 w.heap.size 5 1 rv.d.a rv.d.l.length rv.d.c (bvs rv.d.l) := by rw [hrv]; exact hod1
        have e1 : r.kind = rv.kind := by rw [hrv]
        have e2 : r.seq = rv.seq := by rw [hrv]
        have e3 : ad = rv.d.a := by rw [hrv]
        have e4 : cd = rv.d.c := by rw [hrv]
        have e5 : r.d = rv.d.l := by rw [hrv]
        rw [e1, e2, e3, e4, e5]
        rw [e5] at hn8 hnx Hsp
        clear e1 e2 e3 e4 e5 hod1 hrv
        obtain ⟨k0, k1, k2⟩ := hput.cells
        have hown2 := hown1.ext hbp
        have hod3 := hod2.ext hbp
        have hbw2 := bthen hbw1 hbp (Nat.le_refl _)
        clear hown1 hod2 hbw1 hbp hput
        have hsz2 : ((w1.alloc (.cells #[.int .i64 0, .int .i64 0, .slice none 0 0] 29)).setRow w1.heap.size #[.int .i64 rv.kind, .int .i64 rv.seq, .slice rv.d.a rv.d.l.length rv.d.c]).heap.size = w1.heap.size + 1 := by simp
        have hb23 := ext_alloc ((w1.alloc (.cells #[.int .i64 0, .int .i64 0, .slice none 0 0] 29)).setRow w1.heap.size #[.int .i64 rv.kind, .int .i64 rv.seq, .slice rv.d.a rv.d.l.length rv.d.c]) (.cells rv.cells.toArray 29)
        have hown3 := hown2.ext hb23
        have hod4 := hod3.ext hb23
        have hbw3 := bthen hbw2 hb23 (Nat.le_refl _)
        have hnew := src_new ((w1.alloc (.cells #[.int .i64 0, .int .i64 0, .slice none 0 0] 29)).setRow w1.heap.size #[.int .i64 rv.kind, .int .i64 rv.seq, .slice rv.d.a rv.d.l.length rv.d.c]) rv.cells 29
        rw [hsz2] at hnew
        clear hown2 hod3 hbw2 hb23
        go_wp2_with (first
          | refine wpList_store_row rfl rfl 29 (.tmp 6) (.tmp 17) rfl w1.heap.size rfl 29 #[.int .i64 0, .int .i64 0, .slice none 0 0] #[.int .i64 rv.kind, .int .i64 rv.seq, .slice rv.d.a rv.d.l.length rv.d.c] rfl (heap_alloc_new w1 _) rfl (by kernel_rfl) (by simp [Value.oneCell']) ?_
          | (refine wpList_appx rfl (.tmp 23) (.tmp 25) 22 rfl w.heap.size 29 i0 (.agg #[.int .i64 0, .int .i64 0, .slice none 0 0]) 3 40 Try.underlying22 hi hz0 hz1 hz2 rfl (by decide) a' vs.length c' (rvs vs) rfl hown3.row (some ⟨w1.heap.size + 1, 0, none⟩) 1 1 rv.cells rfl rfl hnew (by simpa [rvs] using rvs_one [rv]) (by unfold maxLen; omega) (by omega) hbw3.size ?_; intro a3 c3 w3 hown4 hb3 hfr))
        have hbw4 := hbw3.trans hb3
        have hodN : ∀ v ∈ vs ++ [rv], Own w3 w.heap.size 5 1 v.d.a v.d.l.length v.d.c (bvs v.d.l) := by
          intro v hv
          rcases List.mem_append.1 hv with h | h
          · exact (hown3.dat v h).other hown3.row (by decide) hfr
          · simp only [List.mem_singleton] at h
            subst h
            exact hod4.other hown3.row (by decide) hfr
        clear hown3 hod4 hbw3 hnew k0 k1 k2 hfr hb3
        go_roundw
        case rel =>
          refine ⟨p + 13 + rv.d.l.length, f', a3, c3, vs ++ [rv], by omega, by omega, by simp; omega, by go_num, by simp, ⟨?_, hodN⟩, hbw4, ?_⟩
          · rw [rvs_append, show rvs [rv] = rv.cells by simp [rvs]]
            simpa using hown4
          · rw [show recs (vs ++ [rv]) = recs vs ++ [r] by simp [recs, hpl]]
            exact Hsp.out
        case measure => simp [intOf]; omega
      · rw [if_neg he0] at hsp
        have hsp : (([] : List Rec), e) = (rl, E) := hsp
        simp only [Prod.mk.injEq] at hsp
        obtain ⟨hrl, hee⟩ := hsp
        have Hrl := Lib.hid hrl
        have Hee := Lib.hid hee
        have hne : ((e : Int) != 0) = true := by simpa using he0
        clear hrl hee hrd he0
        go_wp2_with fail
        refine HRd.out.mono ?_
        rintro e2 w1 ⟨ad, cd, rfl, hod, hb1⟩
        have hbp := below_putr w1 #[.int .i64 0, .int .i64 0, .slice none 0 0] ⟨r.kind, r.seq, ⟨ad, cd, r.d⟩⟩
        have hbw2 := bthen (bthen hbr hb1 (Nat.le_refl _)) hbp (Nat.le_refl _)
        clear hod hb1 HRd hbp
        go_wp2_with (refine wpList_store_row rfl rfl 29 (.tmp 6) (.tmp 17) rfl w1.heap.size rfl 29 #[.int .i64 0, .int .i64 0, .slice none 0 0] #[.int .i64 r.kind, .int .i64 r.seq, .slice ad r.d.length cd] rfl (heap_alloc_new w1 _) rfl (by kernel_rfl) (by simp [Value.oneCell']) ?_)
        go_ret2
        exact ⟨none, 0, [], by rw [← Hee.out]; rfl, ⟨Own.nil _ _ _ _ _, by simp⟩, Hrl.out, hbw2⟩
    · have hfin : (recs vs, (0 : Int)) = (rl, E) := by
        rw [← hsp]
        cases fuel with
        | zero => rfl
        | succ f => rw [splitFrom, if_neg (by rw [← HL.out]; exact hlt)]
      simp only [Prod.mk.injEq] at hfin
      obtain ⟨h1, h2⟩ := hfin
      have H1 := Lib.hid h1
      have H2 := Lib.hid h2
      clear h1 h2 hsp
      go_wp2
      go_ret2
      exact ⟨a', c', vs, by rw [← H2.out]; rfl, hown, H1.out, hbr⟩
end Go.Proofs.Ytffcpjhokfjhfaa
