/- aggr.Pack. -/
import Derived.Test.YtclkkhpnnbkfmaaVolumeBackPartR
import Derived.Test.YtclkkhpnnbkfmaaVolumeBackPartE
import Derived.Test.YtclkkhpnnbkfmaaRegionR
import Derived.Test.YtclkkhpnnbkfmaaVolumeBackPartH
import Derived.RangeFuncWrites
import Derived.RangeFuncBox
import Derived.Laws.ResultCell
namespace Go.Proofs.Ytclkkhpnnbkfmaa
open Go.RowKit Go.Shelf

attribute [local go_sem] Oper.semAt_some

theorem results_cell3s {P : Program} {fn : Func} {p u v : Tmp} {ty : TypeId} (h : fn.results = #[.cell p ty, .tmp u, .tmp v]) (tmps : Array Value) (w : World) (g : Nat) (t : TypeId) (x : Value) (e : TypeId)
    (hp : tmps.getD p undef = .pointer (some ⟨g, 0, none⟩)) (hg : w.cell? ⟨g, 0, none⟩ = some x) (hu : P.underlying ty = some (.slice e)) :
    (results fn tmps).run P w = .ok (.tuple #[x, tmps.getD u undef, tmps.getD v undef]) w := by
  have hp' : tmps[p]?.getD undef = .pointer (some ⟨g, 0, none⟩) := by simpa using hp
  have hagg : (isAgg ty).run P w = .ok false w := by simp [isAgg, run_underlying hu]
  simp [results, h, hp', asAddr, loadVar, hagg, Sem.run_bind, Result.andThen, go_sem, hg]
theorem infoIntB : (Try.prog.info? 3).map (fun i => (i.zero, i.size, i.bytes)) = some (some (.int .i64 0), 1, 8) := by kernel_rfl
/-- The k-th of the rows of n bytes. -/
def rowC (l : List Byte) (n k : Nat) : List Byte := (l.drop (k * n)).take n
def rowsC (l : List Byte) (n : Nat) : List (List Byte) := (List.range ((l.length + n - 1) / n)).map (rowC l n)
def offP (l : List Rec) (k : Nat) : Nat := 13 + (joinB (l.take k)).length
def offsP (l : List Rec) : List Int := (List.range l.length).map fun k => ((offP l k : Nat) : Int)
theorem own_grown {w w' : World} {B : Nat} {e : TypeId} {k : Nat} {a : Option Addr} {n c : Nat} {xs : List Value} {row : Option Nat} (h : Own w B e k a n c xs) (hg : w.grownBy w' row) (hr : ∀ r, row = some r → ∃ o : Obj, w.heap[r]? = some o ∧ o.isCells = false) : Own w' B e k a n c xs := by
  obtain ⟨hl, h0 | ⟨g, cur, ha, hb, hh, rest⟩⟩ := h
  · exact ⟨hl, .inl h0⟩
  · refine ⟨hl, .inr ⟨g, cur, ha, hb, ?_, rest⟩⟩
    rw [hg.block g (heap_lt hh) (by
      rintro e
      obtain ⟨o, ho, hc⟩ := hr g e.symm
      rw [hh] at ho
      cases ho
      cases hc)]
    exact hh
theorem setCell_ne' {w : World} {g i : Nat} {v : Value} (b : Nat) (hb : b ≠ g) : (w.setCell ⟨g, i, none⟩ v).heap[b]? = w.heap[b]? := Below.heap_setCell w ⟨g, i, none⟩ v b hb
theorem own_keepB {w w' : World} {B : Nat} {e : TypeId} {k : Nat} {a : Option Addr} {n c : Nat} {xs : List Value} (h : Own w B e k a n c xs) (hb : ∀ b, B ≤ b → b < w.heap.size → w'.heap[b]? = w.heap[b]?) : Own w' B e k a n c xs := by
  obtain ⟨hl, h0 | ⟨g, cur, ha, hB, hh, rest⟩⟩ := h
  · exact ⟨hl, .inl h0⟩
  · exact ⟨hl, .inr ⟨g, cur, ha, hB, (hb g hB (heap_lt hh)).trans hh, rest⟩⟩
theorem bodyM_ret {F : Fence} {n : Nat} {P : Program} {fn : Func} {R : Ending → World → Prop} {a : Act} {w : World} {v : Value} (hr : (results fn a.tmps).run P w = .ok v w) (hd : a.defers = []) (h : R (.returned v) w) : bodyPostM F n P fn R .ret a w := by
  show LeavesInM F n P fn a.tmps R a.defers .returning w
  rw [hd]
  exact ⟨_, hr, h⟩
theorem offP_succ {l : List Rec} {k : Nat} (h : k < l.length) : offP l (k + 1) = offP l k + (13 + l[k].d.length) := by
  unfold offP
  rw [List.take_succ_eq_append_getElem h, joinB_snoc, List.length_append, frameOf_length]
  omega
theorem offP_le (l : List Rec) (h : ∀ r ∈ l, r.e = 0) (k : Nat) : offP l k ≤ 13 + 8013 * l.length := by
  unfold offP
  have := joinB_le (l.take k) (fun r hr => h r (List.mem_of_mem_take hr))
  rw [List.length_take] at this
  have h2 : min k l.length ≤ l.length := Nat.min_le_right _ _
  have := Nat.mul_le_mul_left 8013 h2
  omega
/-- What Pack tells: the rows, where each record stands. -/
structure PackR (w' : World) (B : Nat) (rows : List (List Byte)) (of : List Int) (aB : Option Addr) (m cB : Nat) (aO : Option Addr) (no cO : Nat) (bs : List Bsl) : Prop where
  own : Own w' B 50 1 aB m cB (bs.map Bsl.val)
  rows : bs.map Bsl.l = rows
  dat : ∀ p ∈ bs, Own w' B 5 1 p.a p.l.length p.c (bvs p.l)
  offs : Own w' B 3 1 aO no cO (ivs of)
def packP (size : Int) (l : List Rec) : List (List Byte) × List Int × Int :=
  if (wholeP size l).2 ≠ 0 then ([], [], (wholeP size l).2) else (rowsC (wholeP size l).1 size.toNat, offsP l, 0)

theorem infoRowB : (Try.prog.info? 50).map (fun i => (i.zero, i.size, i.bytes)) = some (some (.slice none 0 0), 1, 24) := by kernel_rfl
abbrev RF (B : Nat) : Nat → TypeId → Prop := fun b T => T = 50 ∧ B ≤ b
abbrev RG (B g : Nat) : Nat → TypeId → Prop := fun b T => (T = 50 ∧ B ≤ b) ∨ (b = g ∧ T = 125)
theorem Mod.keepsFrom {F : Nat → TypeId → Prop} {w w' : World} (h : Mod F w w') (B : Nat) : KeepsFrom B w w' := by
  refine ⟨h.size, fun k o _ hk ho => ?_⟩
  rcases h.block k (heap_lt hk) with h1 | ⟨cs, cs', T, _, h1, _⟩
  · exact h1.trans hk
  · rw [hk] at h1
    cases h1
    cases ho
theorem Mod.same {F : Nat → TypeId → Prop} {w w' : World} (h : Mod F w w') {b : Nat} (hb : b < w.heap.size) (hF : ∀ T, ¬ F b T) : w'.heap[b]? = w.heap[b]? := by
  rcases h.block b hb with h1 | ⟨cs, cs', T, hf, _⟩
  · exact h1
  · exact absurd hf (hF T)
/-- Between two rounds. -/
structure PackI (w3 : World) (g x2 : Nat) (l : List Byte) (n : Nat) (pre : List Nat) (W : World) : Prop where
  os : W.os = w3.os
  tape : W.tape = w3.tape
  output : W.output = w3.output
  size : w3.heap.size ≤ W.heap.size
  block : ∀ b, b < w3.heap.size → b ≠ g → W.heap[b]? = w3.heap[b]?
  rows : ∃ (aB : Option Addr) (cB : Nat) (bs : List Bsl), W.heap[g]? = some (.cells #[.slice aB pre.length cB] 125 (0, 0)) ∧ Own W w3.heap.size 50 1 aB pre.length cB (bs.map Bsl.val) ∧ bs.map Bsl.l = pre.map (rowC l n) ∧ ∀ p ∈ bs, Own W w3.heap.size 5 1 p.a p.l.length p.c (bvs p.l)
  src : Src W (some ⟨x2, 0, none⟩) (bvs l)
theorem PackI_start {w3 : World} {g x2 : Nat} {l : List Byte} {n : Nat} (hg : w3.heap[g]? = some (.cells #[.slice none 0 0] 125 (0, 0))) (hs : Src w3 (some ⟨x2, 0, none⟩) (bvs l)) : PackI w3 g x2 l n [] w3 :=
  ⟨rfl, rfl, rfl, Nat.le_refl _, fun _ _ _ => rfl, ⟨none, 0, [], hg, Own.nil _ _ _ _ _, rfl, by simp⟩, hs⟩
theorem PackI_own (w3 : World) (g x2 : Nat) (l : List Byte) (n : Nat) : OwnFrom w3.heap.size (fun pre W => PackI w3 g x2 l n pre W) := by
  rintro pre W W' row ⟨h1, h2, h3, h4, h5, ⟨aB, cB, bs, hg, ho, hl, hd⟩, hs⟩ hG hr
  have hne : ∀ b o, W.heap[b]? = some o → o.isCells = true → row ≠ some b := fun b o hb hc e => by
    obtain ⟨_, o', ho', hc'⟩ := hr b e
    rw [hb] at ho'
    cases ho'
    rw [hc] at hc'
    cases hc'
  have hr' : ∀ r, row = some r → ∃ o : Obj, W.heap[r]? = some o ∧ o.isCells = false := fun r e => (hr r e).2
  refine ⟨hG.os.trans h1, hG.tape.trans h2, hG.output.trans h3, Nat.le_trans h4 hG.size, fun b hb hbg => ?_, ⟨aB, cB, bs, ?_, own_grown ho hG hr', hl, fun p hp => own_grown (hd p hp) hG hr'⟩, ?_⟩
  · rw [hG.block b (by omega) (fun e => by have := (hr b e.symm).1; omega)]
    exact h5 b hb hbg
  · rw [hG.block g (heap_lt hg) (fun e => hne g _ hg rfl e.symm)]
    exact hg
  · rcases hs with h | ⟨b, o, cs, T, m, ha, hh, ht⟩
    · exact .inl h
    · exact .inr ⟨b, o, cs, T, m, ha, (hG.block b (heap_lt hh) (fun e => hne b _ hh rfl e.symm)).trans hh, ht⟩

set_option maxRecDepth 100000 in
set_option maxHeartbeats 8000000 in
theorem pack_at (size : Int) (a : Option Addr) (c n : Nat) (rs : List RecV) (rows : List (List Byte)) (of : List Int) (E : Int) (w : World) (ha : RMat w a rs) (hn : n = rs.length) (hl : n ≤ 9223372036854775807) (hR : packP size (recs rs) = (rows, of, E)) :
    Calls Try.prog 74 #[.int .i64 size, .slice a n c] w fun e w' => ∃ aB m cB aO no cO bs, e = .returned (.tuple #[.slice aB m cB, .slice aO no cO, .int .i64 E]) ∧ PackR w' w.heap.size rows of aB m cB aO no cO bs ∧ Below w.heap.size w w' := by
  obtain ⟨i0, hi, hz0, hz1, hz2⟩ := info_parts infoIntB
  obtain ⟨⟨l, E0⟩, hW⟩ : ∃ x, x = wholeP size (recs rs) := ⟨_, rfl⟩
  obtain ⟨L, hL⟩ : ∃ n, l.length = n := ⟨_, rfl⟩
  have hok := wholeP_ok (size := size) (l := recs rs)
  unfold packP at hR
  rw [← hW] at hR hok
  dsimp only at hR hok
  have HR := Lib.hid hR
  have hb0 := ext_alloc w (.cells #[.slice none 0 0] 125)
  have hg0 := heap_alloc_new w (.cells #[.slice none 0 0] 125)
  have HW := Lib.hid (whole_at size a c n rs l E0 L _ (ha.ext hb0) hn hl hW.symm hL)
  have HA := Lib.hid ha
  have HN := Lib.hid hn
  have Hok := Lib.hid hok
  have HL := Lib.hid hL
  have HB0 := Lib.hid hb0
  have HG0 := Lib.hid hg0
  have hgl := heap_lt hg0
  clear ha hn hR hok hW hL hb0 hg0
  refine callsIn_wide.1 (callsIn_of_wp_marks (n := 3) Try.func74 rfl trivial ?_ rfl)
  simp only [Try.ntmps74, List.size_toArray, List.length_cons, List.length_nil, Nat.reduceAdd, Nat.reduceSub, Array.replicate_succ, Array.replicate_zero, List.push_toArray, List.append_toArray, List.nil_append, List.cons_append]
  refine wpIn_wide.2 ?_
  go_wp2_with fail
  refine HW.out.mono ?_
  rintro e w2 ⟨a2, c2, rfl, ho2, hb2⟩
  have HB2 := Lib.hid (bthen HB0.out hb2 (Nat.le_refl _))
  have HG2 := Lib.hid ((hb2.block _ hgl).trans HG0.out)
  have HO2 := Lib.hid (ho2.mono HB0.out.size)
  clear hb2 ho2 HW HB0 HG0
  by_cases hE : E0 ≠ 0
  · have hR := HR.out
    rw [if_pos hE] at hR
    simp only [Prod.mk.injEq] at hR
    obtain ⟨rfl, rfl, rfl⟩ := hR
    have hE' : (E0 != 0) = true := by simpa using hE
    have k0 := cell_of_row w2 w.heap.size 0 _ _ _ HG2.out
    have hfz := frozen_of_row w2 w.heap.size 0 _ _ HG2.out
    have hg3 := heap_setCell_same w2 w.heap.size 0 _ _ (.slice none 0 0) HG2.out
    have k3 := cell_of_row _ w.heap.size 0 _ _ _ hg3
    have Hb3 : Hid (Below w.heap.size w (w2.setCell ⟨w.heap.size, 0, none⟩ (.slice none 0 0))) := Lib.hid (HB2.out.setCell (p := ⟨w.heap.size, 0, none⟩) (Nat.le_refl _) _)
    have K3 := Lib.hid k3
    clear hE hg3 k3
    go_wp2
    refine bodyM_ret (results_cell3s (p := 4) (u := 5) (v := 6) rfl _ _ w.heap.size 125 _ _ rfl K3.out Try.underlying125) rfl ?_
    exact ⟨none, 0, 0, none, 0, 0, [], rfl, ⟨Own.nil _ _ _ _ _, rfl, by simp, Own.nil _ _ _ _ _⟩, Hb3.out⟩
  · have hE : E0 = 0 := by simpa using hE
    subst hE
    obtain ⟨hsz, hn64, hjE, _, hlB⟩ := Hok.out rfl
    obtain ⟨sz, rfl⟩ := Int.eq_ofNat_of_zero_le (show 0 ≤ size by omega)
    rw [recs_length, ← HN.out] at hn64
    have hlB : l = joinB (aggrL (recs rs)) := hlB
    have hall := joinE_ok.1 hjE
    have hok3 : ∀ r ∈ recs rs, r.e = 0 := fun r hr => hall r (List.mem_cons_of_mem _ (List.mem_append_left _ hr))
    have hd8 : ∀ r ∈ rs, r.d.l.length ≤ 8000 := fun r hr => (recE_ok.1 (hok3 r.pl (List.mem_map.2 ⟨r, hr, rfl⟩))).2.2.2.2
    have hLle : L ≤ 8013 * 66 := by
      have := aggrL_len _ hjE
      rw [← hlB, HL.out, recs_length, ← HN.out] at this
      omega
    have hR := HR.out
    rw [if_neg (by simp), Int.toNat_natCast] at hR
    have hR : rowsC l sz = rows ∧ offsP (recs rs) = of ∧ (0 : Int) = E := by simpa using hR
    obtain ⟨hrw, hof, rfl⟩ := hR
    have Hrw := Lib.hid hrw
    have Hof := Lib.hid hof
    have Hd8 := Lib.hid hd8
    have Hok3 := Lib.hid hok3
    have HlB := Lib.hid hlB
    clear hrw hof hd8 hok3 hall hlB hjE HR Hok
    go_wp2_with fail
    go_loopw [5, 8, 23] (fun ov av i wx => ∃ (k : Nat) (aO : Option Addr) (cO : Nat) (wr : World), wr = wx ∧ k ≤ n ∧ ov = .slice aO k cO ∧ av = .int .i64 ((offP (recs rs) k : Nat) : Int) ∧ i = .int .i64 (k : Int) ∧ Own wr w2.heap.size 3 1 aO k cO (ivs ((List.range k).map fun j => ((offP (recs rs) j : Nat) : Int))) ∧ Below w2.heap.size w2 wr) (fun _ _ i _ => n - (intOf i).toNat)
    case atStart => exact ⟨0, none, 0, _, rfl, by omega, rfl, rfl, rfl, Own.nil _ _ _ _ _, Below.refl _ _⟩
    case round =>
      obtain ⟨k, aO, cO, wr, hwr, hk, rfl, rfl, rfl, hO, hbr⟩ := hrel
      subst hwr
      have HO := Lib.hid hO
      have HBr := Lib.hid hbr
      have hofk : offP (recs rs) k ≤ 1000000 := by
        have := offP_le (recs rs) Hok3.out k
        rw [recs_length, ← HN.out] at this
        omega
      obtain ⟨q, hq⟩ : ∃ q, q = offP (recs rs) k := ⟨_, rfl⟩
      rw [← hq] at hofk ⊢
      have Hq := Lib.hid hq
      clear hO hbr hq
      by_cases hkn : k < n
      · have hkr : k < rs.length := by rw [← HN.out]; exact hkn
        obtain ⟨b, o, rfl, hlb, hat⟩ := HA.out.at hkr
        obtain ⟨q0, q1, q2⟩ := hat k hkr
        have hdl := Hd8.out _ (List.getElem_mem hkr)
        have hoS := offP_succ (l := recs rs) (k := k) (by rw [recs_length]; exact hkr)
        have hrl : (recs rs)[k]'(by rw [recs_length]; exact hkr) = rs[k].pl := by simp [recs]
        rw [hrl, ← Hq.out] at hoS
        generalize rs[k] = x at *
        obtain ⟨xk, xs, xa, xc, xl⟩ := x
        have hoS : offP (recs rs) (k + 1) = q + (13 + xl.length) := hoS
        dsimp only at q0 q1 q2 hdl
        obtain ⟨m, hm⟩ : ∃ m, m = xl.length := ⟨_, rfl⟩
        rw [← hm] at q2 hdl hoS
        have hB2 := bthen HB2.out (HBr.out.mono (Nat.le_refl _)) (Nat.le_refl _)
        have c0 := (World.cell?_of_block (w := w) (a := ⟨b, o + k * 3, none⟩) (hB2.block b hlb)).trans q0
        have c1 := (World.cell?_of_block (w := w) (a := ⟨b, o + k * 3 + 1, none⟩) (hB2.block b hlb)).trans q1
        have c2' := (World.cell?_of_block (w := w) (a := ⟨b, o + k * 3 + 2, none⟩) (hB2.block b hlb)).trans q2
        have hg1 := heap_alloc_new wr (.cells #[.int .i64 0, .int .i64 0, .slice none 0 0] 54)
        have hg2 := setRow_heap _ wr.heap.size _ #[.int .i64 xk, .int .i64 xs, .slice xa m xc] _ _ hg1
        have hb1 := bsetRow (ext_alloc wr (.cells #[.int .i64 0, .int .i64 0, .slice none 0 0] 54)) (Nat.le_refl _) #[.int .i64 xk, .int .i64 xs, .slice xa m xc]
        have hb2 := ext_alloc ((wr.alloc (.cells #[.int .i64 0, .int .i64 0, .slice none 0 0] 54)).setRow wr.heap.size #[.int .i64 xk, .int .i64 xs, .slice xa m xc]) (.cells #[.int .i64 (q : Int)] 3)
        have hg3 := (hb2.block _ (heap_lt hg2)).trans hg2
        have hbb := bthen hb1 hb2 (Nat.le_refl _)
        have hsz2 := Nat.le_trans HBr.out.size hbb.size
        have hsrc := src_new ((wr.alloc (.cells #[.int .i64 0, .int .i64 0, .slice none 0 0] 54)).setRow wr.heap.size #[.int .i64 xk, .int .i64 xs, .slice xa m xc]) [.int .i64 (q : Int)] 3
        have hsz1 : ((wr.alloc (.cells #[.int .i64 0, .int .i64 0, .slice none 0 0] 54)).setRow wr.heap.size #[.int .i64 xk, .int .i64 xs, .slice xa m xc]).heap.size = wr.heap.size + 1 := by simp
        rw [hsz1] at hsrc
        clear hsz1
        have HoS := Lib.hid hoS
        have HS := Lib.hid hsrc
        have HO1 := Lib.hid (HO.out.ext hbb)
        have HBB := Lib.hid hbb
        have HG3 := Lib.hid hg3
        clear hat q0 q1 q2 hrl hoS hB2 hsrc hbb hb1 hb2 hg2 hg3 hm
        go_wp2_with first
          | (refine wpList_store_row rfl rfl 54 (.tmp 10) (.tmp 26) rfl wr.heap.size rfl 54 #[.int .i64 0, .int .i64 0, .slice none 0 0] #[.int .i64 xk, .int .i64 xs, .slice xa m xc] rfl hg1 rfl (by kernel_rfl) (by simp [Value.oneCell']) ?_)
          | (refine wpList_appm rfl (.tmp 27) (.tmp 29) 41 rfl w2.heap.size 3 i0 (.int .i64 0) 1 8 Try.underlying41 hi hz0 hz1 hz2 rfl (by decide) aO k cO (ivs ((List.range k).map fun j => ((offP (recs rs) j : Nat) : Int))) rfl HO1.out (some ⟨wr.heap.size + 1, 0, none⟩) 1 1 [.int .i64 (q : Int)] rfl rfl HS.out (by simp [Value.oneCell']) (by unfold maxLen; omega) (by omega) hsz2 ?_; intro a4 c4 w4 hA4; have hm4 : Mod (fun _ T => T = 3) _ w4 := hA4.mod _ fun _ _ _ _ => rfl; have e2 := cell_of_row w4 wr.heap.size 2 _ _ _ (hm4.keep HG3.out (fun h => absurd (show 54 = 3 from h) (by decide))); clear hm4)
          | fail
        have HO4 : Hid (Own w4 w2.heap.size 3 1 a4 (k + 1) c4 (ivs ((List.range (k + 1)).map fun j => ((offP (recs rs) j : Nat) : Int)))) := Lib.hid (by
          have := hA4.own
          rw [List.range_succ, List.map_append]
          unfold ivs at this ⊢
          rw [List.map_append]
          have hq := Hq.out
          subst hq
          exact this)
        have HB4 := Lib.hid ((bthen HBr.out HBB.out (Nat.le_refl _)).trans hA4.below)
        clear hA4 HO1 HO HBr HBB HS HG3 e2 hsz2 hg1
        go_roundw
        case rel => exact ⟨k + 1, a4, c4, _, rfl, by omega, rfl, by rw [HoS.out]; go_num, by go_num, HO4.out, HB4.out⟩
        case measure => simp [intOf]; omega
      · obtain rfl : n = k := by omega
        clear Hq
        have hL26 : 26 ≤ L := by
          rw [← HL.out, HlB.out]
          unfold aggrL
          rw [joinB_cons, joinB_snoc, List.length_append, List.length_append, frameOf_length, frameOf_length]
          omega
        obtain ⟨x2, rfl⟩ : ∃ x, a2 = some ⟨x, 0, none⟩ := by
          obtain ⟨_, h0 | ⟨g', cur, ha, _⟩⟩ := HO2.out
          · omega
          · exact ⟨g', ha⟩
        have hszn : (1 : Nat) ≤ sz := by omega
        go_wp2_with fail
        refine (chunk_any (some ⟨x2, 0, none⟩) L c2 sz wr hszn).mono ?_
        rintro e w3 ⟨rfl, hw3⟩
        have hb3a := ext_alloc wr (.cells #[.slice (some ⟨x2, 0, none⟩) L c2] 50)
        have hb3b := ext_alloc (wr.alloc (.cells #[.slice (some ⟨x2, 0, none⟩) L c2] 50)) (.cells #[.int .i64 (sz : Int)] 3)
        have hB1 := (hb3b.block _ (heap_lt (heap_alloc_new wr (.cells #[.slice (some ⟨x2, 0, none⟩) L c2] 50)))).trans (heap_alloc_new wr _)
        have hB2 := heap_alloc_new (wr.alloc (.cells #[.slice (some ⟨x2, 0, none⟩) L c2] 50)) (.cells #[.int .i64 (sz : Int)] 3)
        rw [World.size_alloc] at hB2
        have hb3 := bthen hb3a hb3b (Nat.le_refl _)
        have hs3 : w3.heap.size = wr.heap.size + 2 := by rw [hw3]; simp
        rw [← hw3] at hB1 hB2 hb3
        have hb23 := bthen HBr.out hb3 (Nat.le_refl _)
        have HB3 := Lib.hid (bthen HB2.out hb23 (Nat.le_refl _))
        have hG3 := (hb23.block _ (heap_lt HG2.out)).trans HG2.out
        have hO3 := HO2.out.ext hb23
        have hF3 := HO.out.ext hb3
        have hx2 : x2 < w3.heap.size ∧ x2 ≠ w.heap.size := by
          obtain ⟨_, hlt, cur, hh⟩ := hO3.blk (by omega)
          refine ⟨hlt, fun e => ?_⟩
          rw [e, hG3] at hh
          simp only [Option.some.injEq, Obj.cells.injEq] at hh
          exact absurd hh.2.1 (by decide)
        have hwl := heap_lt HG2.out
        have hwr : w.heap.size < wr.heap.size := Nat.lt_of_lt_of_le (heap_lt HG2.out) HBr.out.size
        clear hw3 hb3a hb3b hb3 hb23 HO2 HO HG2
        go_wp2_with fail
        refine (wpIn_wide (n := 3)).1 ?_
        refine wpIn_rangeFunc_ownG (F := Fence.wide) (n := 3) rfl (by decide) (gf := 137) (lb := #[.pointer (some ⟨wr.heap.size, 0, none⟩), .pointer (some ⟨wr.heap.size + 1, 0, none⟩)]) rfl trivial (enters_of Try.func137 (by kernel_rfl) rfl)
          (chunk_stops 2 (by decide) wr.heap.size (wr.heap.size + 1) L c2 sz (some ⟨x2, 0, none⟩) (bvs l) w3 hO3.src (by rw [bvs_length]; exact HL.out) hszn (by omega) hO3.len.1 (by omega) w3 _ _ hB1 hB2) KpC.trans (KpC.put (by omega) (by omega)) (Below.refl _ _) (fun _ => rfl)
          (fun pre W => PackI w3 w.heap.size x2 l sz pre W)
          (fun _ _ _ => False) (PackI_own _ _ _ _ _) (fun _ _ _ _ _ hs _ _ => hs) (PackI_start hG3 hO3.src)
          (fun x => { tmps := #[.int .i64 (sz : Int), .slice a n c, undef, undef, .pointer (some ⟨w.heap.size, 0, none⟩), .slice aO n cO, .int .i64 0, .slice (some ⟨x2, 0, none⟩) L c2, .int .i64 (q : Int), undef, u10, chunkV x2 0 L sz x, .tuple #[.slice (some ⟨x2, 0, none⟩) L c2, .int .i64 0], .int .i64 (sz : Int), .slice a n c, .tuple #[.slice (some ⟨x2, 0, none⟩) L c2, .int .i64 0], .slice (some ⟨x2, 0, none⟩) L c2, .int .i64 0, .int .i64 0, .bool false, undef, .slice a n c, .int .i64 (n : Int), .int .i64 (n : Int), .bool false, u25, u26, u27, u28, u29, u30, u31, u32, u33, u34, u35, u36, u37, .slice (some ⟨x2, 0, none⟩) L c2, .int .i64 (sz : Int), .func (.func 137) #[] #[.pointer (some ⟨wr.heap.size, 0, none⟩), .pointer (some ⟨wr.heap.size + 1, 0, none⟩)], chunkV x2 0 L sz x, undef, undef, undef, undef, undef, undef, undef], defers := [] }) ?assign ?body ?done ?stop
        case assign =>
          intro l0 x W K hK
          gi_wp2
          exact hK
        case body =>
          rintro l0 pre x W ⟨h1, h2, h3, h4, h5, ⟨aB, cB, bs, hg, ho, hlr, hd⟩, hs⟩ hlt
          have hc := cell_of_row W w.heap.size 0 _ _ _ hg
          have hfz := frozen_of_row W w.heap.size 0 _ _ hg
          obtain ⟨i1, hr1, hr2, hr3, hr4⟩ := info_parts infoRowB
          have hTB : ¬ (RF w3.heap.size w.heap.size 125) := by rintro ⟨h, _⟩; revert h; decide
          obtain ⟨m, hm⟩ : ∃ m, m = min sz (L - x * sz) := ⟨_, rfl⟩
          obtain ⟨pl, hpl⟩ : ∃ pl, pl = pre.length := ⟨_, rfl⟩
          rw [← hpl] at hg ho hlt
          have hrl : m = (rowC l sz x).length := by unfold rowC; rw [List.length_take, List.length_drop, HL.out]; exact hm
          have hsx : Src W (some ⟨x2, x * sz, none⟩) (bvs (rowC l sz x)) := by
            have := hs.sub (x * sz) sz
            unfold rowC
            rw [bvs_take, bvs_drop]
            rw [Nat.zero_add] at this
            exact this
          have hcv : chunkV x2 0 L sz x = .slice (some ⟨x2, x * sz, none⟩) m m := by unfold chunkV; rw [← hm, Nat.zero_add]
          dsimp only
          rw [hcv]
          have Hrl := Lib.hid hrl
          have Hsx := Lib.hid hsx
          have Hpl := Lib.hid hpl
          have hm2 : m ≤ 256 := by omega
          have hlt2 : pl ≤ 1000000 := by
            have h1 : (L + sz - 1) / sz ≤ L + sz - 1 := Nat.div_le_self _ _
            omega
          have hc := cell_of_row W w.heap.size 0 _ _ _ hg
          clear hm hrl hcv hsx hpl hlt
          gi_wp2_with fail
          refine wpR_region_chainL (by kernel_rfl) [2, 3, 4, 5] (Mod.rel (RF w3.heap.size)) [SpT.eq (.slice aB pl cB), SpT.eq (.slice (some ⟨x2, x * sz, none⟩) m m), SpT.top, SpT.top, SpT.top, SpT.top] (by kernel_rfl) (by kernel_rfl) (by kernel_rfl) (by kernel_rfl) (by kernel_rfl) ?_ ?_
          · refine stepsL_free rfl ?_ (stepsL_free rfl ?_ (stepsL_chain rfl (stepsL_chain rfl (stepsL_chain rfl (stepsL_chain rfl (stepsL_nil))))))
            · intro ρ w' E
              have e4 : ρ (.tmp 4) = .pointer (some ⟨w.heap.size, 0, none⟩) := E.out 4 rfl
              refine step_plain rfl ?_
              refine op_val (v := .slice aB pl cB) (w' := w') ?_ ⟨Below.refl _ _, rfl⟩
              have hk : w'.cell? ⟨w.heap.size, 0, none⟩ = some (.slice aB pl cB) := (World.cell?_of_block (w := W) ((E.t.keep hg hTB).trans hg.symm)).trans hc
              have hcon := E.con
              clear E hc
              go_simp
            · intro ρ w' E
              have e11 : ρ (.tmp 11) = .slice (some ⟨x2, x * sz, none⟩) m m := E.out 11 rfl
              refine step_plain rfl ?_
              exact op_move (.inl rfl) e11 ⟨Below.refl _ _, rfl⟩
          · intro ρ1 w1c G1 E1
            have e43 : ρ1 (.tmp 43) = .slice (some ⟨x2, x * sz, none⟩) m m := E1.pre 1 rfl rfl
            refine step_plain rfl ?_
            refine op_call (f := 81) (args := #[.slice (some ⟨x2, x * sz, none⟩) m m]) (w' := w1c) (by have hcon := E1.con; have hfn := E1.fn; clear E1 hc; go_simp) ?_
            refine (clone_at (some ⟨x2, x * sz, none⟩) m m (rowC l sz x) w1c (Hsx.out.ext G1) Hrl.out (by omega)).mono ?_
            rintro e wx1 ⟨ad, cd, rfl, hod, hbd⟩
            refine ⟨_, rfl, bmod hbd _, ?_⟩
            intro ρ2 w2c G2 E2
            have e44 : ρ2 (.tmp 44) = .slice ad m cd := E2.chn 2 44 rfl rfl rfl
            refine step_plain rfl ?_
            refine op_val (v := .slice (some ⟨w2c.heap.size, 0, none⟩) 1 1) (w' := w2c.alloc (.cells #[.slice ad m cd] 50)) (by have hcon := E2.con; clear E2 hc; go_simp) ⟨bmod (ext_alloc _ _) _, ?_⟩
            intro ρ3 w3c G3 E3
            have e42 : ρ3 (.tmp 42) = .slice aB pl cB := E3.pre 0 rfl rfl
            have e45 : ρ3 (.tmp 45) = .slice (some ⟨w2c.heap.size, 0, none⟩) 1 1 := E3.chn 3 45 rfl rfl rfl
            refine step_plain rfl ?_
            have hb03 := bthen (bthen (bthen G1 hbd (Nat.le_refl _)) G2 (Nat.le_refl _)) (bthen (ext_alloc w2c (.cells #[.slice ad m cd] 50)) G3 (Nat.le_refl _)) (Nat.le_refl _)
            have hnew := (G3.block w2c.heap.size (by rw [World.size_alloc]; omega)).trans (heap_alloc_at w2c (.cells #[.slice ad m cd] 50))
            refine op_appm (s := .tmp 42) (x := .tmp 45) (t := 125) rfl w3.heap.size 50 i1 (.slice none 0 0) 1 24 Try.underlying125 hr1 hr2 hr3 hr4 rfl (by decide) aB pl cB (bs.map Bsl.val) e42 (ho.ext hb03) (some ⟨w2c.heap.size, 0, none⟩) 1 1 [.slice ad m cd] e45 rfl (Or.inr ⟨w2c.heap.size, 0, _, _, _, rfl, hnew, rfl⟩) (by simp [Value.oneCell']) (by unfold maxLen; omega) (by omega) (Nat.le_trans h4 hb03.size) ?_
            intro a5 c5 wx4 hA5
            refine ⟨hA5.mod _ fun _ _ _ hB => ⟨rfl, hB⟩, ?_⟩
            intro ρ4 w4c G4 E4
            have e4 : ρ4 (.tmp 4) = .pointer (some ⟨w.heap.size, 0, none⟩) := E4.out 4 rfl
            have e46 : ρ4 (.tmp 46) = .slice a5 (pl + 1) c5 := E4.chn 4 46 rfl rfl rfl
            refine step_plain rfl ?_
            have hm4 : Mod (RF w3.heap.size) W w4c := ((bmod hb03 _).trans (hA5.mod _ fun _ _ _ hB => ⟨rfl, hB⟩)).trans (bmod G4 _)
            have hg4 := hm4.keep hg hTB
            have hcell4 := cell_of_row w4c w.heap.size 0 _ _ _ hg4
            refine op_store rfl e4 e46 rfl hcell4 (frozen_of_row w4c w.heap.size 0 _ _ hg4) (by kernel_rfl) ⟨trivial, ?_⟩
            intro σ wF GF hκ
            have hm5 : Mod (RG w3.heap.size w.heap.size) W (w4c.setCell ⟨w.heap.size, 0, none⟩ (.slice a5 (pl + 1) c5)) := (hm4.mono fun _ _ _ h => .inl h).setCell hg4 (.inr ⟨rfl, rfl⟩) 0 _
            have hmF := hm5.ext GF
            have hg5 := (GF.block _ (heap_lt (heap_setCell_same w4c w.heap.size 0 _ _ (.slice a5 (pl + 1) c5) hg4))).trans (heap_setCell_same w4c w.heap.size 0 _ _ (.slice a5 (pl + 1) c5) hg4)
            have hms := (Mod.refl (fun _ T => T = 125) w4c).setCell hg4 rfl 0 (.slice a5 (pl + 1) c5)
            have ho5 := ((hA5.own.ext G4).mod hms fun _ _ _ hf => absurd (show 50 = 125 from hf) (by decide)).ext GF
            have hod5 := ((((hod.ext (bthen G2 (bthen (ext_alloc w2c (.cells #[.slice ad m cd] 50)) G3 (Nat.le_refl _)) (Nat.le_refl _))).mod (hA5.mod (fun _ T => T = 50) fun _ _ _ _ => rfl) fun _ _ _ hf => absurd (show 5 = 50 from hf) (by decide)).ext G4).mod hms fun _ _ _ hf => absurd (show 5 = 125 from hf) (by decide)).ext GF
            have hw1 : w3.heap.size ≤ w1c.heap.size := Nat.le_trans h4 G1.size
            have hno8 : ∀ b, ¬ RG w3.heap.size w.heap.size b 5 := by rintro b (⟨h, _⟩ | ⟨_, h⟩) <;> revert h <;> decide
            have hlow : ∀ b, b < w3.heap.size → b ≠ w.heap.size → ∀ T, ¬ RG w3.heap.size w.heap.size b T := by
              rintro b hb hne T (⟨_, h⟩ | ⟨h, _⟩)
              · omega
              · exact hne h
            refine ⟨hmF.keepsFrom _, ⟨hmF.size, hmF.same (by omega) (hlow _ (by omega) (by omega)), hmF.same (by omega) (hlow _ (by omega) (by omega))⟩, hmF.os.trans h1, hmF.tape.trans h2, hmF.output.trans h3, Nat.le_trans h4 hmF.size, fun b hb hbg => (hmF.same (by omega) (hlow b hb hbg)).trans (h5 b hb hbg), ⟨a5, c5, bs ++ [⟨ad, cd, rowC l sz x⟩], ?_, ?_, ?_, ?_⟩, ?_⟩
            · rw [List.length_append, List.length_singleton, ← Hpl.out]
              exact hg5
            · rw [List.length_append, List.length_singleton, ← Hpl.out, List.map_append]
              have := ho5
              simp only [List.map_cons, List.map_nil, Bsl.val]
              rw [← Hrl.out]
              exact this
            · rw [List.map_append, hlr, List.map_append]
              rfl
            · intro p hp
              rcases List.mem_append.1 hp with hp | hp
              · exact (hd p hp).mod hmF fun b _ _ => hno8 b
              · rw [List.mem_singleton.1 hp]
                have := hod5.mono hw1
                dsimp only
                rw [← Hrl.out]
                exact this
            · rcases hs with h | ⟨b, o, cs, T, mm, ha, hh, ht⟩
              · exact .inl h
              · simp only [Option.some.injEq, Addr.mk.injEq] at ha
                obtain ⟨rfl, rfl, _⟩ := ha
                exact .inr ⟨_, _, cs, T, mm, rfl, (hmF.same (heap_lt hh) (hlow _ hx2.1 hx2.2)).trans hh, ht⟩
        case done =>
          rintro D ys W hD rfl ⟨h1, h2, h3, h4, h5, ⟨aB, cB, bs, hg, ho, hlr, hd⟩, hs⟩ hK
          rw [List.length_range] at hg ho
          have hw2 : w.heap.size < w2.heap.size := hwl
          have hgl := heap_lt hg
          have k0 := cell_of_row W w.heap.size 0 _ _ _ hg
          have hfz := frozen_of_row W w.heap.size 0 _ _ hg
          have hg' := heap_setCell_same W w.heap.size 0 _ _ (.slice aB ((L + sz - 1) / sz) cB) hg
          have hms := (Mod.refl (fun _ T => T = 125) W).setCell hg rfl 0 (.slice aB ((L + sz - 1) / sz) cB)
          have hF := own_keepB (w' := W) hF3 (fun b hb hbl => h5 b hbl (by omega))
          have hDg : D ≠ w.heap.size := by omega
          have hK' : (W.setCell ⟨w.heap.size, 0, none⟩ (.slice aB ((L + sz - 1) / sz) cB)).heap[D]? = some (.deferred (some [])) := (setCell_ne' D hDg).trans hK
          have hG := grownBy_putObj' (W.setCell ⟨w.heap.size, 0, none⟩ (.slice aB ((L + sz - 1) / sz) cB)) D (.deferred none)
          have hGr : ∀ r, some D = some r → ∃ o : Obj, (W.setCell ⟨w.heap.size, 0, none⟩ (.slice aB ((L + sz - 1) / sz) cB)).heap[r]? = some o ∧ o.isCells = false := fun r e => by cases e; exact ⟨_, hK', rfl⟩
          have hgF := (hG.block w.heap.size (by simp; omega) (by simp; omega)).trans hg'
          have hfin : PackR ((W.setCell ⟨w.heap.size, 0, none⟩ (.slice aB ((L + sz - 1) / sz) cB)).putObj D (.deferred none)) w.heap.size rows of aB ((L + sz - 1) / sz) cB aO n cO bs := by
            have hle : w.heap.size ≤ w3.heap.size := HB3.out.size
            refine ⟨(own_grown (ho.mod hms fun _ _ _ hf => absurd (show 50 = 125 from hf) (by decide)) hG hGr).mono hle, ?_, fun p hp => (own_grown ((hd p hp).mod hms fun _ _ _ hf => absurd (show 5 = 125 from hf) (by decide)) hG hGr).mono hle, ?_⟩
            · rw [hlr, ← Hrw.out]
              unfold rowsC
              rw [HL.out]
            · have := (own_grown (hF.mod hms fun _ _ _ hf => absurd (show 3 = 125 from hf) (by decide)) hG hGr).mono (base' := w.heap.size) (by omega)
              rw [← Hof.out]
              unfold offsP
              rw [recs_length, ← HN.out]
              exact this
          have hbelow : Below w.heap.size w ((W.setCell ⟨w.heap.size, 0, none⟩ (.slice aB ((L + sz - 1) / sz) cB)).putObj D (.deferred none)) := by
            have hbW : Below w.heap.size w W := ⟨h1.trans HB3.out.os, h2.trans HB3.out.tape, h3.trans HB3.out.output, Nat.le_trans HB3.out.size h4, fun k hk => (h5 k (Nat.lt_of_lt_of_le hk HB3.out.size) (by omega)).trans (HB3.out.block k hk)⟩
            exact (hbW.setCell (p := ⟨w.heap.size, 0, none⟩) (Nat.le_refl _) _).grown hG (by have := hbW.size; simp; omega) (fun k e => by cases e; omega)
          have Hfin := Lib.hid hfin
          have Hbelow := Lib.hid hbelow
          have HgF := Lib.hid hgF
          have HK := Lib.hid hK'
          clear hms hF hG hGr hgF hfin hbelow hK' hg' hs ho hd hlr
          go_wp2
          refine ⟨by simp, .inl ⟨_, _, rfl, run_takeDeferred HK.out, ?_⟩⟩
          exact ⟨_, results_cell3s (p := 4) (u := 5) (v := 6) rfl _ _ w.heap.size 125 _ _ rfl (cell_of_row _ w.heap.size 0 _ _ _ HgF.out) Try.underlying125, aB, _, cB, aO, n, cO, bs, rfl, Hfin.out, Hbelow.out⟩
        case stop =>
          rintro D c pre W _ _ h _
          exact h.elim
end Go.Proofs.Ytclkkhpnnbkfmaa
