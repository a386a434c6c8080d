/- The store's Save: the walk. -/
import Derived.Test.YtogcejmnhiphgaaCellsK
import Derived.Test.YtogcejmnhiphgaaRegionR
import Derived.RangeFuncWrites
import Derived.RangeFuncBox
import Derived.Laws.ResultCell
namespace Go.Proofs.Ytogcejmnhiphgaa
open Go.RowKit Go.Shelf

attribute [local go_sem] Oper.semAt_some

theorem results_cell1s {P : Program} {fn : Func} {p : Tmp} {ty : TypeId} (h : fn.results = #[.cell p ty]) (tmps : Array Value) (w : World) (g : Nat) (x : Value)
    (hp : tmps.getD p undef = .pointer (some ⟨g, 0, none⟩)) (hg : w.cell? ⟨g, 0, none⟩ = some x) (hu : (isAgg ty).run P w = .ok false w) :
    (results fn tmps).run P w = .ok x w := by
  have hp' : tmps[p]?.getD undef = .pointer (some ⟨g, 0, none⟩) := by simpa using hp
  simp [results, h, hp', asAddr, loadVar, hu, Sem.run_bind, Result.andThen, go_sem, hg]
theorem bodyM_ret1 {F : Fence} {n : Nat} {P : Program} {fn : Func} {R : Ending → World → Prop} {a : Act} {w : World} {v : Value} (hr : (results fn a.tmps).run P w = .ok v w) (hd : a.defers = []) (h : R (.returned v) w) : bodyPostM F n P fn R .ret a w := by
  show LeavesInM F n P fn a.tmps R a.defers .returning w
  rw [hd]
  exact ⟨_, hr, h⟩

/-- A slice that a disk's work leaves as it is. -/
def SrcS (B : Nat) (w : World) (a : Option Addr) (xs : List Value) : Prop := xs = [] ∨ ∃ b o cs T m, a = some ⟨b, o, none⟩ ∧ w.heap[b]? = some (.cells cs T m) ∧ (cs.toList.drop o).take xs.length = xs ∧ (b < B ∨ T = 5)
theorem SrcS.src {B : Nat} {w : World} {a : Option Addr} {xs : List Value} (h : SrcS B w a xs) : Src w a xs := by
  rcases h with h | ⟨b, o, cs, T, m, ha, hh, ht, _⟩
  · exact .inl h
  · exact .inr ⟨b, o, cs, T, m, ha, hh, ht⟩
theorem SrcS.mod {B : Nat} {F : Nat → TypeId → Prop} {w w' : World} {a : Option Addr} {xs : List Value} (h : SrcS B w a xs) (hm : Mod F w w') (hF : ∀ b T, F b T → B ≤ b ∧ T ≠ 5) : SrcS B w' a xs := by
  rcases h with h | ⟨b, o, cs, T, m, ha, hh, ht, hb⟩
  · exact .inl h
  · refine .inr ⟨b, o, cs, T, m, ha, hm.keep hh fun hf => ?_, ht, hb⟩
    obtain ⟨h1, h2⟩ := hF _ _ hf
    rcases hb with hb | hb
    · omega
    · exact h2 hb
theorem SrcS.df {B : Nat} {w w' : World} {a : Option Addr} {xs : List Value} (h : SrcS B w a xs) (hm : Mod (DF B) w w') : SrcS B w' a xs :=
  h.mod hm fun b T hf => ⟨hf.1, by rintro rfl; exact DF_no_u8 b hf⟩
theorem SrcS.ext {B : Nat} {w w' : World} {a : Option Addr} {xs : List Value} (h : SrcS B w a xs) (hb : Below w.heap.size w w') : SrcS B w' a xs := h.mod (bmod hb fun _ _ => False) fun _ _ h => h.elim
theorem SrcS.ck {B : Nat} {w w' : World} {a : Option Addr} {xs : List Value} (h : SrcS B w a xs) (hk : CellsK w w') : SrcS B w' a xs := by
  rcases h with h | ⟨b, o, cs, T, m, ha, hh, ht, hb⟩
  · exact .inl h
  · exact .inr ⟨b, o, cs, T, m, ha, hk.cells _ _ _ _ hh, ht, hb⟩
def rowS (l : List Byte) (k : Nat) : List Byte := (l.drop (k * 256)).take 256
def rowsS (l : List Byte) : List (List Byte) := (List.range ((l.length + 256 - 1) / 256)).map (rowS l)

/-- A row of a slice, wherever it lies. -/
def chunkW (a : Option Addr) (L n k : Nat) : Value := match a with | some ⟨b, o, none⟩ => chunkV b o L n k | _ => undef
theorem chunk_stopsW (nn : Nat) (hnn : 1 ≤ nn) (B1 B2 L c n : Nat) (a : Option Addr) (l : List Value) (w0 : World) (hs : Src w0 a l) (hl : l.length = L) (hn : 1 ≤ n) (hn2 : n ≤ 4611686018427387904) (hLc : L ≤ c) (hL2 : L ≤ 4611686018427387904) (w : World)
    (T1 T2 : TypeId) (hB1 : w.heap[B1]? = some (.cells #[.slice a L c] T1 (0, 0))) (hB2 : w.heap[B2]? = some (.cells #[.int .i64 (n : Int)] T2 (0, 0))) :
    SeqStopsK Fence.wide nn Try.prog 71 #[.pointer (some ⟨B1, 0, none⟩), .pointer (some ⟨B2, 0, none⟩)] (fun k : Nat => #[chunkW a L n k]) (KpC B1 B2) (fun ys => ys = List.range ((L + n - 1) / n)) (fun pre => ∃ k, k ≤ (L + n - 1) / n ∧ pre = List.range k) ((L + n - 1) / n) w := fun l0 J Jx W hW hJ _ hY h0 => by
  have hB1' := (hW.block B1 (heap_lt hB1)).trans hB1
  have hB2' := (hW.block B2 (heap_lt hB2)).trans hB2
  have hJ' : ∀ pre A B, J pre A → Below A.heap.size A B → J pre B := fun pre A B hj hb => hJ pre A B none hj ⟨hb.os, hb.tape, hb.output, hb.size, fun k hk _ => hb.block k hk⟩ (fun r e => by cases e)
  by_cases hL : L = 0
  · subst hL
    refine (chunk1_nil nn l0 B1 B2 n c a J W T1 T2 hB1' hB2' h0).mono ?_
    rintro e W' ⟨he, hj⟩
    refine ⟨he, .inl ⟨[], ?_, hj⟩⟩
    rw [Nat.div_eq_of_lt (by omega)]
    rfl
  · rcases hs with h | ⟨b, o, cs, T, m, rfl, _, _⟩
    · rw [h] at hl; simp at hl; omega
    · exact chunk1_in nn hnn l0 B1 B2 b o L c n _ hn hn2 hLc hL2 rfl J Jx hJ' hY W T1 T2 hB1' hB2' h0
theorem Mod.keepsFromS {F : Nat → TypeId → Prop} {w w' : World} (h : Mod F w w') (B : Nat) : KeepsFrom B w w' := by
  refine ⟨h.size, fun k o _ hk ho => ?_⟩
  rcases h.block k (heap_lt hk) with h1 | ⟨cs, cs', T, _, h1, _⟩
  · exact h1.trans hk
  · rw [hk] at h1
    cases h1
    cases ho
theorem DW.otherT {K : Nat → Prop} {B : Nat} {w w' : World} {g pg n : Nat} {d : DS} {p : PS} {m : Nat} {F : Nat → TypeId → Prop} (h : DW K B w g pg n d p m) (hm : Mod F w w') (hF : ∀ b T, F b T → T = 3 ∨ T = 27) : DW K B w' g pg n d p m :=
  ⟨h.disk.mod hm (fun b T hf => by rcases hF b T hf with h | h <;> rw [h] <;> decide) (fun b _ _ hf => absurd (hF b _ hf) (by decide)), h.pow.mod hm (fun b T hf => by rcases hF b T hf with h | h <;> rw [h] <;> decide), h.ok, Nat.le_trans h.base hm.size, h.pend⟩
theorem Mod.put {F : Nat → TypeId → Prop} {a w w' : World} {row : Option Nat} (h1 : Mod F a w) (hG : w.grownBy w' row) (hr : ∀ r, row = some r → a.heap.size ≤ r) : Mod F a w' := by
  refine ⟨hG.os.trans h1.os, hG.tape.trans h1.tape, hG.output.trans h1.output, Nat.le_trans h1.size hG.size, fun k hkk => ?_⟩
  have e : w'.heap[k]? = w.heap[k]? := hG.block k (Nat.lt_of_lt_of_le hkk h1.size) (fun e => by have := hr k e.symm; omega)
  rcases h1.block k hkk with h9 | ⟨cs, cs', T, h9, h10, h11⟩
  · exact .inl (e.trans h9)
  · exact .inr ⟨cs, cs', T, h9, h10, e.trans h11⟩
theorem Mod.defd {F : Nat → TypeId → Prop} {w w' : World} (h : Mod F w w') {D0 : Nat} {x} (hk : w.heap[D0]? = some (.deferred x)) : w'.heap[D0]? = some (.deferred x) := by
  rcases h.block D0 (heap_lt hk) with h1 | ⟨_, _, _, _, h1, _⟩
  · exact h1.trans hk
  · rw [hk] at h1; cases h1
/-- What a store's object holds lies in blocks from C on. -/
def StO (C : Nat) (w : World) (gs g : Nat) (s : List Byte) (cnt : Nat) : Prop := ∃ a c, w.heap[gs]? = some (.cells #[.pointer (some ⟨g, 0, none⟩), .slice a s.length c, .int .i64 (cnt : Int)] 103 (0, 0)) ∧ Own w C 5 1 a s.length c (bvs s)
theorem StO.ck {C : Nat} {w w' : World} {gs g : Nat} {s : List Byte} {cnt : Nat} (h : StO C w gs g s cnt) (hk : CellsK w w') : StO C w' gs g s cnt := by
  obtain ⟨a, c, hh, ho⟩ := h
  exact ⟨a, c, hk.cells _ _ _ _ hh, ho.ck hk⟩
theorem StO.mod {F : Nat → TypeId → Prop} {C : Nat} {w w' : World} {gs g : Nat} {s : List Byte} {cnt : Nat} (h : StO C w gs g s cnt) (hm : Mod F w w') (hF : ∀ b T, F b T → T ≠ 103) (hU : ∀ b, C ≤ b → b < w.heap.size → ¬ F b 5) : StO C w' gs g s cnt := by
  obtain ⟨a, c, hh, ho⟩ := h
  refine ⟨a, c, hm.keep hh fun hf => hF _ _ hf rfl, ?_⟩
  obtain ⟨hl, h0 | ⟨g', cur, ha, hb', hx, rest⟩⟩ := ho
  · exact ⟨hl, .inl h0⟩
  · exact ⟨hl, .inr ⟨g', cur, ha, hb', hm.keep hx (hU g' hb' (heap_lt hx)), rest⟩⟩
theorem StO.sta {C B : Nat} {w : World} {gs g : Nat} {s : List Byte} {cnt : Nat} (h : StO C w gs g s cnt) (hB : B ≤ C) (hg : B ≤ gs) (hl : s.length ≤ 30000) : StA B w gs g s cnt := by
  obtain ⟨a, c, hh, ho⟩ := h
  exact ⟨⟨a, c, hh, ho.mono hB⟩, hg, hl⟩
/-- Between two rounds of Save's loop: what was told, what was written. -/
structure SaveJ (K : Nat → Prop) (B Bs : Nat) (w : World) (gs g pg n : Nat) (D : DS) (p : PS) (m : Nat) (s : List Byte) (cnt : Nat) (a : Option Addr) (b : List Byte) (at_ : Nat) (N : Nat) (E : Int) (pre : List Nat) (W : World) : Prop where
  mod : Mod (DF B) w W
  size : N ≤ W.heap.size
  g0 : W.heap[w.heap.size]? = some (.cells #[.pointer (some ⟨gs, 0, none⟩)] 59 (0, 0))
  g1 : W.heap[w.heap.size + 1]? = some (.cells #[.int .i64 E] 27 (0, 0))
  sto : StA Bs W gs g s cnt
  src : SrcS B W a (bvs b)
  dw : ∃ d1 p1, wrP at_ (pre.map (rowS b)) D p = (E, d1, p1) ∧ DW (fun b => K b ∨ w.heap.size ≤ b) B W g pg n d1 p1 (m + pre.length)
theorem SaveJ.grown {K : Nat → Prop} {B Bs : Nat} {w : World} {gs g pg n : Nat} {D : DS} {p : PS} {m : Nat} {s : List Byte} {cnt : Nat} {a : Option Addr} {b : List Byte} {at_ N : Nat} {E : Int} {pre : List Nat} {W W' : World} {row : Option Nat}
    (h : SaveJ K B Bs w gs g pg n D p m s cnt a b at_ N E pre W) (hwN : w.heap.size ≤ N) (hG : W.grownBy W' row) (hr : ∀ r, row = some r → N ≤ r ∧ ∃ o : Obj, W.heap[r]? = some o ∧ o.isCells = false) : SaveJ K B Bs w gs g pg n D p m s cnt a b at_ N E pre W' := by
  have hk := CellsK.of_grown hG (fun r e => (hr r e).2)
  obtain ⟨h1, h2, h3, h4, h5, h6, d1, p1, h7, h8⟩ := h
  refine ⟨⟨hG.os.trans h1.os, hG.tape.trans h1.tape, hG.output.trans h1.output, Nat.le_trans h1.size hG.size, fun k hkk => ?_⟩, Nat.le_trans h2 hG.size, hk.cells _ _ _ _ h3, hk.cells _ _ _ _ h4, h5.ck hk, h6.ck hk, d1, p1, h7, h8.ck hk⟩
  have e : W'.heap[k]? = W.heap[k]? := hG.block k (Nat.lt_of_lt_of_le hkk h1.size) (fun e => by have := (hr k e.symm).1; omega)
  rcases h1.block k hkk with h9 | ⟨cs, cs', T, h9, h10, h11⟩
  · exact .inl (e.trans h9)
  · exact .inr ⟨cs, cs', T, h9, h10, e.trans h11⟩

set_option maxRecDepth 100000 in
set_option maxHeartbeats 8000000 in
theorem ssave_any {K : Nat → Prop} {B Bs : Nat} {w : World} {gs g pg n : Nat} {d : DS} {p : PS} {m : Nat} {s : List Byte} {cnt : Nat} (h : DW K B w g pg n d p m) (hS : StA Bs w gs g s cnt) (hn : 0 < n) (hn2 : n ≤ 100000) (hm : m ≤ 90000) (hp : p.off = false) (hcnt : cnt ≤ 1000000)
    (a : Option Addr) (c L : Nat) (b : List Byte) (hsrc : SrcS B w a (bvs b)) (hL : L = b.length) (hL2 : L ≤ 30000) (hLc : L ≤ c) {E : Int} {d' : DS} {p' : PS} (hr : saveP (d.wake p) p cnt b (rowsS b) = (E, d', p')) :
    Calls Try.prog 32 #[.pointer (some ⟨gs, 0, none⟩), .slice a L c] w fun e w' => e = .returned (.int .i64 E) ∧ DW (fun b => K b ∨ w.heap.size ≤ b) B w' g pg n d' p' (m + 119) ∧ (if E = 0 then StA Bs w' gs g b (cnt + 1) else StA Bs w' gs g s cnt) ∧ (E = 0 → StO w.heap.size w' gs g b (cnt + 1)) ∧ Mod (fun b T => DF B b T ∨ b = gs ∧ T = 103) w w' := by
  have Hr := Lib.hid hr
  have Hp := Lib.hid hp
  have HL := Lib.hid hL
  have hb0 := ext_alloc w (.cells #[.pointer (some ⟨gs, 0, none⟩)] 59)
  have hg0 := heap_alloc_new w (.cells #[.pointer (some ⟨gs, 0, none⟩)] 59)
  have hb1 := ext_alloc (w.alloc (.cells #[.pointer (some ⟨gs, 0, none⟩)] 59)) (.cells #[.int .i64 0] 27)
  have hg1 := heap_alloc_new (w.alloc (.cells #[.pointer (some ⟨gs, 0, none⟩)] 59)) (.cells #[.int .i64 0] 27)
  rw [World.size_alloc] at hg1
  have hg0 := (hb1.block _ (heap_lt hg0)).trans hg0
  have hb01 := bthen hb0 hb1 (Nat.le_refl _)
  have H1 := Lib.hid (h.ext hb01)
  have hS1 := hS.ext hb01
  have HS1 := Lib.hid hS1
  have HX1 := Lib.hid (hsrc.ext hb01)
  have HM1 : Hid (Mod (DF B) w _) := Lib.hid (bmod hb01 (DF B))
  have hBw := h.base
  have hgsl : gs ≤ w.heap.size := by obtain ⟨⟨_, _, hh, _⟩, _, _⟩ := hS; exact Nat.le_of_lt (heap_lt hh)
  obtain ⟨⟨sa, sc, hh, hso⟩, hsb, hsl⟩ := hS1
  have q0 := cell_of_row _ gs 0 _ _ _ hh
  have q2 := cell_of_row _ gs 2 _ _ _ hh
  have r0 := cell_of_row _ w.heap.size 0 _ _ _ hg0
  have r1 := cell_of_row _ (w.heap.size + 1) 0 _ _ _ hg1
  clear hr hp hL hb0 hb1 hb01 h hS hsrc hso hsb hsl
  refine callsIn_wide.1 (callsIn_of_wp_marks (n := 3) Try.func32 rfl trivial ?_ rfl)
  simp only [Try.ntmps32, List.size_toArray, List.length_cons, List.length_nil, Nat.reduceAdd, Nat.reduceSub, Array.replicate_succ, Array.replicate_zero, List.push_toArray, List.append_toArray, List.nil_append, List.cons_append]
  refine wpIn_wide.2 ?_
  go_wp2_with fail
  have HG0 := Lib.hid hg0
  have HG1 := Lib.hid hg1
  clear q0 q2 r0 r1 hh hg0 hg1
  generalize World.alloc (World.alloc w _) _ = w2 at *
  refine (soff_any H1.out hn2 hn (by omega) Hp.out).mono ?_
  rintro e w3 ⟨rfl, hd3, hM3⟩
  obtain ⟨D, hDe⟩ : ∃ D, D = d.wake p := ⟨_, rfl⟩
  rw [← hDe] at hd3 Hr
  clear hDe
  have hno : ∀ {b : Nat} {T : TypeId}, T = 59 ∨ T = 27 ∨ T = 103 → ¬ DF B b T := by
    rintro b T hT ⟨_, hf⟩
    revert hf
    rcases hT with rfl | rfl | rfl <;> decide
  have H3 := Lib.hid hd3
  have HS3 := Lib.hid (HS1.out.df hM3)
  have HX3 := Lib.hid (HX1.out.df hM3)
  have HM3 := Lib.hid (HM1.out.trans hM3)
  have hg0 : w3.heap[w.heap.size]? = _ := hM3.keep HG0.out (hno (.inl rfl))
  have hg1 : w3.heap[w.heap.size + 1]? = _ := hM3.keep HG1.out (hno (.inr (.inl rfl)))
  obtain ⟨⟨sa, sc, hh, _⟩, _, _⟩ := HS3.out
  have q0 := cell_of_row _ gs 0 _ _ _ hh
  have q2 := cell_of_row _ gs 2 _ _ _ hh
  have r0 := cell_of_row _ w.heap.size 0 _ _ _ hg0
  have r1 := cell_of_row _ (w.heap.size + 1) 0 _ _ _ hg1
  have Hh := Lib.hid hh
  have HG0 := Lib.hid hg0
  have HG1 := Lib.hid hg1
  have hL3 : ¬ ((30000 : Int) < (L : Int)) := by omega
  have hw1 : IntKind.i64.wrap ((cnt : Int) + 1) = ((cnt + 1 : Nat) : Int) := by rw [IntKind.wrap_i64]; omega
  clear hh hg0 hg1 hd3 hM3 H1 HS1 HX1 HM1
  go_wp2_with fail
  refine (place_any (cnt + 1) _ w3 rfl).mono ?_
  rintro e w4 ⟨rfl, rfl⟩
  go_wp2_with fail
  obtain ⟨at_, hat⟩ : ∃ x, x = placeN (cnt + 1) := ⟨_, rfl⟩
  have hat2 := placeN_le (cnt + 1)
  rw [← hat] at hat2 ⊢
  have Hat := Lib.hid hat
  clear hat
  have hk0 : CellsK w3 (w3.alloc (.cells #[.int .i64 (at_ : Int)] 3)) := ⟨by simp, fun b cs T m hb => ((ext_alloc w3 _).block b (heap_lt hb)).trans hb⟩
  refine (chunk_any a L c 256 _ (by decide)).mono ?_
  rintro e w5 ⟨rfl, hw5⟩
  have hba := ext_alloc w3 (.cells #[.int .i64 (at_ : Int)] 3)
  have hga := heap_alloc_new w3 (.cells #[.int .i64 (at_ : Int)] 3)
  have hb4 := ext_alloc (w3.alloc (.cells #[.int .i64 (at_ : Int)] 3)) (.cells #[.slice a L c] 34)
  have hg4 := heap_alloc_new (w3.alloc (.cells #[.int .i64 (at_ : Int)] 3)) (.cells #[.slice a L c] 34)
  have hb5 := ext_alloc ((w3.alloc (.cells #[.int .i64 (at_ : Int)] 3)).alloc (.cells #[.slice a L c] 34)) (.cells #[.int .i64 ((256 : Nat) : Int)] 3)
  have hg5 := heap_alloc_new ((w3.alloc (.cells #[.int .i64 (at_ : Int)] 3)).alloc (.cells #[.slice a L c] 34)) (.cells #[.int .i64 ((256 : Nat) : Int)] 3)
  have hg4 := (hb5.block _ (heap_lt hg4)).trans hg4
  have hga := ((bthen hb4 hb5 (Nat.le_refl _)).block _ (heap_lt hga)).trans hga
  have hb35 := bthen hba (bthen hb4 hb5 (Nat.le_refl _)) (Nat.le_refl _)
  have hsz5 : w5.heap.size = w3.heap.size + 3 := by rw [hw5]; simp
  rw [World.size_alloc] at hg4 hg5
  rw [World.size_alloc] at hg5
  rw [← hw5] at hg4 hg5 hga hb35
  have hg05 := (hb35.block _ (heap_lt HG0.out)).trans HG0.out
  have hg15 := (hb35.block _ (heap_lt HG1.out)).trans HG1.out
  have hws : w.heap.size + 1 < w3.heap.size := heap_lt HG1.out
  have HJ0 : Hid (SaveJ K B Bs w gs g pg n D p m s cnt a b at_ w5.heap.size 0 [] w5) := Lib.hid ⟨HM3.out.ext hb35, Nat.le_refl _, hg05, hg15, HS3.out.ext hb35, HX3.out.ext hb35, D, p, rfl, (H3.out.ext hb35).mono (fun _ _ hk => .inl hk) (Nat.le_refl _)⟩
  have Hga := Lib.hid hga
  clear hk0 hw5 hba hb4 hb5 hb35 hg05 hg15 r0 r1 q0 q2 H3 HS3 HX3 HM3 HG0 HG1
  have HX5 := Lib.hid HJ0.out.src.src
  go_wp2_with fail
  refine (wpIn_wide (n := 3)).1 ?_
  refine' wpIn_rangeFunc_ownG (F := Fence.wide) (n := 3) rfl (by decide) (gf := 71) (lb := #[.pointer (some ⟨w3.heap.size + 1, 0, none⟩), .pointer (some ⟨w3.heap.size + 1 + 1, 0, none⟩)]) rfl trivial (enters_of Try.func71 (by kernel_rfl) rfl)
    (chunk_stopsW 2 (by decide) (w3.heap.size + 1) (w3.heap.size + 1 + 1) L c 256 a (bvs b) w5 HX5.out (by rw [bvs_length]; exact HL.out.symm) (by decide) (by decide) hLc (by omega) w5 _ _ hg4 hg5) KpC.trans (KpC.put (by omega) (by omega)) (Below.refl _ _) (fun _ => rfl)
    (fun pre W => SaveJ K B Bs w gs g pg n D p m s cnt a b at_ w5.heap.size 0 pre W ∧ W.heap[w3.heap.size]? = some (.cells #[.int .i64 ((at_ + pre.length : Nat) : Int)] 3 (0, 0)) ∧ W.heap[w3.heap.size + 1]? = some (.cells #[.slice a L c] 34 (0, 0)) ∧ W.heap[w3.heap.size + 1 + 1]? = some (.cells #[.int .i64 ((256 : Nat) : Int)] 3 (0, 0)))
    (fun co pre W => co = .ret ∧ ∃ E', E' ≠ 0 ∧ SaveJ K B Bs w gs g pg n D p m s cnt a b at_ w5.heap.size E' pre W) (fun pre W W' row hI hG hr => ?own1) (fun co pre W W' row hI hG hr => ?own2) ⟨HJ0.out, by simpa using Hga.out, hg4, hg5⟩ _ ?assign ?body ?done ?stop
  case assign =>
    intro l0 x W K hK
    gi_wp2
    exact hK
  case own1 =>
    have hk := CellsK.of_grown hG (fun r e => (hr r e).2)
    exact ⟨hI.1.grown (by omega) hG hr, hk.cells _ _ _ _ hI.2.1, hk.cells _ _ _ _ hI.2.2.1, hk.cells _ _ _ _ hI.2.2.2⟩
  case own2 =>
    obtain ⟨h1, E', h2, h3⟩ := hI
    exact ⟨h1, E', h2, h3.grown (by omega) hG hr⟩
  case done =>
    rintro D0 ys W hD0 rfl ⟨hJ, _, _, _⟩ hK
    obtain ⟨hmodJ, hszJ, hJ0, hJ1, hsto, hsrc, d1, p1, hw1', hdw⟩ := hJ
    have hrows : wrP at_ (rowsS b) D p = (0, d1, p1) := by
      unfold rowsS
      rw [← HL.out]
      exact hw1'
    have hsv : ∀ {E1 : Int} {d2 : DS} {p2 : PS}, d1.sync p1 = (E1, d2, p2) → saveP D p cnt b (rowsS b) = if E1 ≠ 0 then (E1, d2, p2) else if (d2.write p2 (((cnt + 1) % 2 : Nat) : Int) (markB (cnt + 1) b.length)).1 ≠ 0 then d2.write p2 (((cnt + 1) % 2 : Nat) : Int) (markB (cnt + 1) b.length) else (d2.write p2 (((cnt + 1) % 2 : Nat) : Int) (markB (cnt + 1) b.length)).2.1.sync (d2.write p2 (((cnt + 1) % 2 : Nat) : Int) (markB (cnt + 1) b.length)).2.2 := by
      intro E1 d2 p2 h
      unfold saveP
      rw [← Hat.out, hrows]
      dsimp only
      rw [if_neg (by simp), h]
    obtain ⟨⟨E1, d2, p2⟩, hsy⟩ : ∃ y, y = d1.sync p1 := ⟨_, rfl⟩
    have hsv1 := hsv hsy.symm
    rw [Hr.out] at hsv1
    have Hsv := Lib.hid hsv1
    have Hsy := Lib.hid hsy.symm
    have hk119 : (L + 256 - 1) / 256 ≤ 118 := by omega
    have HDW := Lib.hid (hdw.mono (fun _ _ h => h) (show m + (List.range ((L + 256 - 1) / 256)).length ≤ m + 118 by rw [List.length_range]; omega))
    obtain ⟨⟨sa, sc, hh, _⟩, _, _⟩ := id hsto
    have q0 := cell_of_row W gs 0 _ _ _ hh
    have r0 := cell_of_row W w.heap.size 0 _ _ _ hJ0
    have HJ0' := Lib.hid hJ0
    have HJ1' := Lib.hid hJ1
    have HK := Lib.hid hK
    have Hsto := Lib.hid hsto
    have Hsrc := Lib.hid hsrc
    have Hmod := Lib.hid hmodJ
    clear hJ0 hJ1 hK hsto hsrc hmodJ hdw hsv hsv1 hsy hw1' hrows hh
    go_wp2_with fail
    refine (HDW.out.sync hn2 hn (by omega) Hsy.out).mono ?_
    rintro e w6 ⟨rfl, hd6, hM6⟩
    have HD6 := Lib.hid hd6
    have Hsto6 := Lib.hid (Hsto.out.df hM6)
    have Hsrc6 := Lib.hid (Hsrc.out.df hM6)
    have Hmod6 := Lib.hid (Hmod.out.trans hM6)
    have hg0 : w6.heap[w.heap.size]? = _ := hM6.keep HJ0'.out (hno (.inl rfl))
    have hg1 : w6.heap[w.heap.size + 1]? = _ := hM6.keep HJ1'.out (hno (.inr (.inl rfl)))
    have hK6 : w6.heap[D0]? = some (.deferred (some [])) := by
      rcases hM6.block D0 (heap_lt HK.out) with h1 | ⟨_, _, _, _, h1, _⟩
      · exact h1.trans HK.out
      · rw [HK.out] at h1; cases h1
    have Hg0 := Lib.hid hg0
    have Hg1 := Lib.hid hg1
    have HK6 := Lib.hid hK6
    have hDw : w.heap.size + 1 < D0 := by omega
    have c1 := cell_of_row w6 (w.heap.size + 1) 0 _ _ _ hg1
    have f1 := frozen_of_row w6 (w.heap.size + 1) 0 _ _ hg1
    clear hd6 hM6 hg0 hg1 hK6 HDW Hsto Hsrc Hmod HJ0' HJ1' HK q0 r0
    by_cases hE1 : E1 = 0
    · subst hE1
      have hs := Hsv.out
      rw [if_neg (by simp)] at hs
      obtain ⟨⟨Em, d3, p3⟩, hwr⟩ : ∃ y, y = d2.write p2 (((cnt + 1) % 2 : Nat) : Int) (markB (cnt + 1) L) := ⟨_, rfl⟩
      rw [← HL.out, ← hwr] at hs
      dsimp only at hs
      have Hwr := Lib.hid hwr.symm
      have Hs := Lib.hid hs
      have hrem : ((cnt : Int) + 1).tmod 2 = ((cnt : Int) + 1) % 2 := Int.tmod_eq_emod_of_nonneg (by omega)
      obtain ⟨⟨sa6, sc6, hh6, _⟩, _, _⟩ := id Hsto6.out
      have Hh6 := Lib.hid hh6
      clear hs hwr hh6 c1 f1 Hsv
      go_wp2_with fail
      refine wp_region_chainL (by kernel_rfl) [9, 10, 11] (Mod.rel (DF B)) [SpT.eq (.pointer (some ⟨gs, 0, none⟩)), SpT.eq (.pointer (some ⟨gs, 0, none⟩)), SpT.eq (.pointer (some ⟨gs, 0, none⟩)), SpT.eq (.pointer (some ⟨g, 0, none⟩)), SpT.eq (.int .i64 ((cnt + 1 : Nat) : Int)), SpT.eq (.int .i64 (((cnt + 1) % 2 : Nat) : Int)), SpT.eq (.int .i64 ((cnt + 1 : Nat) : Int)), SpT.eq (.slice a L c), SpT.eq (.int .i64 (L : Int)), SpT.top, SpT.top, SpT.top] (by kernel_rfl) (by kernel_rfl) (by kernel_rfl) (by kernel_rfl) ?_ ?_
      · refine stepsL_free rfl ?_ (stepsL_free rfl ?_ (stepsL_free rfl ?_ (stepsL_free rfl ?_ (stepsL_free rfl ?_ (stepsL_free rfl ?_ (stepsL_free rfl ?_ (stepsL_free rfl ?_ (stepsL_free rfl ?_ (stepsL_chain rfl (stepsL_chain rfl (stepsL_chain rfl (stepsL_nil))))))))))))
        · intro ρ w' E
          have e2 : ρ (.tmp 2) = .pointer (some ⟨w.heap.size, 0, none⟩) := E.out 2 rfl
          refine step_plain rfl ?_
          refine op_val (v := .pointer (some ⟨gs, 0, none⟩)) (w' := w') ?_ ⟨Below.refl _ _, rfl⟩
          have hk : w'.cell? ⟨w.heap.size, 0, none⟩ = some (.pointer (some ⟨gs, 0, none⟩)) := cell_of_row _ _ 0 _ _ _ (E.t.keep Hg0.out (hno (.inl rfl)))
          have hcon := E.con
          clear E 
          go_simp
        · intro ρ w' E
          have e51 : ρ (.tmp 51) = .pointer (some ⟨gs, 0, none⟩) := E.pre 0 rfl rfl
          refine step_plain rfl ?_
          refine op_val (v := .pointer (some ⟨gs, 0, none⟩)) (w' := w') ?_ ⟨Below.refl _ _, rfl⟩
          have hcon := E.con
          clear E
          go_simp
        · intro ρ w' E
          have e52 : ρ (.tmp 52) = .pointer (some ⟨gs, 0, none⟩) := E.pre 1 rfl rfl
          refine step_plain rfl ?_
          refine op_val (v := .pointer (some ⟨gs, 0, none⟩)) (w' := w') ?_ ⟨Below.refl _ _, rfl⟩
          have hcon := E.con
          clear E
          go_simp
        · intro ρ w' E
          have e53 : ρ (.tmp 53) = .pointer (some ⟨gs, 0, none⟩) := E.pre 2 rfl rfl
          refine step_plain rfl ?_
          refine op_val (v := .pointer (some ⟨g, 0, none⟩)) (w' := w') ?_ ⟨Below.refl _ _, rfl⟩
          have hk : w'.cell? ⟨gs, 0, none⟩ = some (.pointer (some ⟨g, 0, none⟩)) := cell_of_row _ _ 0 _ _ _ (E.t.keep Hh6.out (hno (.inr (.inr rfl))))
          have hcon := E.con
          clear E 
          go_simp
        · intro ρ w' E
          have e5 : ρ (.tmp 5) = .int .i64 ((cnt + 1 : Nat) : Int) := E.out 5 rfl
          refine step_plain rfl ?_
          exact op_move (.inl rfl) e5 ⟨Below.refl _ _, rfl⟩
        · intro ρ w' E
          have e55 : ρ (.tmp 55) = .int .i64 ((cnt + 1 : Nat) : Int) := E.pre 4 rfl rfl
          refine step_plain rfl ?_
          refine op_val (v := .int .i64 (((cnt + 1) % 2 : Nat) : Int)) (w' := w') ?_ ⟨Below.refl _ _, rfl⟩
          have hrem2 := hrem
          have hcon := E.con
          clear E
          go_simp
        · intro ρ w' E
          have e5 : ρ (.tmp 5) = .int .i64 ((cnt + 1 : Nat) : Int) := E.out 5 rfl
          refine step_plain rfl ?_
          exact op_move (.inl rfl) e5 ⟨Below.refl _ _, rfl⟩
        · intro ρ w' E
          have e1 : ρ (.tmp 1) = .slice a L c := E.out 1 rfl
          refine step_plain rfl ?_
          exact op_move (.inl rfl) e1 ⟨Below.refl _ _, rfl⟩
        · intro ρ w' E
          have e58 : ρ (.tmp 58) = .slice a L c := E.pre 7 rfl rfl
          refine step_plain rfl ?_
          refine op_val (v := .int .i64 (L : Int)) (w' := w') ?_ ⟨Below.refl _ _, rfl⟩
          have hcon := E.con
          clear E
          go_simp
      · intro ρ1 w1c G1 E1
        have e57 : ρ1 (.tmp 57) = .int .i64 ((cnt + 1 : Nat) : Int) := E1.pre 6 rfl rfl
        have e59 : ρ1 (.tmp 59) = .int .i64 (L : Int) := E1.pre 8 rfl rfl
        refine step_plain rfl ?_
        refine op_call (f := 62) (args := #[.int .i64 ((cnt + 1 : Nat) : Int), .int .i64 (L : Int)]) (w' := w1c) (by have hcon := E1.con; have hfn := E1.fn; clear E1; go_simp) ?_
        refine (smark_any (cnt + 1) L _ _ w1c rfl rfl (by omega) (by omega)).mono ?_
        rintro e wx1 ⟨ad, cd, rfl, hod, hbd⟩
        refine ⟨_, rfl, bmod hbd _, ?_⟩
        intro ρ2 w2c G2 E2
        have e54 : ρ2 (.tmp 54) = .pointer (some ⟨g, 0, none⟩) := E2.pre 3 rfl rfl
        have e56 : ρ2 (.tmp 56) = .int .i64 (((cnt + 1) % 2 : Nat) : Int) := E2.pre 5 rfl rfl
        have e60 : ρ2 (.tmp 60) = .slice ad 256 cd := E2.chn 9 60 rfl rfl rfl
        refine step_plain rfl ?_
        have hb02 := bthen (bthen G1 hbd (Nat.le_refl _)) G2 (Nat.le_refl _)
        refine op_call (f := 36) (args := #[.pointer (some ⟨g, 0, none⟩), .int .i64 (((cnt + 1) % 2 : Nat) : Int), .slice ad 256 cd]) (w' := w2c) (by have hcon := E2.con; have hfn := E2.fn; clear E2; go_simp) ?_
        refine ((HD6.out.ext hb02).write hn2 hn (by omega) (((cnt + 1) % 2 : Nat) : Int) ad cd 256 (markB (cnt + 1) L) (fun w' hm => ((hod.ext G2).mod hm fun b _ _ => DF_no_u8 b).src) (by unfold markB; exact (pad_length _).symm) (by decide) Hwr.out).mono ?_
        rintro e wx2 ⟨rfl, hdw2, hMw2⟩
        refine ⟨_, rfl, hMw2, ?_⟩
        intro ρ3 w3c G3 E3
        have e61 : ρ3 (.tmp 61) = .int .i64 Em := E3.chn 10 61 rfl rfl rfl
        refine step_plain rfl ?_
        refine op_val (v := .int .i64 Em) (w' := w3c) (by have hcon := E3.con; clear E3; go_simp) ⟨trivial, ?_⟩
        intro σ wF GF hκ
        have h9 : σ 9 = .int .i64 Em := hκ 11 9 rfl rfl
        clear hκ
        simp only [upd, updL, dstsOf', elemB, List.filterMap_cons, List.filterMap_nil, Nat.reduceAdd, Nat.reduceBEq, Bool.or_false, Bool.false_or, Bool.or_true, Bool.true_or, cond_true, cond_false, Nat.zero_add, h9]
        have hG3F := bthen G3 GF (Nat.le_refl _)
        have hmF := ((bmod hb02 (DF B)).trans hMw2).ext hG3F
        have hzz : w.heap.size ≤ w2c.heap.size := by have := hb02.size; have := Hmod6.out.size; omega
        have HD7 : Hid (DW (fun b => K b ∨ w.heap.size ≤ b) B wF g pg n d3 p3 (m + 119)) := Lib.hid ((hdw2.ext hG3F).mono (fun b' _ hk => by rcases hk with hk | hk; exact hk; exact .inr (Nat.le_trans hzz hk)) (by omega))
        have Hsto7 := Lib.hid (Hsto6.out.df hmF)
        have Hsrc7 := Lib.hid (Hsrc6.out.df hmF)
        have Hmod7 := Lib.hid (Hmod6.out.trans hmF)
        have hg0 : wF.heap[w.heap.size]? = _ := hmF.keep Hg0.out (hno (.inl rfl))
        have hg1 : wF.heap[w.heap.size + 1]? = _ := hmF.keep Hg1.out (hno (.inr (.inl rfl)))
        have HK7d := Lib.hid (hmF.defd HK6.out)
        have Hg07 := Lib.hid hg0
        have Hg17 := Lib.hid hg1
        have c1 := cell_of_row wF (w.heap.size + 1) 0 _ _ _ hg1
        have f1 := frozen_of_row wF (w.heap.size + 1) 0 _ _ hg1
        clear hod hbd hb02 hdw2 hMw2 hG3F G1 G2 G3 GF E1 E2 E3 h9 hmF hg0 hg1 HD6 Hsto6 Hsrc6 Hmod6 HK6 Hg0 Hg1 Hh6
        by_cases hEm : Em = 0
        · subst hEm
          have hs := Hs.out
          rw [if_neg (by simp)] at hs
          obtain ⟨⟨Ey, d4, p4⟩, hsy⟩ : ∃ y, y = d3.sync p3 := ⟨_, rfl⟩
          rw [← hsy] at hs
          have Hsy2 := Lib.hid hsy.symm
          have Hs2 := Lib.hid hs
          obtain ⟨⟨sa7, sc7, hh7, _⟩, _, _⟩ := id Hsto7.out
          have q0 := cell_of_row wF gs 0 _ _ _ hh7
          have r0 := cell_of_row wF w.heap.size 0 _ _ _ Hg07.out
          clear hs hsy c1 f1 Hs hh7
          go_wp2_with fail
          refine (HD7.out.sync hn2 hn (by omega) Hsy2.out).mono ?_
          rintro e w8 ⟨rfl, hd8, hM8⟩
          have HD8 := Lib.hid hd8
          have Hsto8 := Lib.hid (Hsto7.out.df hM8)
          have Hsrc8 := Lib.hid (Hsrc7.out.df hM8)
          have Hmod8 := Lib.hid (Hmod7.out.trans hM8)
          have hg0 : w8.heap[w.heap.size]? = _ := hM8.keep Hg07.out (hno (.inl rfl))
          have hg1 : w8.heap[w.heap.size + 1]? = _ := hM8.keep Hg17.out (hno (.inr (.inl rfl)))
          have HK8 := Lib.hid (hM8.defd HK7d.out)
          have Hg0 := Lib.hid hg0
          have Hg1 := Lib.hid hg1
          have c1 := cell_of_row w8 (w.heap.size + 1) 0 _ _ _ hg1
          have f1 := frozen_of_row w8 (w.heap.size + 1) 0 _ _ hg1
          clear hd8 hM8 hg0 hg1 HD7 Hsto7 Hsrc7 Hmod7 HK7d Hg07 Hg17 q0 r0
          by_cases hEy : Ey = 0
          · subst hEy
            have hs := Hs2.out
            simp only [Prod.mk.injEq] at hs
            obtain ⟨rfl, rfl, rfl⟩ := hs
            obtain ⟨⟨sa8, sc8, hh8, _⟩, hsb8, _⟩ := id Hsto8.out
            have Hh8 := Lib.hid hh8
            have Hsb8 := Lib.hid hsb8
            clear hh8 c1 f1 Hs2 hsb8
            go_wp2_with fail
            refine wp_region_chainL (by kernel_rfl) [4, 7, 10] (Mod.rel (fun b T => b = gs ∧ T = 103)) [SpT.eq (.pointer (some ⟨gs, 0, none⟩)), SpT.eq (.pointer (some ⟨gs, 0, none⟩)), SpT.eq (.int .i64 ((cnt + 1 : Nat) : Int)), SpT.eq (.slice a L c), SpT.top, SpT.eq (.pointer (some ⟨gs, 0, none⟩)), SpT.eq (.pointer (some ⟨gs, 2, none⟩)), SpT.top, SpT.eq (.pointer (some ⟨gs, 0, none⟩)), SpT.eq (.pointer (some ⟨gs, 1, none⟩)), SpT.top] (by kernel_rfl) (by kernel_rfl) (by kernel_rfl) (by kernel_rfl) ?_ ?_
            · refine stepsL_free rfl ?_ (stepsL_free rfl ?_ (stepsL_free rfl ?_ (stepsL_free rfl ?_ (stepsL_chain rfl (stepsL_free rfl ?_ (stepsL_free rfl ?_ (stepsL_chain rfl (stepsL_free rfl ?_ (stepsL_free rfl ?_ (stepsL_chain rfl (stepsL_nil)))))))))))
              · intro ρ w' E
                have e2 : ρ (.tmp 2) = .pointer (some ⟨w.heap.size, 0, none⟩) := E.out 2 rfl
                refine step_plain rfl ?_
                refine op_val (v := .pointer (some ⟨gs, 0, none⟩)) (w' := w') ?_ ⟨Below.refl _ _, rfl⟩
                have hk : w'.cell? ⟨w.heap.size, 0, none⟩ = some (.pointer (some ⟨gs, 0, none⟩)) := cell_of_row _ _ 0 _ _ _ (E.t.keep Hg0.out (fun hf => absurd hf.2 (by decide)))
                have hcon := E.con
                clear E 
                go_simp
              · intro ρ w' E
                have e2 : ρ (.tmp 2) = .pointer (some ⟨w.heap.size, 0, none⟩) := E.out 2 rfl
                refine step_plain rfl ?_
                refine op_val (v := .pointer (some ⟨gs, 0, none⟩)) (w' := w') ?_ ⟨Below.refl _ _, rfl⟩
                have hk : w'.cell? ⟨w.heap.size, 0, none⟩ = some (.pointer (some ⟨gs, 0, none⟩)) := cell_of_row _ _ 0 _ _ _ (E.t.keep Hg0.out (fun hf => absurd hf.2 (by decide)))
                have hcon := E.con
                clear E 
                go_simp
              · intro ρ w' E
                have e5 : ρ (.tmp 5) = .int .i64 ((cnt + 1 : Nat) : Int) := E.out 5 rfl
                refine step_plain rfl ?_
                exact op_move (.inl rfl) e5 ⟨Below.refl _ _, rfl⟩
              · intro ρ w' E
                have e1 : ρ (.tmp 1) = .slice a L c := E.out 1 rfl
                refine step_plain rfl ?_
                exact op_move (.inl rfl) e1 ⟨Below.refl _ _, rfl⟩
              · intro ρ w' E
                have e73 : ρ (.tmp 73) = .pointer (some ⟨gs, 0, none⟩) := E.pre 0 rfl rfl
                refine step_plain rfl ?_
                refine op_val (v := .pointer (some ⟨gs, 0, none⟩)) (w' := w') ?_ ⟨Below.refl _ _, rfl⟩
                have hcon := E.con
                clear E
                go_simp
              · intro ρ w' E
                have e78 : ρ (.tmp 78) = .pointer (some ⟨gs, 0, none⟩) := E.pre 5 rfl rfl
                refine step_plain rfl ?_
                refine op_val (v := .pointer (some ⟨gs, 2, none⟩)) (w' := w') ?_ ⟨Below.refl _ _, rfl⟩
                have hcon := E.con
                clear E
                go_simp
              · intro ρ w' E
                have e74 : ρ (.tmp 74) = .pointer (some ⟨gs, 0, none⟩) := E.pre 1 rfl rfl
                refine step_plain rfl ?_
                refine op_val (v := .pointer (some ⟨gs, 0, none⟩)) (w' := w') ?_ ⟨Below.refl _ _, rfl⟩
                have hcon := E.con
                clear E
                go_simp
              · intro ρ w' E
                have e80 : ρ (.tmp 80) = .pointer (some ⟨gs, 0, none⟩) := E.pre 8 rfl rfl
                refine step_plain rfl ?_
                refine op_val (v := .pointer (some ⟨gs, 1, none⟩)) (w' := w') ?_ ⟨Below.refl _ _, rfl⟩
                have hcon := E.con
                clear E
                go_simp
            · intro ρ1 w1c G1 E1
              have e76 : ρ1 (.tmp 76) = .slice a L c := E1.pre 3 rfl rfl
              refine step_plain rfl ?_
              refine op_call (f := 47) (args := #[.slice a L c]) (w' := w1c) (by have hcon := E1.con; have hfn := E1.fn; clear E1; go_simp) ?_
              refine (clone_at a c L b w1c ((Hsrc8.out.ext G1).src) HL.out (by omega)).mono ?_
              rintro e wx1 ⟨ad, cd, rfl, hod, hbd⟩
              refine ⟨_, rfl, bmod hbd _, ?_⟩
              intro ρ2 w2c G2 E2
              have e79 : ρ2 (.tmp 79) = .pointer (some ⟨gs, 2, none⟩) := E2.pre 6 rfl rfl
              have e75 : ρ2 (.tmp 75) = .int .i64 ((cnt + 1 : Nat) : Int) := E2.pre 2 rfl rfl
              refine step_plain rfl ?_
              have hb02 := bthen (bthen G1 hbd (Nat.le_refl _)) G2 (Nat.le_refl _)
              have hgs2 := (hb02.block gs (heap_lt Hh8.out)).trans Hh8.out
              have hm2 := (Mod.refl (fun b T => b = gs ∧ T = 103) w2c).setCell hgs2 ⟨rfl, rfl⟩ 2 (.int .i64 ((cnt + 1 : Nat) : Int))
              refine op_store rfl e79 e75 rfl (cell_of_row w2c gs 2 _ _ _ hgs2) (frozen_of_row w2c gs 2 _ _ hgs2) (by kernel_rfl) ⟨hm2, ?_⟩
              intro ρ3 w3c G3 E3
              have e81 : ρ3 (.tmp 81) = .pointer (some ⟨gs, 1, none⟩) := E3.pre 9 rfl rfl
              have e77 : ρ3 (.tmp 77) = .slice ad L cd := E3.chn 4 77 rfl rfl rfl
              refine step_plain rfl ?_
              have hgs3 := (G3.block gs (heap_lt (heap_setCell_same w2c gs 2 _ _ (.int .i64 ((cnt + 1 : Nat) : Int)) hgs2))).trans (heap_setCell_same w2c gs 2 _ _ (.int .i64 ((cnt + 1 : Nat) : Int)) hgs2)
              refine op_store rfl e81 e77 rfl (cell_of_row w3c gs 1 _ _ _ hgs3) (frozen_of_row w3c gs 1 _ _ hgs3) (by kernel_rfl) ⟨trivial, ?_⟩
              intro σ wF2 GF hκ
              clear hκ
              simp only [upd, updL, dstsOf', elemB, List.filterMap_cons, List.filterMap_nil, Nat.reduceAdd, Nat.reduceBEq, Bool.or_false, Bool.false_or, Bool.or_true, Bool.true_or, cond_true, cond_false, Nat.zero_add]
              have hm3 := (Mod.refl (fun b T => b = gs ∧ T = 103) w3c).setCell hgs3 ⟨rfl, rfl⟩ 1 (.slice ad L cd)
              have hgs4 := (GF.block gs (heap_lt (heap_setCell_same w3c gs 1 _ _ (.slice ad L cd) hgs3))).trans (heap_setCell_same w3c gs 1 _ _ (.slice ad L cd) hgs3)
              have hmF := ((((bmod hb02 (fun b T => b = gs ∧ T = 103)).trans hm2).ext G3).trans hm3).ext GF
              have hgw : gs < w8.heap.size := heap_lt Hh8.out
              have hnoS : ∀ {b : Nat} {T : TypeId}, T ≠ 103 → ¬ (b = gs ∧ T = 103) := fun h hf => h hf.2
              have hown : Own wF2 w.heap.size 5 1 ad L cd (bvs b) := ((((((hod.ext G2).mod hm2 fun _ _ _ => hnoS (by decide)).ext G3).mod hm3 fun _ _ _ => hnoS (by decide)).ext GF)).mono (by have := Hmod8.out.size; have := G1.size; omega)
              have hgsw : Bs ≤ w.heap.size := Nat.le_trans Hsb8.out hgsl
              have hSO : StO w.heap.size wF2 gs g b (cnt + 1) := ⟨ad, cd, by rw [← HL.out]; exact hgs4, by rw [← HL.out]; exact hown⟩
              have HS9 : Hid (StA Bs wF2 gs g b (cnt + 1)) := Lib.hid (hSO.sta hgsw Hsb8.out (by rw [← HL.out]; exact hL2))
              have HD9 := HD8.out.other hmF (fun b T hf => hf.2)
              have hM9 : Mod (fun b T => DF B b T ∨ b = gs ∧ T = 103) w wF2 := (Hmod8.out.mono fun _ _ _ h => .inl h).trans (hmF.mono fun _ _ _ h => .inr h)
              have hg1 := hmF.keep Hg1.out (hnoS (by decide))
              have hK9 := hmF.defd HK8.out
              have hm := (Mod.refl (fun b T => b = w.heap.size + 1 ∧ T = 27) wF2).setCell hg1 ⟨rfl, rfl⟩ 0 (.int .i64 0)
              have hgE := heap_setCell_same wF2 (w.heap.size + 1) 0 _ _ (.int .i64 0) hg1
              have hK7 : (wF2.setCell ⟨w.heap.size + 1, 0, none⟩ (.int .i64 0)).heap[D0]? = some (.deferred (some [])) := (setCell_ne D0 (by omega)).trans hK9
              have hk := CellsK.of_grown (grownBy_putObj' (wF2.setCell ⟨w.heap.size + 1, 0, none⟩ (.int .i64 0)) D0 (.deferred none)) (fun r e => by cases e; exact ⟨_, hK7, rfl⟩)
              have HDF := Lib.hid ((HD9.otherT hm fun b' T hf => .inr hf.2).ck hk)
              have HSF := Lib.hid (((HS9.out.mod hm (fun b' T hf => by rw [hf.2]; decide) (fun b' _ _ hf => absurd hf.2 (by decide)))).ck hk)
              have HSO := Lib.hid (((hSO.mod hm (fun b' T hf => by rw [hf.2]; decide) (fun b' _ _ hf => absurd hf.2 (by decide)))).ck hk)
              have HgE := Lib.hid (hk.cells _ _ _ _ hgE)
              have HK7 := Lib.hid hK7
              have HmF := Lib.hid ((hM9.andThen hm (fun b' T hb hf => by have := hf.1; omega)).put (grownBy_putObj' _ D0 (.deferred none)) (fun r e => by cases e; omega))
              have c1 := cell_of_row wF2 (w.heap.size + 1) 0 _ _ _ hg1
              have f1 := frozen_of_row wF2 (w.heap.size + 1) 0 _ _ hg1
              clear hm hgE hK7 hk hM9 hg1 hK9 HD9 hSO hown hmF hgs4 hm3 hgs3 hm2 hgs2 hb02 hod hbd G1 G2 G3 GF E1 E2 E3 HD8 Hsto8 Hsrc8 Hmod8 HK8 Hg0 Hg1 Hh8
              go_wp2
              refine ⟨by simp, .inl ⟨_, _, rfl, run_takeDeferred HK7.out, ?_⟩⟩
              exact ⟨_, results_cell1s (p := 4) rfl _ _ (w.heap.size + 1) _ rfl (cell_of_row _ _ 0 _ _ _ HgE.out) (by simp [isAgg, run_underlying Try.underlying27]), rfl, HDF.out, by first | exact HSF.out | (rw [if_pos rfl]; exact HSF.out), by first | exact fun _ => HSO.out | exact HSO.out, HmF.out⟩
          · have hs := Hs2.out
            have hEy' : (Ey != 0) = true := by simpa using hEy
            simp only [Prod.mk.injEq] at hs
            obtain ⟨rfl, rfl, rfl⟩ := hs
            have hm := (Mod.refl (fun b T => b = w.heap.size + 1 ∧ T = 27) w8).setCell Hg1.out ⟨rfl, rfl⟩ 0 (.int .i64 E)
            have hgE := heap_setCell_same w8 (w.heap.size + 1) 0 _ _ (.int .i64 E) Hg1.out
            have hK7 : (w8.setCell ⟨w.heap.size + 1, 0, none⟩ (.int .i64 E)).heap[D0]? = some (.deferred (some [])) := (setCell_ne D0 (by omega)).trans HK8.out
            have hk := CellsK.of_grown (grownBy_putObj' (w8.setCell ⟨w.heap.size + 1, 0, none⟩ (.int .i64 E)) D0 (.deferred none)) (fun r e => by cases e; exact ⟨_, hK7, rfl⟩)
            have HDF := Lib.hid (((HD8.out.otherT hm fun b' T hf => .inr hf.2).ck hk).mono (fun _ _ h => h) (show m+119 ≤ m + 119 by omega))
            have HSF := Lib.hid (((Hsto8.out.mod hm (fun b' T hf => by rw [hf.2]; decide) (fun b' _ _ hf => absurd hf.2 (by decide)))).ck hk)
            have HgE := Lib.hid (hk.cells _ _ _ _ hgE)
            have HK7 := Lib.hid hK7
            have HmF := Lib.hid ((Hmod8.out.andThen hm (fun b' T hb hf => by have := hf.1; omega)).put (grownBy_putObj' _ D0 (.deferred none)) (fun r e => by cases e; omega))
            have HE1 := Lib.hid hEy
            clear hm hgE hK7 hk hEy
            go_wp2
            refine ⟨by simp, .inl ⟨_, _, rfl, run_takeDeferred HK7.out, ?_⟩⟩
            first
              | exact ⟨_, results_cell1s (p := 4) rfl _ _ (w.heap.size + 1) _ rfl (cell_of_row _ _ 0 _ _ _ HgE.out) (by simp [isAgg, run_underlying Try.underlying27]), rfl, HDF.out, by first | exact HSF.out | (rw [if_neg HE1.out]; exact HSF.out), HmF.out.mono fun _ _ _ h => .inl h⟩
              | exact ⟨_, results_cell1s (p := 4) rfl _ _ (w.heap.size + 1) _ rfl (cell_of_row _ _ 0 _ _ _ HgE.out) (by simp [isAgg, run_underlying Try.underlying27]), rfl, HDF.out, by first | exact HSF.out | (rw [if_neg HE1.out]; exact HSF.out), fun h0 => absurd h0 HE1.out, HmF.out.mono fun _ _ _ h => .inl h⟩
        · have hs := Hs.out
          rw [if_pos hEm] at hs
          have hEm' : (Em != 0) = true := by simpa using hEm
          simp only [Prod.mk.injEq] at hs
          obtain ⟨rfl, rfl, rfl⟩ := hs
          have hm := (Mod.refl (fun b T => b = w.heap.size + 1 ∧ T = 27) wF).setCell Hg17.out ⟨rfl, rfl⟩ 0 (.int .i64 E)
          have hgE := heap_setCell_same wF (w.heap.size + 1) 0 _ _ (.int .i64 E) Hg17.out
          have hK7 : (wF.setCell ⟨w.heap.size + 1, 0, none⟩ (.int .i64 E)).heap[D0]? = some (.deferred (some [])) := (setCell_ne D0 (by omega)).trans HK7d.out
          have hk := CellsK.of_grown (grownBy_putObj' (wF.setCell ⟨w.heap.size + 1, 0, none⟩ (.int .i64 E)) D0 (.deferred none)) (fun r e => by cases e; exact ⟨_, hK7, rfl⟩)
          have HDF := Lib.hid (((HD7.out.otherT hm fun b' T hf => .inr hf.2).ck hk).mono (fun _ _ h => h) (show m+119 ≤ m + 119 by omega))
          have HSF := Lib.hid (((Hsto7.out.mod hm (fun b' T hf => by rw [hf.2]; decide) (fun b' _ _ hf => absurd hf.2 (by decide)))).ck hk)
          have HgE := Lib.hid (hk.cells _ _ _ _ hgE)
          have HK7 := Lib.hid hK7
          have HmF := Lib.hid ((Hmod7.out.andThen hm (fun b' T hb hf => by have := hf.1; omega)).put (grownBy_putObj' _ D0 (.deferred none)) (fun r e => by cases e; omega))
          have HE1 := Lib.hid hEm
          clear hm hgE hK7 hk hEm
          go_wp2
          refine ⟨by simp, .inl ⟨_, _, rfl, run_takeDeferred HK7.out, ?_⟩⟩
          first
            | exact ⟨_, results_cell1s (p := 4) rfl _ _ (w.heap.size + 1) _ rfl (cell_of_row _ _ 0 _ _ _ HgE.out) (by simp [isAgg, run_underlying Try.underlying27]), rfl, HDF.out, by first | exact HSF.out | (rw [if_neg HE1.out]; exact HSF.out), HmF.out.mono fun _ _ _ h => .inl h⟩
            | exact ⟨_, results_cell1s (p := 4) rfl _ _ (w.heap.size + 1) _ rfl (cell_of_row _ _ 0 _ _ _ HgE.out) (by simp [isAgg, run_underlying Try.underlying27]), rfl, HDF.out, by first | exact HSF.out | (rw [if_neg HE1.out]; exact HSF.out), fun h0 => absurd h0 HE1.out, HmF.out.mono fun _ _ _ h => .inl h⟩
    · have hs := Hsv.out
      rw [if_pos hE1] at hs
      have hE1' : (E1 != 0) = true := by simpa using hE1
      simp only [Prod.mk.injEq] at hs
      obtain ⟨rfl, rfl, rfl⟩ := hs
      have hm := (Mod.refl (fun b T => b = w.heap.size + 1 ∧ T = 27) w6).setCell Hg1.out ⟨rfl, rfl⟩ 0 (.int .i64 E)
      have hgE := heap_setCell_same w6 (w.heap.size + 1) 0 _ _ (.int .i64 E) Hg1.out
      have hK7 : (w6.setCell ⟨w.heap.size + 1, 0, none⟩ (.int .i64 E)).heap[D0]? = some (.deferred (some [])) := (setCell_ne D0 (by omega)).trans HK6.out
      have hk := CellsK.of_grown (grownBy_putObj' (w6.setCell ⟨w.heap.size + 1, 0, none⟩ (.int .i64 E)) D0 (.deferred none)) (fun r e => by cases e; exact ⟨_, hK7, rfl⟩)
      have HDF := Lib.hid (((HD6.out.otherT hm fun b' T hf => .inr hf.2).ck hk).mono (fun _ _ h => h) (show m+118 ≤ m + 119 by omega))
      have HSF := Lib.hid (((Hsto6.out.mod hm (fun b' T hf => by rw [hf.2]; decide) (fun b' _ _ hf => absurd hf.2 (by decide)))).ck hk)
      have HgE := Lib.hid (hk.cells _ _ _ _ hgE)
      have HK7 := Lib.hid hK7
      have HmF := Lib.hid ((Hmod6.out.andThen hm (fun b' T hb hf => by have := hf.1; omega)).put (grownBy_putObj' _ D0 (.deferred none)) (fun r e => by cases e; omega))
      have HE1 := Lib.hid hE1
      clear hm hgE hK7 hk hE1
      go_wp2
      refine ⟨by simp, .inl ⟨_, _, rfl, run_takeDeferred HK7.out, ?_⟩⟩
      first
        | exact ⟨_, results_cell1s (p := 4) rfl _ _ (w.heap.size + 1) _ rfl (cell_of_row _ _ 0 _ _ _ HgE.out) (by simp [isAgg, run_underlying Try.underlying27]), rfl, HDF.out, by first | exact HSF.out | (rw [if_neg HE1.out]; exact HSF.out), HmF.out.mono fun _ _ _ h => .inl h⟩
        | exact ⟨_, results_cell1s (p := 4) rfl _ _ (w.heap.size + 1) _ rfl (cell_of_row _ _ 0 _ _ _ HgE.out) (by simp [isAgg, run_underlying Try.underlying27]), rfl, HDF.out, by first | exact HSF.out | (rw [if_neg HE1.out]; exact HSF.out), fun h0 => absurd h0 HE1.out, HmF.out.mono fun _ _ _ h => .inl h⟩
  case stop =>
    rintro D0 c0 pre W hD0 ⟨k, hk, rfl⟩ ⟨rfl, E', hE', hJ⟩ hK
    have hG := grownBy_putObj' W D0 (.deferred none)
    obtain ⟨hmodJ, hszJ, hJ0, hJ1, hsto, hsrc, d1, p1, hw1', hdw⟩ := hJ.grown (by omega) hG (fun r e => by cases e; exact ⟨hD0, _, hK, rfl⟩)
    have hsv : saveP D p cnt b (rowsS b) = (E', d1, p1) := by
      have hsp : rowsS b = (List.range k).map (rowS b) ++ ((List.range ((b.length + 256 - 1) / 256)).drop k).map (rowS b) := by
        unfold rowsS
        rw [← List.map_append]
        congr 1
        have h1 : List.range k = (List.range ((b.length + 256 - 1) / 256)).take k := by
          rw [List.take_range]
          congr 1
          have := HL.out
          omega
        rw [h1, List.take_append_drop]
      have hst : (wrP at_ ((List.range k).map (rowS b)) D p).1 ≠ 0 := by rw [hw1']; exact hE'
      have := wrP_stop (((List.range ((b.length + 256 - 1) / 256)).drop k).map (rowS b)) _ at_ D p hst
      rw [← hsp, hw1'] at this
      unfold saveP
      rw [← Hat.out, this, if_pos hE']
    rw [hsv] at Hr
    have hr := Hr.out
    simp only [Prod.mk.injEq] at hr
    obtain ⟨rfl, rfl, rfl⟩ := hr
    have hk119 : k ≤ 119 := by omega
    have HDW := Lib.hid (hdw.mono (fun _ _ h => h) (show m + (List.range k).length ≤ m + 119 by rw [List.length_range]; omega))
    have HK := Lib.hid hK
    have HJ1 := Lib.hid hJ1
    have Hsto := Lib.hid hsto
    have Hmod := Lib.hid hmodJ
    have HE' := Lib.hid hE'
    clear hG hJ hK hJ0 hJ1 hsto hmodJ hsrc hdw hw1' hsv hE'
    refine wpIn_ret ?_
    refine ⟨by simp, .inl ⟨_, _, rfl, run_takeDeferred HK.out, ?_⟩⟩
    exact ⟨_, results_cell1s (p := 4) rfl _ _ (w.heap.size + 1) _ rfl (cell_of_row _ _ 0 _ _ _ HJ1.out) (by simp [isAgg, run_underlying Try.underlying27]), rfl, HDW.out, by rw [if_neg HE'.out]; exact Hsto.out, fun h0 => absurd h0 HE'.out, Hmod.out.mono fun _ _ _ h => .inl h⟩
  case body =>
    rintro l0 pre x W ⟨hJ, hA, hC1, hC2⟩ hlt
    have hL0 : 0 < L := by
      rcases Nat.eq_zero_or_pos L with h | h
      · subst h
        simp at hlt
      · exact h
    obtain ⟨hmodJ, hszJ, hJ0, hJ1, hsto, hsrc, d1, p1, hw1', hdw⟩ := hJ
    obtain ⟨⟨sa, sc, hJs, _⟩, _, _⟩ := id hsto
    obtain ⟨x2, o2, rfl⟩ : ∃ x o, a = some ⟨x, o, none⟩ := by
      rcases hsrc with h | ⟨b', o', _, _, _, ha, _⟩
      · have := congrArg List.length h
        rw [bvs_length, ← HL.out] at this
        simp at this
        omega
      · exact ⟨b', o', ha⟩
    obtain ⟨mm, hmm⟩ : ∃ mm, mm = min 256 (L - x * 256) := ⟨_, rfl⟩
    have hcv : chunkW (some ⟨x2, o2, none⟩) L 256 x = .slice (some ⟨x2, o2 + x * 256, none⟩) mm mm := by unfold chunkW chunkV; rw [← hmm]
    have Hrl : Hid (mm = (rowS b x).length) := Lib.hid (by unfold rowS; rw [List.length_take, List.length_drop, ← HL.out]; exact hmm)
    have Hsx : Hid (Src W (some ⟨x2, o2 + x * 256, none⟩) (bvs (rowS b x))) := Lib.hid (by
      have := hsrc.src.sub (x * 256) 256
      unfold rowS
      rw [bvs_take, bvs_drop]
      exact this)
    obtain ⟨q, hq⟩ : ∃ q, q = at_ + pre.length := ⟨_, rfl⟩
    rw [← hq] at hA
    have Hq := Lib.hid hq
    obtain ⟨⟨Ew, d2, p2⟩, hwr⟩ : ∃ y, y = d1.write p1 (q : Int) (pad (rowS b x)) := ⟨_, rfl⟩
    have Hwr := Lib.hid hwr.symm
    have HDW := Lib.hid hdw
    have Hpre : Hid (pre.length ≤ 200) := Lib.hid (by omega)
    have hmq : m + pre.length ≤ 100000 := by omega
    have hm256 : mm ≤ 256 := by omega
    have hnoI : ¬ DF B w3.heap.size 3 := by rintro ⟨_, hf⟩; revert hf; decide
    have Hw1' := Lib.hid hw1'
    have HmodJ := Lib.hid hmodJ
    have Hsto := Lib.hid hsto
    have Hsrc := Lib.hid hsrc
    clear hmm hq hwr hw1' hmodJ hsto hsrc hdw hlt
    rw [hcv]
    clear hcv
    gi_wp2_with fail
    refine wpR_region_chainL (by kernel_rfl) [6, 7, 8] (Mod.rel (DF B)) [SpT.eq (.pointer (some ⟨gs, 0, none⟩)), SpT.eq (.pointer (some ⟨gs, 0, none⟩)), SpT.eq (.pointer (some ⟨gs, 0, none⟩)), SpT.eq (.pointer (some ⟨g, 0, none⟩)), SpT.eq (.int .i64 (q : Int)), SpT.eq (.slice (some ⟨x2, o2 + x * 256, none⟩) mm mm), SpT.top, SpT.top, SpT.top] (by kernel_rfl) (by kernel_rfl) (by kernel_rfl) (by kernel_rfl) (by kernel_rfl) ?_ ?_
    · refine stepsL_free rfl ?_ (stepsL_free rfl ?_ (stepsL_free rfl ?_ (stepsL_free rfl ?_ (stepsL_free rfl ?_ (stepsL_free rfl ?_ (stepsL_chain rfl (stepsL_chain rfl (stepsL_chain rfl (stepsL_nil)))))))))
      · intro ρ w' E
        have e2 : ρ (.tmp 2) = .pointer (some ⟨w.heap.size, 0, none⟩) := E.out 2 rfl
        refine step_plain rfl ?_
        refine op_val (v := .pointer (some ⟨gs, 0, none⟩)) (w' := w') ?_ ⟨Below.refl _ _, rfl⟩
        have hk : w'.cell? ⟨w.heap.size, 0, none⟩ = some (.pointer (some ⟨gs, 0, none⟩)) := cell_of_row _ _ 0 _ _ _ (E.t.keep hJ0 (hno (.inl rfl)))
        have hcon := E.con
        clear E 
        go_simp
      · intro ρ w' E
        have e30 : ρ (.tmp 30) = .pointer (some ⟨gs, 0, none⟩) := E.pre 0 rfl rfl
        refine step_plain rfl ?_
        refine op_val (v := .pointer (some ⟨gs, 0, none⟩)) (w' := w') ?_ ⟨Below.refl _ _, rfl⟩
        have hcon := E.con
        clear E
        go_simp
      · intro ρ w' E
        have e31 : ρ (.tmp 31) = .pointer (some ⟨gs, 0, none⟩) := E.pre 1 rfl rfl
        refine step_plain rfl ?_
        refine op_val (v := .pointer (some ⟨gs, 0, none⟩)) (w' := w') ?_ ⟨Below.refl _ _, rfl⟩
        have hcon := E.con
        clear E
        go_simp
      · intro ρ w' E
        have e32 : ρ (.tmp 32) = .pointer (some ⟨gs, 0, none⟩) := E.pre 2 rfl rfl
        refine step_plain rfl ?_
        refine op_val (v := .pointer (some ⟨g, 0, none⟩)) (w' := w') ?_ ⟨Below.refl _ _, rfl⟩
        have hk : w'.cell? ⟨gs, 0, none⟩ = some (.pointer (some ⟨g, 0, none⟩)) := cell_of_row _ _ 0 _ _ _ (E.t.keep hJs (hno (.inr (.inr rfl))))
        have hcon := E.con
        clear E 
        go_simp
      · intro ρ w' E
        have e6 : ρ (.tmp 6) = .pointer (some ⟨w3.heap.size, 0, none⟩) := E.out 6 rfl
        refine step_plain rfl ?_
        refine op_val (v := .int .i64 (q : Int)) (w' := w') ?_ ⟨Below.refl _ _, rfl⟩
        have hk : w'.cell? ⟨w3.heap.size, 0, none⟩ = some (.int .i64 (q : Int)) := cell_of_row _ _ 0 _ _ _ (E.t.keep hA hnoI)
        have hcon := E.con
        clear E 
        go_simp
      · intro ρ w' E
        have e7 : ρ (.tmp 7) = .slice (some ⟨x2, o2 + x * 256, none⟩) mm mm := E.out 7 rfl
        refine step_plain rfl ?_
        exact op_move (.inl rfl) e7 ⟨Below.refl _ _, rfl⟩
    · intro ρ1 w1c G1 E1
      have e35 : ρ1 (.tmp 35) = .slice (some ⟨x2, o2 + x * 256, none⟩) mm mm := E1.pre 5 rfl rfl
      refine step_plain rfl ?_
      refine op_call (f := 60) (args := #[.slice (some ⟨x2, o2 + x * 256, none⟩) mm mm]) (w' := w1c) (by have hcon := E1.con; have hfn := E1.fn; clear E1; go_simp) ?_
      refine (ssector_any _ _ mm (rowS b x) w1c (Hsx.out.ext G1) Hrl.out (by omega)).mono ?_
      rintro e wx1 ⟨ad, cd, rfl, hod, hbd⟩
      refine ⟨_, rfl, bmod hbd _, ?_⟩
      intro ρ2 w2c G2 E2
      have e33 : ρ2 (.tmp 33) = .pointer (some ⟨g, 0, none⟩) := E2.pre 3 rfl rfl
      have e34 : ρ2 (.tmp 34) = .int .i64 (q : Int) := E2.pre 4 rfl rfl
      have e36 : ρ2 (.tmp 36) = .slice ad 256 cd := E2.chn 6 36 rfl rfl rfl
      refine step_plain rfl ?_
      have hb02 := bthen (bthen G1 hbd (Nat.le_refl _)) G2 (Nat.le_refl _)
      refine op_call (f := 36) (args := #[.pointer (some ⟨g, 0, none⟩), .int .i64 (q : Int), .slice ad 256 cd]) (w' := w2c) (by have hcon := E2.con; have hfn := E2.fn; clear E2; go_simp) ?_
      refine ((HDW.out.ext hb02).write hn2 hn (by omega) (q : Int) ad cd 256 (pad (rowS b x)) (fun w' hm => ((hod.ext G2).mod hm fun b _ _ => DF_no_u8 b).src) (pad_length _).symm (by decide) Hwr.out).mono ?_
      rintro e wx2 ⟨rfl, hdw2, hMw2⟩
      refine ⟨_, rfl, hMw2, ?_⟩
      intro ρ3 w3c G3 E3
      have e37 : ρ3 (.tmp 37) = .int .i64 Ew := E3.chn 7 37 rfl rfl rfl
      refine step_plain rfl ?_
      refine op_val (v := .int .i64 Ew) (w' := w3c) (by have hcon := E3.con; clear E3; go_simp) ⟨trivial, ?_⟩
      intro σ wF GF hκ
      have h8 : σ 8 = .int .i64 Ew := hκ 8 8 rfl rfl
      clear hκ
      simp only [upd, updL, dstsOf', elemB, List.filterMap_cons, List.filterMap_nil, Nat.reduceAdd, Nat.reduceBEq, Bool.or_false, Bool.false_or, Bool.or_true, Bool.true_or, cond_true, cond_false, Nat.zero_add, h8]
      have hG3F := bthen G3 GF (Nat.le_refl _)
      have HmF := Lib.hid (((bmod hb02 (DF B)).trans hMw2).ext hG3F)
      have hzz : w.heap.size ≤ w2c.heap.size := by have := hb02.size; omega
      have HDF : Hid (DW (fun b => K b ∨ w.heap.size ≤ b) B wF g pg n d2 p2 (m + (pre.length + 1))) := Lib.hid ((hdw2.ext hG3F).mono (fun b' _ hk => by rcases hk with hk | hk; exact hk; exact .inr (Nat.le_trans hzz hk)) (by omega))
      have Hsnoc : Hid (wrP at_ ((pre ++ [x]).map (rowS b)) D p = (Ew, d2, p2)) := Lib.hid (by
        rw [List.map_append]
        have := wrP_snoc (rowS b x) _ _ _ _ _ _ Hw1'.out
        rw [List.length_map, ← Hq.out, Hwr.out] at this
        exact this)
      clear hod hbd hb02 hdw2 hMw2 hG3F G1 G2 G3 GF E1 E2 E3 h8
      have hF0 := HmF.out.keep hJ0 (hno (.inl rfl))
      have hF1 := HmF.out.keep hJ1 (hno (.inr (.inl rfl)))
      have hFA := HmF.out.keep hA hnoI
      have c1 := cell_of_row wF (w.heap.size + 1) 0 _ _ _ hF1
      have f1 := frozen_of_row wF (w.heap.size + 1) 0 _ _ hF1
      have cA := cell_of_row wF w3.heap.size 0 _ _ _ hFA
      have fA := frozen_of_row wF w3.heap.size 0 _ _ hFA
      have hC1F : wF.heap[w3.heap.size + 1]? = _ := HmF.out.keep hC1 (by rintro ⟨_, hf⟩; revert hf; decide)
      have hC2F : wF.heap[w3.heap.size + 1 + 1]? = _ := HmF.out.keep hC2 (by rintro ⟨_, hf⟩; revert hf; decide)
      have HF0 := Lib.hid hF0
      have HF1 := Lib.hid hF1
      have HFA := Lib.hid hFA
      have HC1F := Lib.hid hC1F
      have HC2F := Lib.hid hC2F
      have HC1 := Lib.hid hC1
      have HC2 := Lib.hid hC2
      have hsF := HmF.out.size
      have hq9 : q ≤ 1000000 := by have := Hq.out; have := Hpre.out; omega
      clear hF0 hF1 hFA hC1F hC2F hC1 hC2 hJ0 hJ1 hJs hA
      by_cases hEw : Ew = 0
      · subst hEw
        have hm := (Mod.refl (fun b T => b = w3.heap.size ∧ T = 3) wF).setCell HFA.out ⟨rfl, rfl⟩ 0 (.int .i64 ((q : Int) + 1))
        have hgA := heap_setCell_same wF w3.heap.size 0 _ _ (.int .i64 ((q : Int) + 1)) HFA.out
        have hno2 : ∀ {b : Nat} {T : TypeId}, (b ≠ w3.heap.size ∨ T ≠ 3) → ¬ (b = w3.heap.size ∧ T = 3) := fun h hf => by
          rcases h with h | h
          · exact h hf.1
          · exact h hf.2
        have HJ : Hid (SaveJ K B Bs w gs g pg n D p m s cnt (some ⟨x2, o2, none⟩) b at_ w5.heap.size 0 (pre ++ [x]) (wF.setCell ⟨w3.heap.size, 0, none⟩ (.int .i64 ((q : Int) + 1)))) := Lib.hid
          ⟨(HmodJ.out.trans HmF.out).andThen hm (fun b' T hb hf => by have := hf.1; omega), Nat.le_trans hszJ (Nat.le_trans hsF hm.size), hm.keep HF0.out (hno2 (.inr (by decide))), hm.keep HF1.out (hno2 (.inr (by decide))),
            (Hsto.out.df HmF.out).mod hm (fun b' T hf => by rw [hf.2]; decide) (fun b' _ _ => hno2 (.inr (by decide))), (Hsrc.out.df HmF.out).mod hm (fun b' T hf => ⟨by rw [hf.1]; omega, by rw [hf.2]; decide⟩),
            d2, p2, Hsnoc.out, by rw [List.length_append, List.length_singleton]; exact HDF.out.otherT hm fun b' T hf => .inl hf.2⟩
        have HgA : Hid ((wF.setCell ⟨w3.heap.size, 0, none⟩ (.int .i64 ((q : Int) + 1))).heap[w3.heap.size]? = some (.cells #[.int .i64 ((at_ + (pre ++ [x]).length : Nat) : Int)] 3 (0, 0))) := Lib.hid (by
          rw [hgA, List.length_append, List.length_singleton, ← Nat.add_assoc, ← Hq.out]
          rfl)
        have hc1' := hm.keep HC1F.out (hno2 (.inr (by decide)))
        have hc2' := hm.keep HC2F.out (hno2 (.inl (by omega)))
        have HKp : Hid (KpC (w3.heap.size + 1) (w3.heap.size + 1 + 1) W (wF.setCell ⟨w3.heap.size, 0, none⟩ (.int .i64 ((q : Int) + 1)))) := Lib.hid ⟨Nat.le_trans hsF hm.size, hc1'.trans HC1.out.symm, hc2'.trans HC2.out.symm⟩
        have HKf := Lib.hid (((HmF.out.mono (G := fun _ _ => True) fun _ _ _ _ => trivial).trans (hm.mono (G := fun _ _ => True) fun _ _ _ _ => trivial)).keepsFromS w5.heap.size)
        have Hc1' := Lib.hid hc1'
        have Hc2' := Lib.hid hc2'
        clear hm hgA hc1' hc2'
        gi_wp2_with fail
        exact ⟨HKf.out, HKp.out, HJ.out, HgA.out, Hc1'.out, Hc2'.out⟩
      · have hEw' : (Ew != 0) = true := by simpa using hEw
        have hm := (Mod.refl (fun b T => b = w.heap.size + 1 ∧ T = 27) wF).setCell HF1.out ⟨rfl, rfl⟩ 0 (.int .i64 Ew)
        have hgE := heap_setCell_same wF (w.heap.size + 1) 0 _ _ (.int .i64 Ew) HF1.out
        have hno2 : ∀ {b : Nat} {T : TypeId}, T ≠ 27 → ¬ (b = w.heap.size + 1 ∧ T = 27) := fun h hf => h hf.2
        have HJ : Hid (SaveJ K B Bs w gs g pg n D p m s cnt (some ⟨x2, o2, none⟩) b at_ w5.heap.size Ew (pre ++ [x]) (wF.setCell ⟨w.heap.size + 1, 0, none⟩ (.int .i64 Ew))) := Lib.hid
          ⟨(HmodJ.out.trans HmF.out).andThen hm (fun b' T hb hf => by have := hf.1; omega), Nat.le_trans hszJ (Nat.le_trans hsF hm.size), hm.keep HF0.out (hno2 (by decide)), hgE,
            (Hsto.out.df HmF.out).mod hm (fun b' T hf => by rw [hf.2]; decide) (fun b' _ _ => hno2 (by decide)), (Hsrc.out.df HmF.out).mod hm (fun b' T hf => ⟨by rw [hf.1]; omega, by rw [hf.2]; decide⟩),
            d2, p2, Hsnoc.out, by rw [List.length_append, List.length_singleton]; exact HDF.out.otherT hm fun b' T hf => .inr hf.2⟩
        have HKf := Lib.hid (((HmF.out.mono (G := fun _ _ => True) fun _ _ _ _ => trivial).trans (hm.mono (G := fun _ _ => True) fun _ _ _ _ => trivial)).keepsFromS w5.heap.size)
        have HEw := Lib.hid hEw
        clear hm hgE hEw
        gi_wp2_with fail
        exact ⟨HKf.out, rfl, Ew, HEw.out, HJ.out⟩
end Go.Proofs.Ytogcejmnhiphgaa
