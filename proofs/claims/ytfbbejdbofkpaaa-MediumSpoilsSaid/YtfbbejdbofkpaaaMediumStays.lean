/- The walk of MediumStays. -/
import Derived.Test.YtfbbejdbofkpaaaTapeAt
namespace Go.Proofs.Ytfbbejdbofkpaaa
open Go.RowKit

theorem marks_snoc (cs : List CellP) (x : CellP) : marks (cs ++ [x]) = marks cs + (if x.kind = 2 then 1 else 0) := by
  rw [marks_append, show ([x] : List CellP) = x :: [] from rfl, marks_cons]
  simp [marks]
theorem Med.lay_len {m : Med} {p : Nat} (hp : p ≤ m.cells.length) (x : CellP) : (m.lay p x).cells.length = p + 1 := by
  show (m.cells.take p ++ [x]).length = p + 1
  rw [List.length_append, List.length_take, Nat.min_eq_left hp]; rfl
theorem Med.lay_ok {m : Med} (h : m.ok = true) {p : Nat} (hp : p ≤ m.cells.length) (hc : (p : Int) < m.cap) {x : CellP} (hx : x.right = true) : (m.lay p x).ok = true := by
  have hl := Med.lay_len hp x
  rw [Med.ok_iff] at h ⊢
  obtain ⟨⟨h1, h2, h3⟩, h4⟩ := h
  refine ⟨⟨h1, h2, by rw [hl]; show ((p + 1 : Nat) : Int) ≤ m.cap; omega⟩, fun c hc => ?_⟩
  rcases List.mem_append.1 (show c ∈ m.cells.take p ++ [x] from hc) with h | h
  · exact h4 c (List.mem_of_mem_take h)
  · rw [List.mem_singleton.1 h]; exact hx
theorem Med.read_at {m : Med} (h : m.ok = true) {p : Nat} {x : CellP} (hx : m.cells[p]? = some x) : m.read (p : Int) = (if x.kind = 2 then ([], 15) else if x.kind = 3 ∨ x.bad = true then ([], 6) else (x.data, 0)) := by
  have hl := (List.getElem?_eq_some_iff.1 hx).1
  unfold Med.read Med.look
  rw [if_neg (by rw [h]; decide), if_neg (by omega), Int.toNat_natCast, hx]
theorem Med.lay_get {m : Med} {p : Nat} (hp : p ≤ m.cells.length) (x : CellP) : (m.lay p x).cells[p]? = some x := by
  show (m.cells.take p ++ [x])[p]? = _
  rw [List.getElem?_append_right (by rw [List.length_take]; omega), List.length_take, Nat.min_eq_left hp, Nat.sub_self]; rfl
theorem Med.lay_low {m : Med} {p i : Nat} (hi : i < p) (hp : p ≤ m.cells.length) (x : CellP) : (m.lay p x).cells[i]? = m.cells[i]? := by
  show (m.cells.take p ++ [x])[i]? = _
  rw [List.getElem?_append_left (by rw [List.length_take]; omega), List.getElem?_take, if_pos hi]
theorem Med.read_same {m m' : Med} (h : m.ok = true) (h' : m'.ok = true) {i : Nat} (he : m'.cells[i]? = m.cells[i]?) (hi : i < m.cells.length) : m'.read (i : Int) = m.read (i : Int) := by
  rw [Med.read_at h (List.getElem?_eq_getElem hi), Med.read_at h' (he.trans (List.getElem?_eq_getElem hi))]

/-- What the law says of the tapes written. -/
structure StaysP (m : Med) (cap : Int) (p : Nat) (b : List Byte) (F : Nat) : Prop where
  wr : m.write (p : Int) b = (⟨cap, m.cells.take p ++ [⟨1, b, false⟩]⟩, 0)
  mr : m.mark (p : Int) = (⟨cap, m.cells.take p ++ [⟨2, [], false⟩]⟩, 0)
  en : m.end_ (p : Int) = (⟨cap, m.cells.take p⟩, 0)
  cW : (Med.mk cap (m.cells.take p ++ [⟨1, b, false⟩])).ok = true
  cK : (Med.mk cap (m.cells.take p ++ [⟨2, [], false⟩])).ok = true
  cD : (Med.mk cap (m.cells.take p)).ok = true
  rW : (Med.mk cap (m.cells.take p ++ [⟨1, b, false⟩])).read (p : Int) = (b, 0)
  rK : (Med.mk cap (m.cells.take p ++ [⟨2, [], false⟩])).read (p : Int) = ([], 15)
  rD : (Med.mk cap (m.cells.take p)).read (p : Int) = ([], 8)
  fW : (Med.mk cap (m.cells.take p ++ [⟨1, b, false⟩])).files = (F : Int)
  fK : (Med.mk cap (m.cells.take p ++ [⟨2, [], false⟩])).files = (F : Int) + 1
  fD : (Med.mk cap (m.cells.take p)).files = (F : Int)
  low : ∀ i, i < p → (Med.mk cap (m.cells.take p ++ [⟨1, b, false⟩])).read (i : Int) = m.read (i : Int)
theorem wrong_zero {m : Med} {p : Nat} (hp : p ≤ m.cells.length) (hc : (p : Int) < m.cap) (n : Nat) (blk : Bool) (hn : blk = true → 1 ≤ n ∧ n ≤ 256) : m.wrong (p : Int) n blk = 0 := by
  unfold Med.wrong
  rw [if_neg (by omega), if_neg (by rintro ⟨h1, h2⟩; have := hn h1; omega), if_neg (by omega)]
theorem wrong_full {m : Med} {p : Nat} (hp : p ≤ m.cells.length) (hc : (p : Int) = m.cap) (n : Nat) (blk : Bool) (hn : blk = true → 1 ≤ n ∧ n ≤ 256) : m.wrong (p : Int) n blk = 7 := by
  unfold Med.wrong
  rw [if_neg (by omega), if_neg (by rintro ⟨h1, h2⟩; have := hn h1; omega), if_pos hc]
theorem Med.write_full {m : Med} (h : m.ok = true) {p : Nat} (hp : p ≤ m.cells.length) (hc : (p : Int) = m.cap) {b : List Byte} (hb : 1 ≤ b.length ∧ b.length ≤ 256) : m.write (p : Int) b = (Med.none, 7) := by
  unfold Med.write
  rw [if_neg (by rw [h]; decide), wrong_full hp hc _ _ (fun _ => hb), if_pos (by decide)]
theorem Med.mark_full {m : Med} (h : m.ok = true) {p : Nat} (hp : p ≤ m.cells.length) (hc : (p : Int) = m.cap) : m.mark (p : Int) = (Med.none, 7) := by
  unfold Med.mark
  rw [if_neg (by rw [h]; decide), wrong_full hp hc _ _ (by simp), if_pos (by decide)]
theorem Med.write_ok {m : Med} (h : m.ok = true) {p : Nat} (hp : p ≤ m.cells.length) (hc : (p : Int) < m.cap) {b : List Byte} (hb : 1 ≤ b.length ∧ b.length ≤ 256) : m.write (p : Int) b = (m.lay p ⟨1, b, false⟩, 0) := by
  unfold Med.write
  rw [if_neg (by rw [h]; decide), wrong_zero hp hc _ _ (fun _ => hb), if_neg (by decide), Int.toNat_natCast]
theorem Med.mark_ok {m : Med} (h : m.ok = true) {p : Nat} (hp : p ≤ m.cells.length) (hc : (p : Int) < m.cap) : m.mark (p : Int) = (m.lay p ⟨2, [], false⟩, 0) := by
  unfold Med.mark
  rw [if_neg (by rw [h]; decide), wrong_zero hp hc _ _ (by simp), if_neg (by decide), Int.toNat_natCast]
theorem right_blk {b : List Byte} (hb : 1 ≤ b.length ∧ b.length ≤ 256) : (CellP.mk 1 b false).right = true := by
  unfold CellP.right rightC
  rw [decide_eq_true_eq]
  exact .inl ⟨rfl, hb.1, hb.2⟩
theorem staysP {m : Med} (h : m.ok = true) {p : Nat} (hp : p ≤ m.cells.length) (hc : (p : Int) < m.cap) {b : List Byte} (hb : 1 ≤ b.length ∧ b.length ≤ 256) : StaysP m m.cap p b (marks (m.cells.take p)) := by
  have kW : (m.lay p ⟨1, b, false⟩).ok = true := Med.lay_ok h hp hc (right_blk hb)
  have kK : (m.lay p ⟨2, [], false⟩).ok = true := Med.lay_ok h hp hc (by decide)
  have kD := Med.ok_take h p
  have hl : (m.cells.take p).length = p := by rw [List.length_take]; omega
  refine ⟨Med.write_ok h hp hc hb, Med.mark_ok h hp hc, Med.end_ok h hp, kW, kK, kD, ?_, ?_, ?_, ?_, ?_, Med.files_ok kD, fun i hi => Med.read_same h kW (Med.lay_low hi hp _) (by omega)⟩
  · exact (Med.read_at kW (Med.lay_get hp _)).trans (by simp)
  · exact (Med.read_at kK (Med.lay_get hp _)).trans (by simp)
  · have := Med.read_past kD
    rwa [show (Med.mk m.cap (m.cells.take p)).cells.length = p from hl] at this
  · exact (Med.files_ok kW).trans (by show ((marks (m.cells.take p ++ [_]) : Nat) : Int) = _; rw [marks_snoc]; simp)
  · exact (Med.files_ok kK).trans (by show ((marks (m.cells.take p ++ [_]) : Nat) : Int) = _; rw [marks_snoc]; rfl)

theorem Med.read_short {m : Med} {K : Nat} (h : ∀ c ∈ m.cells, c.data.length ≤ K) (p : Int) : (m.read p).1.length ≤ K := by
  unfold Med.read Med.look
  split
  · exact Nat.zero_le _
  split
  · exact Nat.zero_le _
  split
  · exact Nat.zero_le _
  · rename_i c hc
    split
    · exact Nat.zero_le _
    split
    · exact Nat.zero_le _
    exact h c (List.mem_of_getElem? hc)

set_option maxRecDepth 100000 in
set_option maxHeartbeats 16000000 in
theorem mediumStays_walk (w : World) (cap : Int) (a : Option Addr) (c : Nat) (cs : List CellV) (hs : CMat w a cs) (hl : cs.length ≤ 9223372036854775807) (hlc : cs.length ≤ c) (pI : Int) (wp : (Lit.int .i64 pI).wf = true) (ab : Option Addr) (cb : Nat) (lb : List Byte) (hsb : Src w ab (bvs lb)) (hlb : lb.length ≤ 9223372036854775807) (klb : lb.length ≤ cb) :
    Calls Try.prog 9 #[.agg #[.int .i64 cap, .slice a cs.length c], .int .i64 pI, .slice ab lb.length cb] w fun e w' => e = .returned (.bool true) ∧ Below w.heap.size w w' := by
  have Hs := Lib.hid hs
  obtain ⟨n, hn⟩ : ∃ n, n = cs.length := ⟨_, rfl⟩
  obtain ⟨bn, hbn⟩ : ∃ n, n = lb.length := ⟨_, rfl⟩
  rw [← hn, ← hbn]
  have Hn := Lib.hid hn
  have Hbn := Lib.hid hbn
  have hn2 : n ≤ 9223372036854775807 := by omega
  have hbn2 : bn ≤ 9223372036854775807 := by omega
  have hb1 := ext_alloc w (.cells #[.int .i64 cap, .slice a n c] 60)
  have hT : TapeAt (w.alloc (.cells #[.int .i64 cap, .slice a n c] 60)) w.heap.size ⟨cap, pls cs⟩ a n c cs := ⟨heap_alloc_new w _, hs.ext hb1, hn, rfl, by omega⟩
  have Hb0 := Lib.hid hsb
  clear hs hl hn hlc wp hsb hlb klb hbn
  go_enter Try.func9, Try.ntmps9
  go_wp2_with fail
  refine (heavy07 cap a c n cs _ hT.mat Hn.out hn2).mono ?_
  rintro e w2 (⟨rfl, hb2⟩ | ⟨rfl, hb2, hlight⟩)
  · go_wp2
    go_ret
    exact ⟨rfl, bthen hb1 hb2 (Nat.le_refl _)⟩
  · have hb02 := bthen hb1 hb2 (Nat.le_refl _)
    have T2 := Lib.hid (hT.ext hb2)
    have Hli := Lib.hid hlight
    clear hT hb1 hb2 hlight
    obtain ⟨d0, d1⟩ := T2.out.box.cells
    dsimp only at d0 d1
    by_cases c1 : bn < 1
    · have c1' : (bn : Int) < 1 := by omega
      go_wp2
      go_ret
      exact ⟨rfl, hb02⟩
    by_cases c2 : 256 < bn
    · have c1' : ¬ (bn : Int) < 1 := by omega
      have c2' : (256 : Int) < (bn : Int) := by omega
      go_wp2
      go_ret
      exact ⟨rfl, hb02⟩
    have c1' : ¬ (bn : Int) < 1 := by omega
    have c2' : ¬ (256 : Int) < (bn : Int) := by omega
    go_wp2_with fail
    refine (refmed_any cap a c n cs (medOf cap cs).ok w2 T2.out.mat Hn.out hn2 rfl).mono ?_
    rintro e w3 ⟨rfl, hb3⟩
    have hb03 := bthen hb02 hb3 (Nat.le_refl _)
    have T3 := Lib.hid (T2.out.ext hb3)
    clear hb3 hb02 d0 d1 T2
    cases hok : (medOf cap cs).ok with
    | false =>
      go_wp2
      go_ret
      exact ⟨rfl, hb03⟩
    | true =>
      have hnn : n ≤ 80 := by rw [Hn.out]; exact Hli.out.1
      have Hx : Hid (∀ x ∈ cs, x.d.l.length ≤ 140737488355328) := Lib.hid fun x hx => by have := Hli.out.2 x hx; omega
      have Hml : Hid ((medOf cap cs).cells.length = n) := Lib.hid (by rw [Hn.out]; exact pls_length cs)
      have Hbl : Hid (1 ≤ lb.length ∧ lb.length ≤ 256) := Lib.hid (by rw [← Hbn.out]; omega)
      have Hok := Lib.hid hok
      have hcp : (n : Int) ≤ cap := by
        have := (Med.ok_iff.1 hok).1.2.2
        rwa [Hml.out] at this
      obtain ⟨p, hp, ep⟩ := umod pI ((n : Int) + 1) (by omega) (by omega)
      have hpn : p ≤ n := by omega
      obtain ⟨d0, d1⟩ := T3.out.box.cells
      dsimp only at d0 d1
      clear hok hp
      go_wp2_with fail
      rw [ep]
      clear ep d0 d1
      have T := T3
      have HS := Lib.hid (Hb0.out.ext hb03)
      have HB := Lib.hid hb03
      clear T3 Hb0 hb03
      by_cases hpc : (p : Int) = cap
      · have hpc' : ((p : Int) == cap) = true := by simpa using hpc
        have Hpc := Lib.hid hpc
        clear hpc
        refine (write_any cap a c n cs (p : Int) ab bn cb lb Med.none 7 w3 T.out.mat Hn.out (by omega) Hx.out T.out.cap HS.out Hbn.out (by omega) (Med.write_full Hok.out (by rw [Hml.out]; exact hpn) Hpc.out Hbl.out)).mono ?_
        rintro e w4 ⟨aW, cW, kW, csW, rfl, hM, hc, hb⟩
        have hk : 0 = kW := hM.size
        subst hk
        obtain ⟨hT, hS⟩ := TapeAt.new 0 rfl hM hc
        have T' := Lib.hid ((T.out.ext hb).ext hS)
        have TW := Lib.hid hT
        have HB' := Lib.hid (bthen (bthen HB.out hb (Nat.le_refl _)) hS (Nat.le_refl _))
        obtain ⟨d0, d1⟩ := T'.out.box.cells
        dsimp only at d0 d1
        clear hb hM hc hT hS HB T HS
        go_wp2_with (refine wpList_store_row rfl rfl 60 (.tmp 7) (.tmp 52) rfl w4.heap.size rfl 60 #[.int .i64 0, .slice none 0 0] #[.int .i64 0, .slice aW 0 cW] rfl (heap_alloc_new w4 _) rfl (by kernel_rfl) (by simp [Value.oneCell']) ?_)
        generalize hwx : World.setRow _ _ _ = w5 at *
        have TW : Hid (TapeAt w5 w4.heap.size Med.none aW 0 cW csW) := TW
        generalize w4.heap.size = GW at *
        clear hwx d0 d1 hpc'
        have T := T'
        have HB := HB'
        clear T' HB'
        refine (mark_any cap a c n cs (p : Int) Med.none 7 w5 T.out.mat Hn.out (by omega) Hx.out T.out.cap (Med.mark_full Hok.out (by rw [Hml.out]; exact hpn) Hpc.out)).mono ?_
        rintro e w6 ⟨aK, cK, kK, csK, rfl, hM, hc, hb⟩
        have hk : 0 = kK := hM.size
        subst hk
        obtain ⟨hT, hS⟩ := TapeAt.new 0 rfl hM hc
        have TW' := Lib.hid ((TW.out.ext hb).ext hS)
        have TK := Lib.hid hT
        have HB' := Lib.hid (bthen (bthen HB.out hb (Nat.le_refl _)) hS (Nat.le_refl _))
        obtain ⟨d0, d1⟩ := TW'.out.box.cells
        dsimp only [Med.none] at d0 d1
        clear hb hM hc hT hS HB TW T
        go_wp2_with (refine wpList_store_row rfl rfl 60 (.tmp 9) (.tmp 62) rfl w6.heap.size rfl 60 #[.int .i64 0, .slice none 0 0] #[.int .i64 0, .slice aK 0 cK] rfl (heap_alloc_new w6 _) rfl (by kernel_rfl) (by simp [Value.oneCell']) ?_)
        generalize hwx : World.setRow _ _ _ = w7 at *
        clear hwx d0 d1
        refine (none07_any 0 aW cW 0 csW true w7 TW'.out.mat TW'.out.len (by decide) (by rw [TW'.out.pls]; exact ⟨fun _ => ⟨rfl, rfl⟩, fun _ => rfl⟩)).mono ?_
        rintro e w8 ⟨rfl, hb8⟩
        have hb08 := bthen HB'.out hb8 (Nat.le_refl _)
        clear hb8 HB' TW'
        go_wp2_with fail
        refine (wakes07_any w8).mono ?_
        rintro e w9 ⟨rfl, hb9⟩
        go_wp2
        go_ret
        exact ⟨rfl, bthen hb08 hb9 (Nat.le_refl _)⟩
      · have HP := Lib.hid (staysP Hok.out (p := p) (by rw [Hml.out]; exact hpn) (show (p : Int) < cap by omega) Hbl.out)
        have hpc' : ((p : Int) == cap) = false := by simpa using hpc
        have hFn : marks ((medOf cap cs).cells.take p) ≤ 80 := by
          refine Nat.le_trans (marks_le _) ?_
          rw [List.length_take]; omega
        clear hpc
        have HP : Hid (StaysP (medOf cap cs) cap p lb (marks ((medOf cap cs).cells.take p))) := HP
        generalize marks ((medOf cap cs).cells.take p) = F at *
        have hl1 : ∀ x : CellP, ((pls cs).take p ++ [x]).length = p + 1 := fun x => Med.lay_len (m := medOf cap cs) (by rw [Hml.out]; exact hpn) x
        have hl0 : ((pls cs).take p).length = p := by rw [List.length_take, pls_length, ← Hn.out]; omega
        have HL1 := Lib.hid hl1
        have HL0 := Lib.hid hl0
        clear hl1 hl0
        have HshW : Hid (∀ x ∈ ((pls cs).take p ++ [⟨1, lb, false⟩] : List CellP), x.data.length ≤ 140737488355328) := Lib.hid fun x hx => by
          rcases List.mem_append.1 hx with h | h
          · obtain ⟨y, hy, rfl⟩ := List.mem_map.1 (List.mem_of_mem_take h)
            exact Hx.out y hy
          · rw [List.mem_singleton.1 h]
            have := Hbl.out.2
            show lb.length ≤ _
            omega
        have HshK : Hid (∀ x ∈ ((pls cs).take p ++ [⟨2, [], false⟩] : List CellP), x.data.length ≤ 140737488355328) := Lib.hid fun x hx => by
          rcases List.mem_append.1 hx with h | h
          · obtain ⟨y, hy, rfl⟩ := List.mem_map.1 (List.mem_of_mem_take h)
            exact Hx.out y hy
          · rw [List.mem_singleton.1 h]
            exact Nat.zero_le _
        have HshD : Hid (∀ x ∈ ((pls cs).take p : List CellP), x.data.length ≤ 140737488355328) := Lib.hid fun x hx => by
          obtain ⟨y, hy, rfl⟩ := List.mem_map.1 (List.mem_of_mem_take hx)
          exact Hx.out y hy
        refine (write_any cap a c n cs (p : Int) ab bn cb lb ⟨cap, (pls cs).take p ++ [⟨1, lb, false⟩]⟩ 0 w3 T.out.mat Hn.out (by omega) Hx.out T.out.cap HS.out Hbn.out (by omega) HP.out.wr).mono ?_
        rintro e w4 ⟨aW, cW, kW, csW, rfl, hM, hc, hb⟩
        have hk : p + 1 = kW := (HL1.out _).symm.trans hM.size
        subst hk
        obtain ⟨hT, hS⟩ := TapeAt.new cap rfl hM hc
        have T' := Lib.hid ((T.out.ext hb).ext hS)
        have HS' := Lib.hid ((HS.out.ext hb).ext hS)
        have TW := Lib.hid hT
        have HB' := Lib.hid (bthen (bthen HB.out hb (Nat.le_refl _)) hS (Nat.le_refl _))
        obtain ⟨d0, d1⟩ := T'.out.box.cells
        dsimp only at d0 d1
        clear hb hM hc hT hS HB T HS
        go_wp2_with (refine wpList_store_row rfl rfl 60 (.tmp 7) (.tmp 52) rfl w4.heap.size rfl 60 #[.int .i64 0, .slice none 0 0] #[.int .i64 cap, .slice aW (p + 1) cW] rfl (heap_alloc_new w4 _) rfl (by kernel_rfl) (by simp [Value.oneCell']) ?_)
        generalize hwx : World.setRow _ _ _ = w5 at *
        have TW : Hid (TapeAt w5 w4.heap.size ⟨cap, (pls cs).take p ++ [⟨1, lb, false⟩]⟩ aW (p + 1) cW csW) := TW
        generalize w4.heap.size = GW at *
        clear hwx d0 d1
        have T := T'
        have HS := HS'
        have HB := HB'
        clear T' HS' HB'
        refine (mark_any cap a c n cs (p : Int) ⟨cap, (pls cs).take p ++ [⟨2, [], false⟩]⟩ 0 w5 T.out.mat Hn.out (by omega) Hx.out T.out.cap HP.out.mr).mono ?_
        rintro e w6 ⟨aK, cK, kK, csK, rfl, hM, hc, hb⟩
        have hk : p + 1 = kK := (HL1.out _).symm.trans hM.size
        subst hk
        obtain ⟨hT, hS⟩ := TapeAt.new cap rfl hM hc
        have T' := Lib.hid ((T.out.ext hb).ext hS)
        have HS' := Lib.hid ((HS.out.ext hb).ext hS)
        have TW' := Lib.hid ((TW.out.ext hb).ext hS)
        have TK := Lib.hid hT
        have HB' := Lib.hid (bthen (bthen HB.out hb (Nat.le_refl _)) hS (Nat.le_refl _))
        obtain ⟨d0, d1⟩ := T'.out.box.cells
        dsimp only at d0 d1
        clear hb hM hc hT hS HB T HS TW
        go_wp2_with (refine wpList_store_row rfl rfl 60 (.tmp 11) (.tmp 81) rfl w6.heap.size rfl 60 #[.int .i64 0, .slice none 0 0] #[.int .i64 cap, .slice aK (p + 1) cK] rfl (heap_alloc_new w6 _) rfl (by kernel_rfl) (by simp [Value.oneCell']) ?_)
        generalize hwx : World.setRow _ _ _ = w7 at *
        have TK : Hid (TapeAt w7 w6.heap.size ⟨cap, (pls cs).take p ++ [⟨2, [], false⟩]⟩ aK (p + 1) cK csK) := TK
        generalize w6.heap.size = GK at *
        clear hwx d0 d1
        have T := T'
        have HS := HS'
        have TW := TW'
        have HB := HB'
        clear T' HS' TW' HB'
        refine (end_any cap a c n cs (p : Int) ⟨cap, (pls cs).take p⟩ 0 w7 T.out.mat Hn.out (by omega) Hx.out T.out.cap HP.out.en).mono ?_
        rintro e w8 ⟨aD, cD, kD, csD, rfl, hM, hc, hb⟩
        have hk : p = kD := HL0.out.symm.trans hM.size
        subst hk
        obtain ⟨hT, hS⟩ := TapeAt.new cap rfl hM hc
        have T' := Lib.hid ((T.out.ext hb).ext hS)
        have HS' := Lib.hid ((HS.out.ext hb).ext hS)
        have TW' := Lib.hid ((TW.out.ext hb).ext hS)
        have TK' := Lib.hid ((TK.out.ext hb).ext hS)
        have TD := Lib.hid hT
        have HB' := Lib.hid (bthen (bthen HB.out hb (Nat.le_refl _)) hS (Nat.le_refl _))
        obtain ⟨d0, d1⟩ := TW'.out.box.cells
        dsimp only at d0 d1
        obtain ⟨d2, d3⟩ := TK'.out.box.cells
        dsimp only at d2 d3
        obtain ⟨d4, d5⟩ := TD.out.box.cells
        dsimp only at d4 d5
        clear hb hM hc hT hS HB T HS TW TK
        go_wp2_with (refine wpList_store_row rfl rfl 60 (.tmp 13) (.tmp 87) rfl w8.heap.size rfl 60 #[.int .i64 0, .slice none 0 0] #[.int .i64 cap, .slice aD p cD] rfl (heap_alloc_new w8 _) rfl (by kernel_rfl) (by simp [Value.oneCell']) ?_)
        generalize hwx : World.setRow _ _ _ = w9 at *
        have TD : Hid (TapeAt w9 w8.heap.size ⟨cap, (pls cs).take p⟩ aD p cD csD) := TD
        generalize w8.heap.size = GD at *
        clear hwx d0 d1 d2 d3 d4 d5
        have T := T'
        have HS := HS'
        have TW := TW'
        have TK := TK'
        have HB := HB'
        clear T' HS' TW' TK' HB'
        refine (check_any cap aW cW (p + 1) csW true w9 TW.out.mat TW.out.len (by omega) (by rw [show medOf cap _ = _ from TW.out.of]; exact HP.out.cW)).mono ?_
        rintro e w10 ⟨rfl, hb⟩
        have T' := Lib.hid (T.out.ext hb)
        have HS' := Lib.hid (HS.out.ext hb)
        have TW' := Lib.hid (TW.out.ext hb)
        have TK' := Lib.hid (TK.out.ext hb)
        have TD' := Lib.hid (TD.out.ext hb)
        have HB' := Lib.hid (bthen HB.out hb (Nat.le_refl _))
        clear hb HB T HS TW TK TD
        have T := T'
        have HS := HS'
        have TW := TW'
        have TK := TK'
        have TD := TD'
        have HB := HB'
        clear T' HS' TW' TK' TD' HB'
        obtain ⟨d0, d1⟩ := TK.out.box.cells
        dsimp only at d0 d1
        obtain ⟨d2, d3⟩ := TD.out.box.cells
        dsimp only at d2 d3
        go_wp2_with fail
        clear d0 d1 d2 d3
        refine (check_any cap aK cK (p + 1) csK true w10 TK.out.mat TK.out.len (by omega) (by rw [show medOf cap _ = _ from TK.out.of]; exact HP.out.cK)).mono ?_
        rintro e w11 ⟨rfl, hb⟩
        have T' := Lib.hid (T.out.ext hb)
        have HS' := Lib.hid (HS.out.ext hb)
        have TW' := Lib.hid (TW.out.ext hb)
        have TK' := Lib.hid (TK.out.ext hb)
        have TD' := Lib.hid (TD.out.ext hb)
        have HB' := Lib.hid (bthen HB.out hb (Nat.le_refl _))
        clear hb HB T HS TW TK TD
        have T := T'
        have HS := HS'
        have TW := TW'
        have TK := TK'
        have TD := TD'
        have HB := HB'
        clear T' HS' TW' TK' TD' HB'
        obtain ⟨d0, d1⟩ := TD.out.box.cells
        dsimp only at d0 d1
        go_wp2_with fail
        clear d0 d1
        refine (check_any cap aD cD p csD true w11 TD.out.mat TD.out.len (by omega) (by rw [show medOf cap _ = _ from TD.out.of]; exact HP.out.cD)).mono ?_
        rintro e w12 ⟨rfl, hb⟩
        have T' := Lib.hid (T.out.ext hb)
        have HS' := Lib.hid (HS.out.ext hb)
        have TW' := Lib.hid (TW.out.ext hb)
        have TK' := Lib.hid (TK.out.ext hb)
        have TD' := Lib.hid (TD.out.ext hb)
        have HB' := Lib.hid (bthen HB.out hb (Nat.le_refl _))
        clear hb HB T HS TW TK TD
        have T := T'
        have HS := HS'
        have TW := TW'
        have TK := TK'
        have TD := TD'
        have HB := HB'
        clear T' HS' TW' TK' TD' HB'
        obtain ⟨d0, d1⟩ := TW.out.box.cells
        dsimp only at d0 d1
        go_wp2_with fail
        clear d0 d1
        refine (read_any cap aW cW (p + 1) csW (p : Int) lb 0 w12 TW.out.mat TW.out.len (by omega) (TW.out.short (K := 140737488355328) HshW.out) (by rw [show medOf cap _ = _ from TW.out.of]; exact HP.out.rW)).mono ?_
        rintro e w13 ⟨aX, cX, kX, rfl, hkX, hX, hb⟩
        have hkX2 : bn = kX := Hbn.out.trans hkX.symm
        subst hkX2
        have HX := Lib.hid hX.src
        clear hkX hX
        have T' := Lib.hid (T.out.ext hb)
        have HS' := Lib.hid (HS.out.ext hb)
        have TW' := Lib.hid (TW.out.ext hb)
        have TK' := Lib.hid (TK.out.ext hb)
        have TD' := Lib.hid (TD.out.ext hb)
        have HB' := Lib.hid (bthen HB.out hb (Nat.le_refl _))
        clear hb HB T HS TW TK TD
        have T := T'
        have HS := HS'
        have TW := TW'
        have TK := TK'
        have TD := TD'
        have HB := HB'
        clear T' HS' TW' TK' TD' HB'
        obtain ⟨d0, d1⟩ := TK.out.box.cells
        dsimp only at d0 d1
        go_wp2_with fail
        clear d0 d1
        refine (read_any cap aK cK (p + 1) csK (p : Int) [] 15 w13 TK.out.mat TK.out.len (by omega) (TK.out.short (K := 140737488355328) HshK.out) (by rw [show medOf cap _ = _ from TK.out.of]; exact HP.out.rK)).mono ?_
        rintro e w14 ⟨aY, cY, kY, rfl, hkX, hX, hb⟩
        clear hkX hX
        have T' := Lib.hid (T.out.ext hb)
        have HS' := Lib.hid (HS.out.ext hb)
        have TW' := Lib.hid (TW.out.ext hb)
        have TK' := Lib.hid (TK.out.ext hb)
        have TD' := Lib.hid (TD.out.ext hb)
        have HX' := Lib.hid (HX.out.ext hb)
        have HB' := Lib.hid (bthen HB.out hb (Nat.le_refl _))
        clear hb HB T HS TW TK TD HX
        have T := T'
        have HS := HS'
        have TW := TW'
        have TK := TK'
        have TD := TD'
        have HX := HX'
        have HB := HB'
        clear T' HS' TW' TK' TD' HX' HB'
        obtain ⟨d0, d1⟩ := TD.out.box.cells
        dsimp only at d0 d1
        go_wp2_with fail
        clear d0 d1
        refine (read_any cap aD cD p csD (p : Int) [] 8 w14 TD.out.mat TD.out.len (by omega) (TD.out.short (K := 140737488355328) HshD.out) (by rw [show medOf cap _ = _ from TD.out.of]; exact HP.out.rD)).mono ?_
        rintro e w15 ⟨aZ, cZ, kZ, rfl, hkX, hX, hb⟩
        clear hkX hX
        have T' := Lib.hid (T.out.ext hb)
        have HS' := Lib.hid (HS.out.ext hb)
        have TW' := Lib.hid (TW.out.ext hb)
        have TK' := Lib.hid (TK.out.ext hb)
        have TD' := Lib.hid (TD.out.ext hb)
        have HX' := Lib.hid (HX.out.ext hb)
        have HB' := Lib.hid (bthen HB.out hb (Nat.le_refl _))
        clear hb HB T HS TW TK TD HX
        have T := T'
        have HS := HS'
        have TW := TW'
        have TK := TK'
        have TD := TD'
        have HX := HX'
        have HB := HB'
        clear T' HS' TW' TK' TD' HX' HB'
        go_wp2_with fail
        refine wp_region_sp (by kernel_rfl) [Sp.eq (.int .i64 0), Sp.eq (.bool false), Sp.eq (.bool false), Sp.eq (.slice aX bn cX), Sp.eq (.slice ab bn cb), Sp.eq (.bool true), Sp.eq (.bool false), Sp.eq (.bool false), Sp.eq (.bool false), Sp.eq (.int .i64 15), Sp.eq (.bool false), Sp.eq (.bool false), Sp.eq (.bool false), Sp.eq (.int .i64 8), Sp.eq (.bool false), Sp.eq (.bool false), Sp.eq (.bool false), Sp.eq (.agg #[.int .i64 cap, .slice aK (p + 1) cK]), Sp.eq (.int .i64 ((F : Int) + 1)), Sp.eq (.agg #[.int .i64 cap, .slice aD p cD]), Sp.eq (.int .i64 (F : Int)), Sp.eq (.int .i64 ((F : Int) + 1)), Sp.eq (.bool false), Sp.eq (.bool false), Sp.eq (.bool false), Sp.eq (.agg #[.int .i64 cap, .slice aW (p + 1) cW]), Sp.eq (.int .i64 (F : Int)), Sp.eq (.agg #[.int .i64 cap, .slice aD p cD]), Sp.eq (.int .i64 (F : Int)), Sp.eq (.bool false), Sp.eq (.bool false)] (by kernel_rfl) ?_ ?_
        · refine stepsOk_cons ?_ (stepsOk_cons ?_ (stepsOk_cons ?_ (stepsOk_cons ?_ (stepsOk_cons ?_ (stepsOk_cons ?_ (stepsOk_cons ?_ (stepsOk_cons ?_ (stepsOk_cons ?_ (stepsOk_cons ?_ (stepsOk_cons ?_ (stepsOk_cons ?_ (stepsOk_cons ?_ (stepsOk_cons ?_ (stepsOk_cons ?_ (stepsOk_cons ?_ (stepsOk_cons ?_ (stepsOk_cons ?_ (stepsOk_cons ?_ (stepsOk_cons ?_ (stepsOk_cons ?_ (stepsOk_cons ?_ (stepsOk_cons ?_ (stepsOk_cons ?_ (stepsOk_cons ?_ (stepsOk_cons ?_ (stepsOk_cons ?_ (stepsOk_cons ?_ (stepsOk_cons ?_ (stepsOk_cons ?_ (stepsOk_cons ?_ (stepsOk_nil)))))))))))))))))))))))))))))))
          · intro ρ w' E
            have e8 : ρ (.tmp 8) = .int .i64 0 := E.out 8 rfl
            refine step_plain rfl ?_
            exact op_move (.inl rfl) e8 ⟨Below.refl _ _, rfl⟩
          · intro ρ w' E
            have e155 : ρ (.tmp 155) = .int .i64 0 := E.pre 0 rfl
            refine step_plain rfl ?_
            refine op_val (v := .bool false) (w' := w') ?_ ⟨Below.refl _ _, rfl⟩
            have hcon := E.con
            clear E
            go_simp
          · intro ρ w' E
            have e156 : ρ (.tmp 156) = .bool false := E.pre 1 rfl
            refine step_plain rfl ?_
            exact op_move (.inl rfl) e156 ⟨Below.refl _ _, rfl⟩
          · intro ρ w' E
            have e15 : ρ (.tmp 15) = .slice aX bn cX := E.out 15 rfl
            refine step_yes rfl (E.pre 2 rfl) ?_
            exact op_move (.inl rfl) e15 ⟨Below.refl _ _, rfl⟩
          · intro ρ w' E
            have e2 : ρ (.tmp 2) = .slice ab bn cb := E.out 2 rfl
            refine step_yes rfl (E.pre 2 rfl) ?_
            exact op_move (.inl rfl) e2 ⟨Below.refl _ _, rfl⟩
          · intro ρ w' E
            have e158 : ρ (.tmp 158) = .slice aX bn cX := E.pre 3 rfl
            have e159 : ρ (.tmp 159) = .slice ab bn cb := E.pre 4 rfl
            refine step_yes rfl (E.pre 2 rfl) ?_
            refine op_call (f := 22) (args := #[.slice aX bn cX, .slice ab bn cb]) (w' := w') (by have hcon := E.con; have hfn := E.fn; clear E; go_simp) ?_
            refine (bytes_at aX cX lb ab cb lb w' bn bn true (HX.out.ext E.below) (HS.out.ext E.below) Hbn.out Hbn.out (by omega) (by omega) (by simp)).mono ?_
            rintro e w2 ⟨rfl, n2, rfl⟩
            exact ⟨_, rfl, ext_drewN _ _ _, rfl⟩
          · intro ρ w' E
            have e160 : ρ (.tmp 160) = .bool true := E.pre 5 rfl
            refine step_yes rfl (E.pre 2 rfl) ?_
            refine op_val (v := .bool false) (w' := w') ?_ ⟨Below.refl _ _, rfl⟩
            have hcon := E.con
            clear E
            go_simp
          · intro ρ w' E
            have e157 : ρ (.tmp 157) = .bool false := E.pre 2 rfl
            have e161 : ρ (.tmp 161) = .bool false := E.pre 6 rfl
            refine step_plain rfl ?_
            exact op_pick (b := false) rfl e157 rfl ⟨Below.refl _ _, e161⟩
          · intro ρ w' E
            have e162 : ρ (.tmp 162) = .bool false := E.pre 7 rfl
            refine step_plain rfl ?_
            exact op_move (.inl rfl) e162 ⟨Below.refl _ _, rfl⟩
          · intro ρ w' E
            have e12 : ρ (.tmp 12) = .int .i64 15 := E.out 12 rfl
            refine step_yes rfl (E.pre 8 rfl) ?_
            exact op_move (.inl rfl) e12 ⟨Below.refl _ _, rfl⟩
          · intro ρ w' E
            have e164 : ρ (.tmp 164) = .int .i64 15 := E.pre 9 rfl
            refine step_yes rfl (E.pre 8 rfl) ?_
            refine op_val (v := .bool false) (w' := w') ?_ ⟨Below.refl _ _, rfl⟩
            have hcon := E.con
            clear E
            go_simp
          · intro ρ w' E
            have e163 : ρ (.tmp 163) = .bool false := E.pre 8 rfl
            have e165 : ρ (.tmp 165) = .bool false := E.pre 10 rfl
            refine step_plain rfl ?_
            exact op_pick (b := false) rfl e163 rfl ⟨Below.refl _ _, e165⟩
          · intro ρ w' E
            have e166 : ρ (.tmp 166) = .bool false := E.pre 11 rfl
            refine step_plain rfl ?_
            exact op_move (.inl rfl) e166 ⟨Below.refl _ _, rfl⟩
          · intro ρ w' E
            have e14 : ρ (.tmp 14) = .int .i64 8 := E.out 14 rfl
            refine step_yes rfl (E.pre 12 rfl) ?_
            exact op_move (.inl rfl) e14 ⟨Below.refl _ _, rfl⟩
          · intro ρ w' E
            have e168 : ρ (.tmp 168) = .int .i64 8 := E.pre 13 rfl
            refine step_yes rfl (E.pre 12 rfl) ?_
            refine op_val (v := .bool false) (w' := w') ?_ ⟨Below.refl _ _, rfl⟩
            have hcon := E.con
            clear E
            go_simp
          · intro ρ w' E
            have e167 : ρ (.tmp 167) = .bool false := E.pre 12 rfl
            have e169 : ρ (.tmp 169) = .bool false := E.pre 14 rfl
            refine step_plain rfl ?_
            exact op_pick (b := false) rfl e167 rfl ⟨Below.refl _ _, e169⟩
          · intro ρ w' E
            have e170 : ρ (.tmp 170) = .bool false := E.pre 15 rfl
            refine step_plain rfl ?_
            exact op_move (.inl rfl) e170 ⟨Below.refl _ _, rfl⟩
          · intro ρ w' E
            have e11 : ρ (.tmp 11) = .pointer (some ⟨GK, 0, none⟩) := E.out 11 rfl
            refine step_yes rfl (E.pre 16 rfl) ?_
            refine op_val (v := .agg #[.int .i64 cap, .slice aK (p + 1) cK]) (w' := w') ?_ ⟨Below.refl _ _, rfl⟩
            obtain ⟨k0, k1⟩ := (TK.out.ext E.below).box.cells
            have hcon := E.con
            clear E 
            go_simp
          · intro ρ w' E
            have e172 : ρ (.tmp 172) = .agg #[.int .i64 cap, .slice aK (p + 1) cK] := E.pre 17 rfl
            refine step_yes rfl (E.pre 16 rfl) ?_
            refine op_call (f := 41) (args := #[.agg #[.int .i64 cap, .slice aK (p + 1) cK]]) (w' := w') (by have hcon := E.con; have hfn := E.fn; clear E; go_simp) ?_
            refine (files_any cap aK cK (p + 1) csK ((F : Int) + 1) w' (TK.out.ext E.below).mat TK.out.len (by omega) (by rw [show medOf cap _ = _ from TK.out.of]; exact HP.out.fK)).mono ?_
            rintro e wz ⟨rfl, hbz⟩
            exact ⟨_, rfl, hbz, rfl⟩
          · intro ρ w' E
            have e13 : ρ (.tmp 13) = .pointer (some ⟨GD, 0, none⟩) := E.out 13 rfl
            refine step_yes rfl (E.pre 16 rfl) ?_
            refine op_val (v := .agg #[.int .i64 cap, .slice aD p cD]) (w' := w') ?_ ⟨Below.refl _ _, rfl⟩
            obtain ⟨k0, k1⟩ := (TD.out.ext E.below).box.cells
            have hcon := E.con
            clear E 
            go_simp
          · intro ρ w' E
            have e174 : ρ (.tmp 174) = .agg #[.int .i64 cap, .slice aD p cD] := E.pre 19 rfl
            refine step_yes rfl (E.pre 16 rfl) ?_
            refine op_call (f := 41) (args := #[.agg #[.int .i64 cap, .slice aD p cD]]) (w' := w') (by have hcon := E.con; have hfn := E.fn; clear E; go_simp) ?_
            refine (files_any cap aD cD p csD (F : Int) w' (TD.out.ext E.below).mat TD.out.len (by omega) (by rw [show medOf cap _ = _ from TD.out.of]; exact HP.out.fD)).mono ?_
            rintro e wz ⟨rfl, hbz⟩
            exact ⟨_, rfl, hbz, rfl⟩
          · intro ρ w' E
            have e175 : ρ (.tmp 175) = .int .i64 (F : Int) := E.pre 20 rfl
            refine step_yes rfl (E.pre 16 rfl) ?_
            refine op_val (v := .int .i64 ((F : Int) + 1)) (w' := w') ?_ ⟨Below.refl _ _, rfl⟩
            have hcon := E.con
            clear E
            go_simp
            rw [IntKind.wrap_i64]
            omega
          · intro ρ w' E
            have e173 : ρ (.tmp 173) = .int .i64 ((F : Int) + 1) := E.pre 18 rfl
            have e176 : ρ (.tmp 176) = .int .i64 ((F : Int) + 1) := E.pre 21 rfl
            refine step_yes rfl (E.pre 16 rfl) ?_
            refine op_val (v := .bool false) (w' := w') ?_ ⟨Below.refl _ _, rfl⟩
            have hcon := E.con
            clear E
            go_simp
          · intro ρ w' E
            have e171 : ρ (.tmp 171) = .bool false := E.pre 16 rfl
            have e177 : ρ (.tmp 177) = .bool false := E.pre 22 rfl
            refine step_plain rfl ?_
            exact op_pick (b := false) rfl e171 rfl ⟨Below.refl _ _, e177⟩
          · intro ρ w' E
            have e178 : ρ (.tmp 178) = .bool false := E.pre 23 rfl
            refine step_plain rfl ?_
            exact op_move (.inl rfl) e178 ⟨Below.refl _ _, rfl⟩
          · intro ρ w' E
            have e7 : ρ (.tmp 7) = .pointer (some ⟨GW, 0, none⟩) := E.out 7 rfl
            refine step_yes rfl (E.pre 24 rfl) ?_
            refine op_val (v := .agg #[.int .i64 cap, .slice aW (p + 1) cW]) (w' := w') ?_ ⟨Below.refl _ _, rfl⟩
            obtain ⟨k0, k1⟩ := (TW.out.ext E.below).box.cells
            have hcon := E.con
            clear E 
            go_simp
          · intro ρ w' E
            have e180 : ρ (.tmp 180) = .agg #[.int .i64 cap, .slice aW (p + 1) cW] := E.pre 25 rfl
            refine step_yes rfl (E.pre 24 rfl) ?_
            refine op_call (f := 41) (args := #[.agg #[.int .i64 cap, .slice aW (p + 1) cW]]) (w' := w') (by have hcon := E.con; have hfn := E.fn; clear E; go_simp) ?_
            refine (files_any cap aW cW (p + 1) csW (F : Int) w' (TW.out.ext E.below).mat TW.out.len (by omega) (by rw [show medOf cap _ = _ from TW.out.of]; exact HP.out.fW)).mono ?_
            rintro e wz ⟨rfl, hbz⟩
            exact ⟨_, rfl, hbz, rfl⟩
          · intro ρ w' E
            have e13 : ρ (.tmp 13) = .pointer (some ⟨GD, 0, none⟩) := E.out 13 rfl
            refine step_yes rfl (E.pre 24 rfl) ?_
            refine op_val (v := .agg #[.int .i64 cap, .slice aD p cD]) (w' := w') ?_ ⟨Below.refl _ _, rfl⟩
            obtain ⟨k0, k1⟩ := (TD.out.ext E.below).box.cells
            have hcon := E.con
            clear E 
            go_simp
          · intro ρ w' E
            have e182 : ρ (.tmp 182) = .agg #[.int .i64 cap, .slice aD p cD] := E.pre 27 rfl
            refine step_yes rfl (E.pre 24 rfl) ?_
            refine op_call (f := 41) (args := #[.agg #[.int .i64 cap, .slice aD p cD]]) (w' := w') (by have hcon := E.con; have hfn := E.fn; clear E; go_simp) ?_
            refine (files_any cap aD cD p csD (F : Int) w' (TD.out.ext E.below).mat TD.out.len (by omega) (by rw [show medOf cap _ = _ from TD.out.of]; exact HP.out.fD)).mono ?_
            rintro e wz ⟨rfl, hbz⟩
            exact ⟨_, rfl, hbz, rfl⟩
          · intro ρ w' E
            have e181 : ρ (.tmp 181) = .int .i64 (F : Int) := E.pre 26 rfl
            have e183 : ρ (.tmp 183) = .int .i64 (F : Int) := E.pre 28 rfl
            refine step_yes rfl (E.pre 24 rfl) ?_
            refine op_val (v := .bool false) (w' := w') ?_ ⟨Below.refl _ _, rfl⟩
            have hcon := E.con
            clear E
            go_simp
          · intro ρ w' E
            have e179 : ρ (.tmp 179) = .bool false := E.pre 24 rfl
            have e184 : ρ (.tmp 184) = .bool false := E.pre 29 rfl
            refine step_plain rfl ?_
            exact op_pick (b := false) rfl e179 rfl ⟨Below.refl _ _, e184⟩
        · intro σ w16 hb hall
          have h185 : σ 185 = .bool false := by obtain ⟨_, _, _, _, _, _, _, _, _, _, _, _, _, _, _, _, _, _, _, _, _, _, _, _, _, _, _, _, _, _, h, _⟩ := hall; exact h
          clear hall
          simp only [upd, updL, dstsOf', elemB, List.filterMap_cons, List.filterMap_nil, Nat.reduceAdd, Nat.reduceBEq, Bool.or_false, Bool.false_or, Bool.or_true, Bool.true_or, cond_true, cond_false, Nat.zero_add, h185]
          have T' := Lib.hid (T.out.ext hb)
          have TW' := Lib.hid (TW.out.ext hb)
          have HB' := Lib.hid (bthen HB.out hb (Nat.le_refl _))
          have HR : Hid (∀ t, t < p → (Med.mk cap ((pls cs).take p ++ [⟨1, lb, false⟩])).read (t : Int) = (medOf cap cs).read (t : Int)) := Lib.hid fun t ht => HP.out.low t ht
          have HQ : Hid (∀ t : Int, ((medOf cap cs).read t).1.length ≤ 140737488355328) := Lib.hid fun t => Med.read_short (fun c hc => by
            obtain ⟨y, hy, rfl⟩ := List.mem_map.1 hc
            exact Hx.out y hy) t
          clear hb HB T HS TW TK TD HX h185 HP hpc' HshK HshD
          go_wp2_with fail
          go_loopw [16] (fun i wx => ∃ (t : Nat) (wr : World), wr = wx ∧ t ≤ p ∧ i = .int .i64 (t : Int) ∧ TapeAt wr w.heap.size ⟨cap, pls cs⟩ a n c cs ∧ TapeAt wr GW ⟨cap, (pls cs).take p ++ [⟨1, lb, false⟩]⟩ aW (p + 1) cW csW ∧ Below w.heap.size w wr) (fun i _ => p - (intOf i).toNat)
          case atStart => exact ⟨0, _, rfl, by omega, rfl, T'.out, TW'.out, HB'.out⟩
          case round =>
            obtain ⟨t, wr, hwr, ht, rfl, hA, hB, hbr⟩ := hrel
            subst hwr
            have A := Lib.hid hA
            have B := Lib.hid hB
            have HB := Lib.hid hbr
            clear hA hB hbr T' TW' HB'
            obtain ⟨d0, d1⟩ := A.out.box.cells
            dsimp only at d0 d1
            by_cases htp : t < p
            · have htp' : (t : Int) < (p : Int) := by omega
              have Ht := Lib.hid (HR.out t htp)
              have Hq := Lib.hid (HQ.out (t : Int))
              go_wp2_with fail
              clear d0 d1
              obtain ⟨RR, hRR⟩ : ∃ x, x = (medOf cap cs).read (t : Int) := ⟨_, rfl⟩
              have Hr1 : Hid ((medOf cap cs).read (t : Int) = (RR.1, RR.2)) := Lib.hid (by rw [hRR])
              have Hr2 : Hid ((Med.mk cap ((pls cs).take p ++ [⟨1, lb, false⟩])).read (t : Int) = (RR.1, RR.2)) := Lib.hid (by rw [Ht.out, hRR])
              have hql : RR.1.length ≤ 140737488355328 := by rw [hRR]; exact Hq.out
              have Hql := Lib.hid hql
              clear hRR Ht Hq hql
              obtain ⟨R1, E1⟩ := RR
              dsimp only at Hr1 Hr2 Hql
              refine (read_any cap a c n cs (t : Int) R1 E1 wr A.out.mat Hn.out (by omega) Hx.out Hr1.out).mono ?_
              rintro e w17 ⟨a5, c5, k5, rfl, hk5, ho5, hb⟩
              have A' := Lib.hid (A.out.ext hb)
              have B' := Lib.hid (B.out.ext hb)
              have HB' := Lib.hid (bthen HB.out hb (Nat.le_refl _))
              have HS5 := Lib.hid ho5.src
              have Hk5 := Lib.hid hk5
              clear hk5 ho5 hb A B HB
              obtain ⟨d0, d1⟩ := B'.out.box.cells
              dsimp only at d0 d1
              go_wp2_with fail
              clear d0 d1
              refine (read_any cap aW cW (p + 1) csW (t : Int) R1 E1 w17 B'.out.mat B'.out.len (by omega) (B'.out.short (K := 140737488355328) HshW.out) (by rw [show medOf cap _ = _ from B'.out.of]; exact Hr2.out)).mono ?_
              rintro e w18 ⟨a6, c6, k6, rfl, hk6, ho6, hb⟩
              have A := Lib.hid (A'.out.ext hb)
              have B := Lib.hid (B'.out.ext hb)
              have HB := Lib.hid (bthen HB'.out hb (Nat.le_refl _))
              have HS6 := Lib.hid ho6.src
              have HS5' := Lib.hid (HS5.out.ext hb)
              have Hk6 := Lib.hid hk6
              clear hk6 ho6 hb A' B' HB' HS5
              go_wp2_with fail
              refine (bytes_at a5 c5 R1 a6 c6 R1 w18 k5 k6 true HS5'.out HS6.out Hk5.out Hk6.out (by rw [Hk5.out]; have := Hql.out; omega) (by rw [Hk6.out]; have := Hql.out; omega) (by simp)).mono ?_
              rintro e w19 ⟨rfl, n9, rfl⟩
              have hb := ext_drewN w18 n9 w18.heap.size
              have A' := Lib.hid (A.out.ext hb)
              have B' := Lib.hid (B.out.ext hb)
              have HB' := Lib.hid (bthen HB.out hb (Nat.le_refl _))
              clear hb A B HB HS5' HS6 Hk5 Hk6
              go_wp2_with fail
              go_roundw
              case rel => exact ⟨t + 1, _, rfl, by omega, by go_num, A'.out, B'.out, HB'.out⟩
              case measure => simp [intOf]; omega
            · have htp' : ¬ (t : Int) < (p : Int) := by omega
              go_wp2_with fail
              refine (wakes07_any wr).mono ?_
              rintro e w17 ⟨rfl, hb⟩
              go_wp2
              go_ret
              exact ⟨rfl, bthen HB.out hb (Nat.le_refl _)⟩
end Go.Proofs.Ytfbbejdbofkpaaa
