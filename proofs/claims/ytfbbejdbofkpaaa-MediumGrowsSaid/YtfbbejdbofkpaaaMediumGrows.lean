/- The walk of MediumGrows. -/
import Derived.Test.YtfbbejdbofkpaaaMRel
namespace Go.Proofs.Ytfbbejdbofkpaaa
open Go.RowKit

theorem tear_bound {m T : Med} {E p keep : Int} {b : List Byte} (h : m.tear p b keep = (T, E)) {n K : Nat} (hn : m.cells.length ≤ n) (hs : ∀ c ∈ m.cells, c.data.length ≤ K) (hb : b.length ≤ K) : T.cells.length ≤ n + 1 ∧ ∀ c ∈ T.cells, c.data.length ≤ K := by
  have h0 : T = (m.tear p b keep).1 := by rw [h]
  subst h0
  unfold Med.tear
  split
  · exact ⟨Nat.zero_le _, by simp [Med.none]⟩
  split
  · exact ⟨Nat.zero_le _, by simp [Med.none]⟩
  split
  · exact ⟨Nat.le_succ_of_le hn, hs⟩
  · refine ⟨?_, fun c hc => ?_⟩
    · show (m.cells.take p.toNat ++ [_]).length ≤ n + 1
      rw [List.length_append, List.length_take]
      show min p.toNat m.cells.length + 1 ≤ n + 1
      omega
    · rcases List.mem_append.1 (show c ∈ m.cells.take p.toNat ++ [_] from hc) with h | h
      · exact hs c (List.mem_of_mem_take h)
      · rw [List.mem_singleton.1 h]
        show (b.take _).length ≤ K
        rw [List.length_take]; omega

theorem cellOf_read {b : List Byte} (hn : ¬ b.length = 0) : (if (cellOf b).kind = 2 then (([] : List Byte), (15 : Int)) else if (cellOf b).kind = 3 ∨ (cellOf b).bad = true then ([], 6) else ((cellOf b).data, 0)) = (b, 0) := by
  unfold cellOf
  rw [if_neg hn]
  simp
theorem grow_mark {size : Int} {ps : List Bsl} {k : Nat} {M : Med} {E : Int} (h : (grown size (ps.take k)).mark (k : Int) = (M, E)) (ok : (grown size (ps.take k)).ok = true) (hl : (grown size (ps.take k)).cells.length = k) (hks : (k : Int) < size) (hk : k < ps.length) (hc : cellOf ps[k].l = ⟨2, [], false⟩) : M = grown size (ps.take (k + 1)) ∧ E = 0 := by
  rw [Med.mark_ok ok (p := k) (by rw [hl]; exact Nat.le_refl _) hks, grown_take (Nat.le_of_lt hk), ← hc, grown_step hk] at h
  simp only [Prod.mk.injEq] at h
  exact ⟨h.1.symm, h.2.symm⟩
theorem grow_mark_full {size : Int} {ps : List Bsl} {k : Nat} {M : Med} {E : Int} (h : (grown size (ps.take k)).mark (k : Int) = (M, E)) (ok : (grown size (ps.take k)).ok = true) (hl : (grown size (ps.take k)).cells.length = k) (hks : (k : Int) = size) : M = Med.none ∧ E = 7 := by
  rw [Med.mark_full ok (p := k) (by rw [hl]; exact Nat.le_refl _) hks] at h
  simp only [Prod.mk.injEq] at h
  exact ⟨h.1.symm, h.2.symm⟩

set_option maxRecDepth 100000 in
set_option maxHeartbeats 16000000 in
theorem mediumGrows_walk (w : World) (sz : Int) (wsz : (Lit.int .i64 sz).wf = true) (la : Option Addr) (lc : Nat) (ps : List Bsl) (hm : Mat w la ps) (hl : ps.length ≤ 9223372036854775807) (hcap : ∀ p ∈ ps, p.l.length ≤ p.c) (keep : Int) (wk : (Lit.int .i64 keep).wf = true) :
    Calls Try.prog 10 #[.int .i64 sz, .slice la ps.length lc, .int .i64 keep] w fun e w' => e = .returned (.bool true) ∧ Below w.heap.size w w' := by
  have Hm := Lib.hid hm
  have Hcap := Lib.hid hcap
  obtain ⟨L, hL⟩ : ∃ n, n = ps.length := ⟨_, rfl⟩
  rw [← hL]
  have HL := Lib.hid hL
  obtain ⟨s0, hs0, es⟩ := umod sz 40 (by decide) (by decide)
  have hL2 : L ≤ 9223372036854775807 := by omega
  clear hm wsz hl hL wk hcap
  go_enter Try.func10, Try.ntmps10
  by_cases h60 : 60 < L
  · go_wp2
    go_ret
    exact ⟨rfl, Below.refl _ _⟩
  go_wp2_with fail
  generalize hsz : (1 + (s0 : Int)) = size at *
  have h1 : 1 ≤ size := by omega
  have h40 : size ≤ 40 := by omega
  clear hsz es hs0
  refine (med_new size w h1 (by omega)).mono ?_
  rintro e w1 ⟨rfl, hb1⟩
  have hT0 := TapeO.put (B := w.heap.size) size rfl (show MedR _ w.heap.size (grown size (ps.take 0)) none 0 0 [] from ⟨OwnM.nil _ _ _, rfl, rfl⟩) (Nat.le_refl 0) (heap_alloc_new w1 (.cells #[.int .i64 0, .slice none 0 0] 60))
  have HT0 := Lib.hid hT0
  have HB0 := Lib.hid (bthen hb1 (bsetRow (ext_alloc w1 (.cells #[.int .i64 0, .slice none 0 0] 60)) (Nat.le_refl _) #[.int .i64 size, .slice none 0 0]) (Nat.le_refl _))
  have hGw : w.heap.size ≤ w1.heap.size := hb1.size
  clear hT0 hb1
  go_wp2_with (refine wpList_store_row rfl rfl 60 (.tmp 7) (.tmp 29) rfl w1.heap.size rfl 60 #[.int .i64 0, .slice none 0 0] #[.int .i64 size, .slice none 0 0] rfl (heap_alloc_new w1 _) rfl (by kernel_rfl) (by simp [Value.oneCell']) ?_)
  generalize hw2 : World.setRow _ _ _ = w2 at *
  generalize w1.heap.size = G7 at *
  clear hw2
  go_loopw [9] (fun i wx => ∃ (k : Nat) (wr : World) (aM : Option Addr) (cM : Nat) (csM : List CellV), wr = wx ∧ k ≤ L ∧ i = .int .i64 (k : Int) ∧ TapeO wr w.heap.size G7 (grown size (ps.take k)) aM k cM csM ∧ (k : Int) ≤ size ∧ (∀ p ∈ ps.take k, p.l.length ≤ 256) ∧ Below w.heap.size w wr) (fun i _ => L - (intOf i).toNat)
  case atStart => exact ⟨0, _, none, 0, [], rfl, by omega, rfl, HT0.out, by omega, by simp, HB0.out⟩
  case round =>
    obtain ⟨k, wr, aM, cM, csM, hwr, hk, rfl, hA, hks, hsh, hbr⟩ := hrel
    subst hwr
    have A := Lib.hid hA
    have HB := Lib.hid hbr
    have Hsh := Lib.hid hsh
    clear hA hbr hsh HT0 HB0
    obtain ⟨d0, d1⟩ := A.out.box.cells
    dsimp only [grown] at d0 d1
    have hlg : G7 < wr.heap.size := heap_lt A.out.box
    by_cases hkL : k < L
    · have hkl : k < ps.length := by rw [← HL.out]; exact hkL
      obtain ⟨lbk, lo, hla, hlr0, hat⟩ := Hm.out.at hkl
      subst hla
      have r0' := hat k hkl
      have hrow := Hm.out.row _ (List.getElem_mem hkl)
      obtain ⟨q, hq⟩ : ∃ q, q = ps[k] := ⟨_, rfl⟩
      have Hq := Lib.hid hq
      rw [← hq] at r0' hrow
      obtain ⟨pa, pc, pl⟩ := q
      dsimp only at r0'
      have HSp := Lib.hid (show Src w pa (bvs pl) from hrow.1)
      have hpl : pl.length ≤ 9223372036854775807 := hrow.2
      obtain ⟨pn, hpn⟩ : ∃ n, n = pl.length := ⟨_, rfl⟩
      rw [← hpn] at r0' hpl
      have HPn := Lib.hid hpn
      have Hr0 := Lib.hid r0'
      have r0 := (World.cell?_of_block (w := w) (a := ⟨lbk, lo + k, none⟩) (HB.out.block lbk hlr0)).trans r0'
      have hlr : lbk < wr.heap.size := Nat.lt_of_lt_of_le hlr0 HB.out.size
      clear hat hrow hq hpn r0'
      by_cases h256 : 256 < pn
      · go_wp2
        go_ret
        exact ⟨rfl, HB.out⟩
      by_cases hp0 : pn = 0
      · have hp0' : ((pn : Int) == 0) = true := by simp; omega
        have Hpl : Hid (cellOf pl = ⟨2, [], false⟩) := Lib.hid (by unfold cellOf; rw [if_pos (by rw [← HPn.out]; exact hp0)])
        have gN := heap_alloc_new wr (.cells #[.int .i64 0, .slice none 0 0] 60)
        have hba := ext_alloc wr (.cells #[.int .i64 0, .slice none 0 0] 60)
        have hNw := HB.out.size
        have hGN : G7 ≠ wr.heap.size := by omega
        have hks' : k ≤ 60 := by omega
        have HshT : Hid (∀ x ∈ csM, x.d.l.length ≤ 140737488355328) := Lib.hid (A.out.at.short (K := 140737488355328) fun x hx => by
          obtain ⟨y, hy, rfl⟩ := List.mem_map.1 hx
          have := Hsh.out y hy
          unfold cellOf
          split
          · exact Nat.zero_le _
          · show y.l.length ≤ _
            omega)
        clear hp0 d0 d1 hlg
        have HB' := Lib.hid (bthen HB.out hba (Nat.le_refl _))
        have A' := Lib.hid (A.out.ext hba)
        clear hba HB A
        have HB := HB'
        have A := A'
        clear HB' A'
        obtain ⟨d0, d1⟩ := A.out.box.cells
        dsimp only [grown] at d0 d1
        go_wp2_with fail
        generalize hwa : World.alloc _ _ = wa at *
        generalize wr.heap.size = N at *
        clear hwa d0 d1 r0 hlr hp0'
        obtain ⟨⟨Mz, Ez⟩, hmz⟩ : ∃ x : Med × Int, x = (medOf size csM).mark (k : Int) := ⟨_, rfl⟩
        have HMw := Lib.hid hmz.symm
        clear hmz
        refine (mark_any size aM cM k csM (k : Int) Mz Ez wa A.out.r.mat A.out.r.len.symm (by omega) HshT.out A.out.cap HMw.out).mono ?_
        rintro e wG ⟨aN, cN, kN, csN, rfl, hM, hc, hb⟩
        have gN' := (hb.block N (heap_lt gN)).trans gN
        have HAM : Hid (medOf size csM = grown size (ps.take k)) := Lib.hid A.out.r.of
        have TN := Lib.hid (TapeO.put Mz.cap rfl (hM.mono HB.out.size) hc gN')
        have A' := Lib.hid ((A.out.ext hb).other (new := #[.int .i64 Mz.cap, .slice aN kN cN]) gN' hGN)
        have HB' := Lib.hid (bsetRow (bthen HB.out hb (Nat.le_refl _)) hNw #[.int .i64 Mz.cap, .slice aN kN cN])
        clear hM hc hb gN A HB HshT
        have A := A'
        have HB := HB'
        clear A' HB'
        have HGO := Lib.hid (grown_ok h1 (by omega) (ps := ps.take k) (by rw [List.length_take]; omega) Hsh.out)
        have HGL : Hid ((grown size (ps.take k)).cells.length = k) := Lib.hid (by rw [grown_len, List.length_take]; omega)
        by_cases hks2 : (k : Int) < size
        · have hcm : (grown size (ps.take k)).mark (k : Int) = (Mz, Ez) := by rw [← HAM.out]; exact HMw.out
          have hcq : cellOf ps[k].l = ⟨2, [], false⟩ := by
            have h := Hpl.out
            have h2 := congrArg Bsl.l Hq.out
            rw [show pl = ps[k].l from h2] at h
            exact h
          have hMw := grow_mark hcm HGO.out HGL.out hks2 hkl hcq
          clear hcm hcq
          obtain ⟨rfl, rfl⟩ := hMw
          have hkN : k + 1 = kN := by rw [← TN.out.r.size, grown_len, List.length_take]; omega
          subst hkN
          have hks3 : ¬ size ≤ (k : Int) := by omega
          have hNc := TN.out.cap
          have hTF := Lib.hid (TapeO.put size rfl TN.out.r TN.out.cap A.out.box)
          have HBF := Lib.hid (bsetRow HB.out hGw #[.int .i64 size, .slice aN (k + 1) cN])
          obtain ⟨e0, e1⟩ := TN.out.box.cells
          dsimp only [grown] at e0 e1
          clear HMw hks2
          go_wp2_with (first | (refine wpList_store_row rfl rfl 60 (.tmp 10) (.tmp 55) rfl N rfl 60 #[.int .i64 0, .slice none 0 0] #[.int .i64 size, .slice aN (k + 1) cN] rfl gN' rfl (by kernel_rfl) (by simp [Value.oneCell']) ?_) | (refine wpList_store_row rfl rfl 60 (.tmp 7) (.tmp 128) rfl G7 rfl 60 #[.int .i64 size, .slice aM k cM] #[.int .i64 size, .slice aN (k + 1) cN] rfl A.out.box rfl (by kernel_rfl) (by simp [Value.oneCell']) ?_))
          go_roundw
          case rel =>
            refine ⟨k + 1, _, aN, cN, csN, rfl, by omega, by go_num, hTF.out, by omega, fun p hp => ?_, HBF.out⟩
            rw [take_succ_list ps k (by rw [← HL.out]; exact hkL)] at hp
            rcases List.mem_append.1 hp with h | h
            · exact Hsh.out p h
            · rw [List.mem_singleton.1 h, ← Hq.out]
              show pl.length ≤ 256
              rw [← HPn.out]; omega
          case measure => simp [intOf]; omega
        · have Hke := Lib.hid (show (k : Int) = size by omega)
          have hks3 : size ≤ (k : Int) := by omega
          have hcm : (grown size (ps.take k)).mark (k : Int) = (Mz, Ez) := by rw [← HAM.out]; exact HMw.out
          have hMz := grow_mark_full hcm HGO.out HGL.out Hke.out
          clear hcm
          obtain ⟨rfl, rfl⟩ := hMz
          have hk0 : 0 = kN := TN.out.r.size
          subst hk0
          clear HMw hks2
          obtain ⟨e0, e1⟩ := TN.out.box.cells
          dsimp only [Med.none] at e0 e1
          go_wp2_with (refine wpList_store_row rfl rfl 60 (.tmp 10) (.tmp 55) rfl N rfl 60 #[.int .i64 0, .slice none 0 0] #[.int .i64 0, .slice aN 0 cN] rfl gN' rfl (by kernel_rfl) (by simp [Value.oneCell']) ?_)
          refine (keepmed_any 0 0 aN none cN 0 0 0 csN [] true _ TN.out.r.mat (CMat.nil _ _) TN.out.r.len.symm rfl (by decide) (by decide) (by rw [TN.out.r.pls]; exact ⟨fun _ => ⟨rfl, rfl⟩, fun _ => rfl⟩)).mono ?_
          rintro e wK ⟨rfl, hbK⟩
          have hbF := bthen HB.out hbK (Nat.le_refl _)
          clear hbK e0 e1 TN HB
          go_wp2_with fail
          refine (wakes07_any wK).mono ?_
          rintro e wL ⟨rfl, hbL⟩
          go_wp2
          go_ret
          exact ⟨rfl, bthen hbF hbL (Nat.le_refl _)⟩
      · have hp1 : 1 ≤ pn := by omega
        have hp0' : ((pn : Int) == 0) = false := by simp; omega
        clear hp0
        have gN := heap_alloc_new wr (.cells #[.int .i64 0, .slice none 0 0] 60)
        have hba := ext_alloc wr (.cells #[.int .i64 0, .slice none 0 0] 60)
        have A' := Lib.hid (A.out.ext hba)
        have HB' := Lib.hid (bthen HB.out hba (Nat.le_refl _))
        have hNw := HB.out.size
        have hGN : G7 ≠ wr.heap.size := by omega
        go_wp2_with fail
        generalize hwa : World.alloc _ _ = wa at *
        generalize wr.heap.size = N at *
        clear hwa hba A HB d0 d1 r0 hlg hlr
        have A := A'
        have HB := HB'
        clear A' HB'
        obtain ⟨d0, d1⟩ := A.out.box.cells
        dsimp only [grown] at d0 d1
        have r0 := (World.cell?_of_block (w := w) (a := ⟨lbk, lo + k, none⟩) (HB.out.block lbk hlr0)).trans Hr0.out
        have hlg : G7 < wa.heap.size := heap_lt A.out.box
        have hlN : N < wa.heap.size := heap_lt gN
        have hlr : lbk < wa.heap.size := Nat.lt_of_lt_of_le hlr0 HB.out.size
        have hkg : ¬ wa.heap.size ≤ G7 := by omega
        have hkr : ¬ wa.heap.size ≤ lbk := by omega
        have hnk : ∀ b, b < w.heap.size → ¬ wa.heap.size ≤ b := fun b hb => by have := HB.out.size; omega
        have HshT : Hid (∀ x ∈ csM, x.d.l.length ≤ 140737488355328) := Lib.hid (A.out.at.short (K := 140737488355328) fun x hx => by
          obtain ⟨y, hy, rfl⟩ := List.mem_map.1 hx
          have := Hsh.out y hy
          unfold cellOf
          split
          · exact Nat.zero_le _
          · show y.l.length ≤ _
            omega)
        have HC : Hid (pn ≤ pc) := Lib.hid (by
          have h := Hcap.out _ (List.getElem_mem hkl)
          rw [← Hq.out] at h
          rw [HPn.out]
          exact h)
        obtain ⟨⟨Mt, Et⟩, hmt⟩ : ∃ x : Med × Int, x = (medOf size csM).tear (k : Int) pl keep := ⟨_, rfl⟩
        have HMt := Lib.hid hmt.symm
        clear hmt
        refine wp_region_chainF (by kernel_rfl) [12, 13] [11] (MRel.rel (fun b => wa.heap.size ≤ b)) (fun h => h.size) [SpT.eq (.agg #[.int .i64 size, .slice aM k cM]), SpT.eq (.int .i64 (k : Int)), SpT.eq (.slice (some ⟨lbk, lo, none⟩) L lc), SpT.eq (.int .i64 (k : Int)), SpT.eq (.pointer (some ⟨lbk, lo + k, none⟩)), SpT.eq (.slice pa pn pc), SpT.eq (.int .i64 keep), ⟨AnsT w.heap.size Mt Et, fun _ _ _ h hm => h.st _ _ _ hm⟩, ⟨AnsT w.heap.size Mt Et, fun _ _ _ h hm => h.st _ _ _ hm⟩, ⟨AnsM w.heap.size Mt, fun _ _ _ h hm => h.st _ _ _ hm⟩, SpT.eq (.int .i64 Et), ⟨NewV wa.heap.size, fun _ _ _ h hm => h.st _ _ _ hm⟩, SpT.top, SpT.top] (by kernel_rfl) (by kernel_rfl) (by kernel_rfl) (by kernel_rfl) (by kernel_rfl) ?_ ?_
        · refine stepsM_free rfl ?_ (stepsM_free rfl ?_ (stepsM_free rfl ?_ (stepsM_free rfl ?_ (stepsM_free rfl ?_ (stepsM_free rfl ?_ (stepsM_free rfl ?_ (stepsM_free rfl ?_ (stepsM_free rfl ?_ (stepsM_free rfl ?_ (stepsM_free rfl ?_ (stepsM_free rfl ?_ (stepsM_chain rfl (stepsM_chain rfl (stepsM_nil))))))))))))))
          · intro ρ w' E
            have e7 : ρ (.tmp 7) = .pointer (some ⟨G7, 0, none⟩) := E.out 7 rfl
            refine step_plain rfl ?_
            refine op_val (v := .agg #[.int .i64 size, .slice aM k cM]) (w' := w') ?_ ⟨Below.refl _ _, trivial, rfl⟩
            have k0 : w'.cell? ⟨G7, 0, none⟩ = some (.int .i64 size) := (World.cell?_of_block (w := wa) (E.t.keep hlg hkg)).trans d0
            have k1 : w'.cell? ⟨G7, 1, none⟩ = some (.slice aM k cM) := (World.cell?_of_block (w := wa) (E.t.keep hlg hkg)).trans d1
            have hcon := E.con
            clear E d0 d1 r0
            go_simp
          · intro ρ w' E
            have e9 : ρ (.tmp 9) = .int .i64 (k : Int) := E.out 9 rfl
            refine step_plain rfl ?_
            exact op_move (.inl rfl) e9 ⟨Below.refl _ _, trivial, rfl⟩
          · intro ρ w' E
            have e1 : ρ (.tmp 1) = .slice (some ⟨lbk, lo, none⟩) L lc := E.out 1 rfl
            refine step_plain rfl ?_
            exact op_move (.inl rfl) e1 ⟨Below.refl _ _, trivial, rfl⟩
          · intro ρ w' E
            have e9 : ρ (.tmp 9) = .int .i64 (k : Int) := E.out 9 rfl
            refine step_plain rfl ?_
            exact op_move (.inl rfl) e9 ⟨Below.refl _ _, trivial, rfl⟩
          · intro ρ w' E
            have e60 : ρ (.tmp 60) = .slice (some ⟨lbk, lo, none⟩) L lc := E.pre 2 rfl rfl
            have e61 : ρ (.tmp 61) = .int .i64 (k : Int) := E.pre 3 rfl rfl
            refine step_plain rfl ?_
            refine op_val (v := .pointer (some ⟨lbk, lo + k, none⟩)) (w' := w') ?_ ⟨Below.refl _ _, trivial, rfl⟩
            have hcon := E.con
            clear E d0 d1 r0
            go_simp
          · intro ρ w' E
            have e62 : ρ (.tmp 62) = .pointer (some ⟨lbk, lo + k, none⟩) := E.pre 4 rfl rfl
            refine step_plain rfl ?_
            refine op_val (v := .slice pa pn pc) (w' := w') ?_ ⟨Below.refl _ _, trivial, rfl⟩
            have k0 : w'.cell? ⟨lbk, lo + k, none⟩ = some (.slice pa pn pc) := (World.cell?_of_block (w := wa) (E.t.keep hlr hkr)).trans r0
            have hcon := E.con
            clear E d0 d1 r0
            go_simp
          · intro ρ w' E
            have e2 : ρ (.tmp 2) = .int .i64 keep := E.out 2 rfl
            refine step_plain rfl ?_
            exact op_move (.inl rfl) e2 ⟨Below.refl _ _, trivial, rfl⟩
          · intro ρ w' E
            have e58 : ρ (.tmp 58) = .agg #[.int .i64 size, .slice aM k cM] := E.pre 0 rfl rfl
            have e59 : ρ (.tmp 59) = .int .i64 (k : Int) := E.pre 1 rfl rfl
            have e63 : ρ (.tmp 63) = .slice pa pn pc := E.pre 5 rfl rfl
            have e64 : ρ (.tmp 64) = .int .i64 keep := E.pre 6 rfl rfl
            refine step_plain rfl ?_
            refine op_call (f := 52) (args := #[.agg #[.int .i64 size, .slice aM k cM], .int .i64 (k : Int), .slice pa pn pc, .int .i64 keep]) (w' := w') (by have hcon := E.con; have hfn := E.fn; clear E d0 d1 r0; go_simp) ?_
            refine (tear_any size aM cM k csM (k : Int) pa pn pc pl keep Mt Et w' ((A.out.r.mrel E.t).mat) A.out.r.len.symm (by omega) HshT.out A.out.cap (HSp.out.keep fun b o _ hl => (E.t.keep (Nat.lt_of_lt_of_le hl HB.out.size) (hnk b hl)).trans (HB.out.block b hl)) HPn.out (by omega) HC.out HMt.out).mono ?_
            rintro e wy ⟨a5, c5, k5, cs5, rfl, hM5, hc5, hb5⟩
            exact ⟨_, rfl, hb5, trivial, ⟨a5, k5, c5, cs5, rfl, hM5.mono (Nat.le_trans HB.out.size E.t.size), hc5⟩⟩
          · intro ρ w' E
            have p65 : (AnsT w.heap.size Mt Et) w' (ρ (.tmp 65)) := E.pre 7 rfl rfl
            refine step_plain rfl ?_
            exact op_move (.inl rfl) rfl ⟨Below.refl _ _, trivial, p65⟩
          · intro ρ w' E
            have p57 : (AnsT w.heap.size Mt Et) w' (ρ (.tmp 57)) := E.pre 8 rfl rfl
            refine step_plain rfl ?_
            obtain ⟨a5, k5, c5, cs5, e5, h5, hk5⟩ := p57
            refine op_val (v := .agg #[.int .i64 Mt.cap, .slice a5 k5 c5]) (w' := w') (by have hcon := E.con; clear E d0 d1 r0; go_simp) ⟨Below.refl _ _, trivial, ⟨a5, k5, c5, cs5, rfl, h5, hk5⟩⟩
          · intro ρ w' E
            have p57 : (AnsT w.heap.size Mt Et) w' (ρ (.tmp 57)) := E.pre 8 rfl rfl
            refine step_plain rfl ?_
            refine op_val (v := .int .i64 Et) (w' := w') ?_ ⟨Below.refl _ _, trivial, rfl⟩
            obtain ⟨a5, k5, c5, cs5, e5, _, _⟩ := p57
            have hcon := E.con
            clear E d0 d1 r0
            go_simp
          · intro ρ w' E
            refine step_plain rfl ?_
            refine op_val (v := .pointer (some ⟨w'.heap.size, 0, none⟩)) (w' := w'.alloc (.cells #[.int .i64 0, .slice none 0 0] 60)) (by have hcon := E.con; clear E d0 d1 r0; go_simp; try rfl) ⟨ext_alloc _ _, ⟨Nat.le_refl _, by rw [World.size_alloc]; exact Nat.lt_succ_self _⟩, _, rfl, E.t.size, _, heap_alloc_at _ _, rfl⟩
        · intro ρ1 w1c G1 E1 A1 R1
          have p11 : (NewV wa.heap.size) w1c (ρ1 (.tmp 11)) := E1.pre 11 rfl rfl
          have p66 : (AnsM w.heap.size Mt) w1c (ρ1 (.tmp 66)) := E1.pre 9 rfl rfl
          refine step_plain rfl ?_
          obtain ⟨X, e11, hX, cX, hcX, hsX⟩ := p11
          obtain ⟨aT, kT, cT, csT, e66, hrT, hkT⟩ := p66
          refine op_store_row rfl e11 e66 hcX (by rw [hsX]; rfl) (by kernel_rfl) (by simp [Value.oneCell']) ⟨MRel.set (K := fun b => wa.heap.size ≤ b) hX hcX (by rw [hsX]; rfl), ?_⟩
          have hTT := TapeO.put Mt.cap rfl hrT hkT hcX
          intro ρ2 w2c G2 E2 A2 R2
          have e67 : ρ2 (.tmp 67) = .int .i64 Et := E2.pre 10 rfl rfl
          refine step_plain rfl ?_
          refine op_move (.inr rfl) e67 ⟨trivial, ?_⟩
          intro σ wF GF hκ hrec
          have h12 : σ 12 = .int .i64 Et := hκ 13 12 rfl rfl
          have e11b : ρ2 (.tmp 11) = ρ1 (.tmp 11) := R2 11 11 rfl rfl
          have h11 : σ 11 = .pointer (some ⟨X, 0, none⟩) := (hrec 11 11 rfl rfl).trans (e11b.trans e11)
          simp only [upd, updL, dstsOf', elemB, List.filterMap_cons, List.filterMap_nil, Nat.reduceAdd, Nat.reduceBEq, Bool.or_false, Bool.false_or, Bool.or_true, Bool.true_or, cond_true, cond_false, Nat.zero_add, h11, h12]
          have hXN : X ≠ N := by have : wa.heap.size ≤ X := hX; omega
          have hXG : G7 ≠ X := by have : wa.heap.size ≤ X := hX; omega
          have hXw : w.heap.size ≤ X := by have : wa.heap.size ≤ X := hX; have := HB.out.size; omega
          have A' := Lib.hid ((((A.out.ext G1).other (new := #[.int .i64 Mt.cap, .slice aT kT cT]) hcX hXG).ext G2).ext GF)
          have TT := Lib.hid ((hTT.ext G2).ext GF)
          have HB' := Lib.hid (bthen (bthen (bsetRow (bthen HB.out G1 (Nat.le_refl _)) hXw #[.int .i64 Mt.cap, .slice aT kT cT]) G2 (Nat.le_refl _)) GF (Nat.le_refl _))
          have gN1 := (setRow_other w1c X N #[.int .i64 Mt.cap, .slice aT kT cT] (Ne.symm hXN)).trans ((G1.block N hlN).trans gN)
          have gN2 := (G2.block N (heap_lt gN1)).trans gN1
          have gN' := (GF.block N (heap_lt gN2)).trans gN2
          have Hmt := Lib.hid (tear_bound HMt.out (n := 60) (K := 140737488355328) (by rw [show (medOf size csM).cells.length = csM.length from pls_length csM, A.out.r.len]; omega)
            (fun x hx => by obtain ⟨y, hy, rfl⟩ := List.mem_map.1 hx; exact HshT.out y hy) (by rw [← HPn.out]; omega))
          have HAM : Hid (medOf size csM = grown size (ps.take k)) := Lib.hid A.out.r.of
          clear A HB hTT gN gN1 gN2 d0 d1 r0 h11 h12 hκ hrec G1 G2 GF E1 E2 e11 e11b e66 hcX hrT hlg hlr hlN hkg hkr hnk HshT
          have A := A'
          have HB := HB'
          have gN := gN'
          clear A' HB' gN'
          have hkT : kT ≤ 90000 := by
            have h1 := Hmt.out.1
            rw [TT.out.r.size] at h1
            omega
          have HshT := Lib.hid (TT.out.at.short Hmt.out.2)
          obtain ⟨d0, d1⟩ := TT.out.box.cells
          have r0 := (World.cell?_of_block (w := w) (a := ⟨lbk, lo + k, none⟩) (HB.out.block lbk hlr0)).trans Hr0.out
          have hlg : X < wF.heap.size := heap_lt TT.out.box
          have hlN : N < wF.heap.size := heap_lt gN
          have hlr : lbk < wF.heap.size := Nat.lt_of_lt_of_le hlr0 HB.out.size
          have hkg : ¬ X = N := hXN
          have hkr : ¬ lbk = N := by omega
          have hnk : ∀ b, b < w.heap.size → ¬ b = N := fun b hb => by omega
          obtain ⟨⟨Mw, Ew⟩, hmw⟩ : ∃ x : Med × Int, x = (medOf Mt.cap csT).write (k : Int) pl := ⟨_, rfl⟩
          have HMw := Lib.hid hmw.symm
          clear hmw
          go_wp2_with fail
          refine wp_region_chainL (by kernel_rfl) [10, 11] (MRel.rel (fun b => b = N)) [SpT.eq (.agg #[.int .i64 Mt.cap, .slice aT kT cT]), SpT.eq (.int .i64 (k : Int)), SpT.eq (.slice (some ⟨lbk, lo, none⟩) L lc), SpT.eq (.int .i64 (k : Int)), SpT.eq (.pointer (some ⟨lbk, lo + k, none⟩)), SpT.eq (.slice pa pn pc), ⟨AnsT w.heap.size Mw Ew, fun _ _ _ h hm => h.st _ _ _ hm⟩, ⟨AnsT w.heap.size Mw Ew, fun _ _ _ h hm => h.st _ _ _ hm⟩, ⟨AnsM w.heap.size Mw, fun _ _ _ h hm => h.st _ _ _ hm⟩, SpT.eq (.int .i64 Ew), SpT.top, SpT.top] (by kernel_rfl) (by kernel_rfl) (by kernel_rfl) (by kernel_rfl) ?_ ?_
          · refine stepsL_free rfl ?_ (stepsL_free rfl ?_ (stepsL_free rfl ?_ (stepsL_free rfl ?_ (stepsL_free rfl ?_ (stepsL_free rfl ?_ (stepsL_free rfl ?_ (stepsL_free rfl ?_ (stepsL_free rfl ?_ (stepsL_free rfl ?_ (stepsL_chain rfl (stepsL_chain rfl (stepsL_nil))))))))))))
            · intro ρ w' E
              have e11 : ρ (.tmp 11) = .pointer (some ⟨X, 0, none⟩) := E.out 11 rfl
              refine step_plain rfl ?_
              refine op_val (v := .agg #[.int .i64 Mt.cap, .slice aT kT cT]) (w' := w') ?_ ⟨Below.refl _ _, rfl⟩
              have k0 : w'.cell? ⟨X, 0, none⟩ = some (.int .i64 Mt.cap) := (World.cell?_of_block (w := wF) (E.t.keep hlg hkg)).trans d0
              have k1 : w'.cell? ⟨X, 1, none⟩ = some (.slice aT kT cT) := (World.cell?_of_block (w := wF) (E.t.keep hlg hkg)).trans d1
              have hcon := E.con
              clear E d0 d1 r0
              go_simp
            · intro ρ w' E
              have e9 : ρ (.tmp 9) = .int .i64 (k : Int) := E.out 9 rfl
              refine step_plain rfl ?_
              exact op_move (.inl rfl) e9 ⟨Below.refl _ _, rfl⟩
            · intro ρ w' E
              have e1 : ρ (.tmp 1) = .slice (some ⟨lbk, lo, none⟩) L lc := E.out 1 rfl
              refine step_plain rfl ?_
              exact op_move (.inl rfl) e1 ⟨Below.refl _ _, rfl⟩
            · intro ρ w' E
              have e9 : ρ (.tmp 9) = .int .i64 (k : Int) := E.out 9 rfl
              refine step_plain rfl ?_
              exact op_move (.inl rfl) e9 ⟨Below.refl _ _, rfl⟩
            · intro ρ w' E
              have e71 : ρ (.tmp 71) = .slice (some ⟨lbk, lo, none⟩) L lc := E.pre 2 rfl rfl
              have e72 : ρ (.tmp 72) = .int .i64 (k : Int) := E.pre 3 rfl rfl
              refine step_plain rfl ?_
              refine op_val (v := .pointer (some ⟨lbk, lo + k, none⟩)) (w' := w') ?_ ⟨Below.refl _ _, rfl⟩
              have hcon := E.con
              clear E d0 d1 r0
              go_simp
            · intro ρ w' E
              have e73 : ρ (.tmp 73) = .pointer (some ⟨lbk, lo + k, none⟩) := E.pre 4 rfl rfl
              refine step_plain rfl ?_
              refine op_val (v := .slice pa pn pc) (w' := w') ?_ ⟨Below.refl _ _, rfl⟩
              have k0 : w'.cell? ⟨lbk, lo + k, none⟩ = some (.slice pa pn pc) := (World.cell?_of_block (w := wF) (E.t.keep hlr hkr)).trans r0
              have hcon := E.con
              clear E d0 d1 r0
              go_simp
            · intro ρ w' E
              have e69 : ρ (.tmp 69) = .agg #[.int .i64 Mt.cap, .slice aT kT cT] := E.pre 0 rfl rfl
              have e70 : ρ (.tmp 70) = .int .i64 (k : Int) := E.pre 1 rfl rfl
              have e74 : ρ (.tmp 74) = .slice pa pn pc := E.pre 5 rfl rfl
              refine step_plain rfl ?_
              refine op_call (f := 47) (args := #[.agg #[.int .i64 Mt.cap, .slice aT kT cT], .int .i64 (k : Int), .slice pa pn pc]) (w' := w') (by have hcon := E.con; have hfn := E.fn; clear E d0 d1 r0; go_simp) ?_
              refine (write_any Mt.cap aT cT kT csT (k : Int) pa pn pc pl Mw Ew w' ((TT.out.r.mrel E.t).mat) TT.out.r.len.symm (by omega) HshT.out TT.out.cap (HSp.out.keep fun b o _ hl => (E.t.keep (Nat.lt_of_lt_of_le hl HB.out.size) (hnk b hl)).trans (HB.out.block b hl)) HPn.out (by omega) HMw.out).mono ?_
              rintro e wy ⟨a5, c5, k5, cs5, rfl, hM5, hc5, hb5⟩
              exact ⟨_, rfl, hb5, ⟨a5, k5, c5, cs5, rfl, hM5.mono (Nat.le_trans HB.out.size E.t.size), hc5⟩⟩
            · intro ρ w' E
              have p75 : (AnsT w.heap.size Mw Ew) w' (ρ (.tmp 75)) := E.pre 6 rfl rfl
              refine step_plain rfl ?_
              exact op_move (.inl rfl) rfl ⟨Below.refl _ _, p75⟩
            · intro ρ w' E
              have p68 : (AnsT w.heap.size Mw Ew) w' (ρ (.tmp 68)) := E.pre 7 rfl rfl
              refine step_plain rfl ?_
              obtain ⟨a5, k5, c5, cs5, e5, h5, hk5⟩ := p68
              refine op_val (v := .agg #[.int .i64 Mw.cap, .slice a5 k5 c5]) (w' := w') (by have hcon := E.con; clear E d0 d1 r0; go_simp) ⟨Below.refl _ _, ⟨a5, k5, c5, cs5, rfl, h5, hk5⟩⟩
            · intro ρ w' E
              have p68 : (AnsT w.heap.size Mw Ew) w' (ρ (.tmp 68)) := E.pre 7 rfl rfl
              refine step_plain rfl ?_
              refine op_val (v := .int .i64 Ew) (w' := w') ?_ ⟨Below.refl _ _, rfl⟩
              obtain ⟨a5, k5, c5, cs5, e5, _, _⟩ := p68
              have hcon := E.con
              clear E d0 d1 r0
              go_simp
          · intro ρ1 w1c G1 E1
            have e10 : ρ1 (.tmp 10) = .pointer (some ⟨N, 0, none⟩) := E1.out 10 rfl
            have p76 : (AnsM w.heap.size Mw) w1c (ρ1 (.tmp 76)) := E1.pre 8 rfl rfl
            refine step_plain rfl ?_
            have hcN := (G1.block N hlN).trans gN
            obtain ⟨aN, kN, cN, csN, eN, hrN, hkN⟩ := p76
            refine op_store_row rfl e10 eN hcN rfl (by kernel_rfl) (by simp [Value.oneCell']) ⟨MRel.set (K := fun b => b = N) rfl hcN rfl, ?_⟩
            have hTN := TapeO.put Mw.cap rfl hrN hkN hcN
            intro ρ2 w2c G2 E2
            have e77 : ρ2 (.tmp 77) = .int .i64 Ew := E2.pre 9 rfl rfl
            refine step_plain rfl ?_
            refine op_move (.inr rfl) e77 ⟨trivial, ?_⟩
            intro σ wG GF hκ
            have h8 : σ 8 = .int .i64 Ew := hκ 11 8 rfl rfl
            simp only [upd, updL, dstsOf', elemB, List.filterMap_cons, List.filterMap_nil, Nat.reduceAdd, Nat.reduceBEq, Bool.or_false, Bool.false_or, Bool.or_true, Bool.true_or, cond_true, cond_false, Nat.zero_add, h8]
            have hNG : G7 ≠ N := hGN
            have A' := Lib.hid ((((A.out.ext G1).other (new := #[.int .i64 Mw.cap, .slice aN kN cN]) hcN hNG).ext G2).ext GF)
            have TT' := Lib.hid ((((TT.out.ext G1).other (new := #[.int .i64 Mw.cap, .slice aN kN cN]) hcN hXN).ext G2).ext GF)
            have TN := Lib.hid ((hTN.ext G2).ext GF)
            have HB' := Lib.hid (bthen (bthen (bsetRow (bthen HB.out G1 (Nat.le_refl _)) hNw #[.int .i64 Mw.cap, .slice aN kN cN]) G2 (Nat.le_refl _)) GF (Nat.le_refl _))
            clear A HB TT hTN gN d0 d1 r0 h8 hκ G1 G2 GF E1 E2 e10 eN hcN hrN hlg hlr hlN hkg hkr hnk
            have A := A'
            have HB := HB'
            have TT := TT'
            clear A' HB' TT'
            have HGO := Lib.hid (grown_ok h1 (by omega) (ps := ps.take k) (by rw [List.length_take]; omega) Hsh.out)
            have hpl2 : 1 ≤ pl.length ∧ pl.length ≤ 256 := by rw [← HPn.out]; omega
            by_cases hks2 : (k : Int) < size
            · have hgl : (grown size (ps.take k)).cells.length = k := by rw [grown_len, List.length_take]; omega
              obtain ⟨hE, hW, hRd⟩ := grow_torn HGO.out (p := k) hgl.symm hks2 hpl2 (keep := keep) (T := Mt) (E := Et) (by rw [← HAM.out]; exact HMt.out)
              have hMw : Mw = grown size (ps.take (k + 1)) ∧ Ew = 0 := by
                have h := HMw.out
                rw [show medOf Mt.cap csT = Mt from TT.out.r.of, hW, grown_take (by omega), show (CellP.mk 1 pl false) = cellOf ps[k].l by rw [← Hq.out]; show _ = cellOf pl; unfold cellOf; rw [if_neg (by omega)], grown_step hkl] at h
                simp only [Prod.mk.injEq] at h
                exact ⟨h.1.symm, h.2.symm⟩
              obtain ⟨rfl, rfl⟩ := hMw
              subst hE
              have hkN : k + 1 = kN := by rw [← TN.out.r.size, grown_len, List.length_take]; omega
              subst hkN
              have HRd := Lib.hid hRd
              have hks3 : ¬ size ≤ (k : Int) := by omega
              clear hRd hW hgl HMw HMt
              obtain ⟨d0, d1⟩ := TT.out.box.cells
              obtain ⟨e0, e1⟩ := TN.out.box.cells
              dsimp only [grown] at e0 e1
              by_cases hk0 : keep < 0
              · have hk1 : ¬ 0 ≤ keep := by omega
                go_wp2_with fail
                refine (read_any Mt.cap aT cT kT csT (k : Int) [] 8 wG TT.out.r.mat TT.out.r.len.symm (by omega) HshT.out (by rw [show medOf Mt.cap csT = Mt from TT.out.r.of, HRd.out]; first | rw [if_pos hk0] | rw [if_neg (by omega)])).mono ?_
                rintro e wH ⟨a7, c7, k7, rfl, _, _, hb⟩
                have A' := Lib.hid (A.out.ext hb)
                have TN' := Lib.hid (TN.out.ext hb)
                have HB' := Lib.hid (bthen HB.out hb (Nat.le_refl _))
                clear A HB TN TT hb d0 d1 e0 e1
                obtain ⟨e0, e1⟩ := TN'.out.box.cells
                dsimp only [grown] at e0 e1
                have hNc := TN'.out.cap
                have hTF := Lib.hid (TapeO.put size rfl TN'.out.r TN'.out.cap A'.out.box)
                have HBF := Lib.hid (bsetRow HB'.out hGw #[.int .i64 size, .slice aN (k + 1) cN])
                go_wp2_with (refine wpList_store_row rfl rfl 60 (.tmp 7) (.tmp 128) rfl G7 rfl 60 #[.int .i64 size, .slice aM k cM] #[.int .i64 size, .slice aN (k + 1) cN] rfl A'.out.box rfl (by kernel_rfl) (by simp [Value.oneCell']) ?_)
                go_roundw
                case rel =>
                  refine ⟨k + 1, _, aN, cN, csN, rfl, by omega, by go_num, hTF.out, by omega, fun p hp => ?_, HBF.out⟩
                  rw [take_succ_list ps k (by rw [← HL.out]; exact hkL)] at hp
                  rcases List.mem_append.1 hp with h | h
                  · exact Hsh.out p h
                  · rw [List.mem_singleton.1 h, ← Hq.out]
                    exact hpl2.2
                case measure => simp [intOf]; omega
              · have hk1 : 0 ≤ keep := by omega
                go_wp2_with fail
                refine (read_any Mt.cap aT cT kT csT (k : Int) [] 6 wG TT.out.r.mat TT.out.r.len.symm (by omega) HshT.out (by rw [show medOf Mt.cap csT = Mt from TT.out.r.of, HRd.out]; first | rw [if_pos hk0] | rw [if_neg (by omega)])).mono ?_
                rintro e wH ⟨a7, c7, k7, rfl, _, _, hb⟩
                have A' := Lib.hid (A.out.ext hb)
                have TN' := Lib.hid (TN.out.ext hb)
                have HB' := Lib.hid (bthen HB.out hb (Nat.le_refl _))
                clear A HB TN TT hb d0 d1 e0 e1
                obtain ⟨e0, e1⟩ := TN'.out.box.cells
                dsimp only [grown] at e0 e1
                have hNc := TN'.out.cap
                have hTF := Lib.hid (TapeO.put size rfl TN'.out.r TN'.out.cap A'.out.box)
                have HBF := Lib.hid (bsetRow HB'.out hGw #[.int .i64 size, .slice aN (k + 1) cN])
                go_wp2_with (refine wpList_store_row rfl rfl 60 (.tmp 7) (.tmp 128) rfl G7 rfl 60 #[.int .i64 size, .slice aM k cM] #[.int .i64 size, .slice aN (k + 1) cN] rfl A'.out.box rfl (by kernel_rfl) (by simp [Value.oneCell']) ?_)
                go_roundw
                case rel =>
                  refine ⟨k + 1, _, aN, cN, csN, rfl, by omega, by go_num, hTF.out, by omega, fun p hp => ?_, HBF.out⟩
                  rw [take_succ_list ps k (by rw [← HL.out]; exact hkL)] at hp
                  rcases List.mem_append.1 hp with h | h
                  · exact Hsh.out p h
                  · rw [List.mem_singleton.1 h, ← Hq.out]
                    exact hpl2.2
                case measure => simp [intOf]; omega
            · have Hke := Lib.hid (show (k : Int) = size by omega)
              have hks3 : size ≤ (k : Int) := by omega
              have gN : wG.heap[N]? = some (.cells #[.int .i64 Mw.cap, .slice aN kN cN] 60 (0, 0)) := TN.out.box
              clear HshT HMw
              have HshT : Hid (∀ x ∈ csM, x.d.l.length ≤ 140737488355328) := Lib.hid (A.out.at.short (K := 140737488355328) fun x hx => by
                obtain ⟨y, hy, rfl⟩ := List.mem_map.1 hx
                have := Hsh.out y hy
                unfold cellOf
                split
                · exact Nat.zero_le _
                · show y.l.length ≤ _
                  omega)
              obtain ⟨⟨Mz, Ez⟩, hmz⟩ : ∃ x : Med × Int, x = (medOf size csM).write (k : Int) pl := ⟨_, rfl⟩
              have HMw := Lib.hid hmz.symm
              clear hmz TT HMt
              obtain ⟨d0, d1⟩ := A.out.box.cells
              dsimp only [grown] at d0 d1
              have r0 := (World.cell?_of_block (w := w) (a := ⟨lbk, lo + k, none⟩) (HB.out.block lbk hlr0)).trans Hr0.out
              have hlg : G7 < wG.heap.size := heap_lt A.out.box
              have hlN : N < wG.heap.size := heap_lt gN
              have hlr : lbk < wG.heap.size := Nat.lt_of_lt_of_le hlr0 HB.out.size
              have hkg : ¬ G7 = N := hGN
              have hkr : ¬ lbk = N := by omega
              have hnk : ∀ b, b < w.heap.size → ¬ b = N := fun b hb => by omega
              go_wp2_with fail
              refine wp_region_chainL (by kernel_rfl) [10, 11] (MRel.rel (fun b => b = N)) [SpT.eq (.agg #[.int .i64 size, .slice aM k cM]), SpT.eq (.int .i64 (k : Int)), SpT.eq (.slice (some ⟨lbk, lo, none⟩) L lc), SpT.eq (.int .i64 (k : Int)), SpT.eq (.pointer (some ⟨lbk, lo + k, none⟩)), SpT.eq (.slice pa pn pc), ⟨AnsT w.heap.size Mz Ez, fun _ _ _ h hm => h.st _ _ _ hm⟩, ⟨AnsT w.heap.size Mz Ez, fun _ _ _ h hm => h.st _ _ _ hm⟩, ⟨AnsM w.heap.size Mz, fun _ _ _ h hm => h.st _ _ _ hm⟩, SpT.eq (.int .i64 Ez), SpT.top, SpT.top] (by kernel_rfl) (by kernel_rfl) (by kernel_rfl) (by kernel_rfl) ?_ ?_
              · refine stepsL_free rfl ?_ (stepsL_free rfl ?_ (stepsL_free rfl ?_ (stepsL_free rfl ?_ (stepsL_free rfl ?_ (stepsL_free rfl ?_ (stepsL_free rfl ?_ (stepsL_free rfl ?_ (stepsL_free rfl ?_ (stepsL_free rfl ?_ (stepsL_chain rfl (stepsL_chain rfl (stepsL_nil))))))))))))
                · intro ρ w' E
                  have e7 : ρ (.tmp 7) = .pointer (some ⟨G7, 0, none⟩) := E.out 7 rfl
                  refine step_plain rfl ?_
                  refine op_val (v := .agg #[.int .i64 size, .slice aM k cM]) (w' := w') ?_ ⟨Below.refl _ _, rfl⟩
                  have k0 : w'.cell? ⟨G7, 0, none⟩ = some (.int .i64 size) := (World.cell?_of_block (w := wG) (E.t.keep hlg hkg)).trans d0
                  have k1 : w'.cell? ⟨G7, 1, none⟩ = some (.slice aM k cM) := (World.cell?_of_block (w := wG) (E.t.keep hlg hkg)).trans d1
                  have hcon := E.con
                  clear E d0 d1 r0
                  go_simp
                · intro ρ w' E
                  have e9 : ρ (.tmp 9) = .int .i64 (k : Int) := E.out 9 rfl
                  refine step_plain rfl ?_
                  exact op_move (.inl rfl) e9 ⟨Below.refl _ _, rfl⟩
                · intro ρ w' E
                  have e1 : ρ (.tmp 1) = .slice (some ⟨lbk, lo, none⟩) L lc := E.out 1 rfl
                  refine step_plain rfl ?_
                  exact op_move (.inl rfl) e1 ⟨Below.refl _ _, rfl⟩
                · intro ρ w' E
                  have e9 : ρ (.tmp 9) = .int .i64 (k : Int) := E.out 9 rfl
                  refine step_plain rfl ?_
                  exact op_move (.inl rfl) e9 ⟨Below.refl _ _, rfl⟩
                · intro ρ w' E
                  have e106 : ρ (.tmp 106) = .slice (some ⟨lbk, lo, none⟩) L lc := E.pre 2 rfl rfl
                  have e107 : ρ (.tmp 107) = .int .i64 (k : Int) := E.pre 3 rfl rfl
                  refine step_plain rfl ?_
                  refine op_val (v := .pointer (some ⟨lbk, lo + k, none⟩)) (w' := w') ?_ ⟨Below.refl _ _, rfl⟩
                  have hcon := E.con
                  clear E d0 d1 r0
                  go_simp
                · intro ρ w' E
                  have e108 : ρ (.tmp 108) = .pointer (some ⟨lbk, lo + k, none⟩) := E.pre 4 rfl rfl
                  refine step_plain rfl ?_
                  refine op_val (v := .slice pa pn pc) (w' := w') ?_ ⟨Below.refl _ _, rfl⟩
                  have k0 : w'.cell? ⟨lbk, lo + k, none⟩ = some (.slice pa pn pc) := (World.cell?_of_block (w := wG) (E.t.keep hlr hkr)).trans r0
                  have hcon := E.con
                  clear E d0 d1 r0
                  go_simp
                · intro ρ w' E
                  have e104 : ρ (.tmp 104) = .agg #[.int .i64 size, .slice aM k cM] := E.pre 0 rfl rfl
                  have e105 : ρ (.tmp 105) = .int .i64 (k : Int) := E.pre 1 rfl rfl
                  have e109 : ρ (.tmp 109) = .slice pa pn pc := E.pre 5 rfl rfl
                  refine step_plain rfl ?_
                  refine op_call (f := 47) (args := #[.agg #[.int .i64 size, .slice aM k cM], .int .i64 (k : Int), .slice pa pn pc]) (w' := w') (by have hcon := E.con; have hfn := E.fn; clear E d0 d1 r0; go_simp) ?_
                  refine (write_any size aM cM k csM (k : Int) pa pn pc pl Mz Ez w' ((A.out.r.mrel E.t).mat) A.out.r.len.symm (by omega) HshT.out A.out.cap (HSp.out.keep fun b o _ hl => (E.t.keep (Nat.lt_of_lt_of_le hl HB.out.size) (hnk b hl)).trans (HB.out.block b hl)) HPn.out (by omega) HMw.out).mono ?_
                  rintro e wy ⟨a5, c5, k5, cs5, rfl, hM5, hc5, hb5⟩
                  exact ⟨_, rfl, hb5, ⟨a5, k5, c5, cs5, rfl, hM5.mono (Nat.le_trans HB.out.size E.t.size), hc5⟩⟩
                · intro ρ w' E
                  have p110 : (AnsT w.heap.size Mz Ez) w' (ρ (.tmp 110)) := E.pre 6 rfl rfl
                  refine step_plain rfl ?_
                  exact op_move (.inl rfl) rfl ⟨Below.refl _ _, p110⟩
                · intro ρ w' E
                  have p103 : (AnsT w.heap.size Mz Ez) w' (ρ (.tmp 103)) := E.pre 7 rfl rfl
                  refine step_plain rfl ?_
                  obtain ⟨a5, k5, c5, cs5, e5, h5, hk5⟩ := p103
                  refine op_val (v := .agg #[.int .i64 Mz.cap, .slice a5 k5 c5]) (w' := w') (by have hcon := E.con; clear E d0 d1 r0; go_simp) ⟨Below.refl _ _, ⟨a5, k5, c5, cs5, rfl, h5, hk5⟩⟩
                · intro ρ w' E
                  have p103 : (AnsT w.heap.size Mz Ez) w' (ρ (.tmp 103)) := E.pre 7 rfl rfl
                  refine step_plain rfl ?_
                  refine op_val (v := .int .i64 Ez) (w' := w') ?_ ⟨Below.refl _ _, rfl⟩
                  obtain ⟨a5, k5, c5, cs5, e5, _, _⟩ := p103
                  have hcon := E.con
                  clear E d0 d1 r0
                  go_simp
              · intro ρ1 w1c G1 E1
                have e10 : ρ1 (.tmp 10) = .pointer (some ⟨N, 0, none⟩) := E1.out 10 rfl
                have p111 : (AnsM w.heap.size Mz) w1c (ρ1 (.tmp 111)) := E1.pre 8 rfl rfl
                refine step_plain rfl ?_
                have hcN := (G1.block N hlN).trans gN
                obtain ⟨aN, kN, cN, csN, eN, hrN, hkN⟩ := p111
                refine op_store_row rfl e10 eN hcN rfl (by kernel_rfl) (by simp [Value.oneCell']) ⟨MRel.set (K := fun b => b = N) rfl hcN rfl, ?_⟩
                have hTN := TapeO.put Mz.cap rfl hrN hkN hcN
                intro ρ2 w2c G2 E2
                have e112 : ρ2 (.tmp 112) = .int .i64 Ez := E2.pre 9 rfl rfl
                refine step_plain rfl ?_
                refine op_move (.inr rfl) e112 ⟨trivial, ?_⟩
                intro σ wJ GF hκ
                have h8 : σ 8 = .int .i64 Ez := hκ 11 8 rfl rfl
                simp only [upd, updL, dstsOf', elemB, List.filterMap_cons, List.filterMap_nil, Nat.reduceAdd, Nat.reduceBEq, Bool.or_false, Bool.false_or, Bool.or_true, Bool.true_or, cond_true, cond_false, Nat.zero_add, h8]
                have TN' := Lib.hid ((hTN.ext G2).ext GF)
                have HB' := Lib.hid (bthen (bthen (bsetRow (bthen HB.out G1 (Nat.le_refl _)) hNw #[.int .i64 Mz.cap, .slice aN kN cN]) G2 (Nat.le_refl _)) GF (Nat.le_refl _))
                clear A HB TN hTN gN d0 d1 r0 h8 hκ G1 G2 GF E1 E2 e10 eN hcN hrN hlg hlr hlN hkg hkr hnk
                have hMz : Mz = Med.none ∧ Ez = 7 := by
                  have h := HMw.out
                  rw [HAM.out, Med.write_full HGO.out (p := k) (by rw [grown_len, List.length_take]; omega) Hke.out hpl2] at h
                  simp only [Prod.mk.injEq] at h
                  exact ⟨h.1.symm, h.2.symm⟩
                obtain ⟨rfl, rfl⟩ := hMz
                have hk0 : 0 = kN := TN'.out.r.size
                subst hk0
                clear HMw
                obtain ⟨e0, e1⟩ := TN'.out.box.cells
                dsimp only [Med.none] at e0 e1
                go_wp2_with fail
                refine (keepmed_any 0 0 aN none cN 0 0 0 csN [] true wJ TN'.out.r.mat (CMat.nil _ _) TN'.out.r.len.symm rfl (by decide) (by decide) (by rw [TN'.out.r.pls]; exact ⟨fun _ => ⟨rfl, rfl⟩, fun _ => rfl⟩)).mono ?_
                rintro e wK ⟨rfl, hbK⟩
                have hbF := bthen HB'.out hbK (Nat.le_refl _)
                clear hbK e0 e1 TN' HB'
                go_wp2_with fail
                refine (wakes07_any wK).mono ?_
                rintro e wL ⟨rfl, hbL⟩
                go_wp2
                go_ret
                exact ⟨rfl, bthen hbF hbL (Nat.le_refl _)⟩
    · obtain rfl : k = L := by omega
      clear hkL hk
      have hpk : ps.take k = ps := by rw [HL.out, List.take_length]
      rw [hpk] at Hsh A
      have HGO := Lib.hid (grown_ok (size := size) h1 (by omega) (ps := ps) (by rw [← HL.out]; omega) Hsh.out)
      have HshT : Hid (∀ x ∈ csM, x.d.l.length ≤ 140737488355328) := Lib.hid (A.out.at.short (K := 140737488355328) fun x hx => by
        obtain ⟨y, hy, rfl⟩ := List.mem_map.1 hx
        have := Hsh.out y hy
        unfold cellOf
        split
        · exact Nat.zero_le _
        · show y.l.length ≤ _
          omega)
      clear hpk
      go_wp2_with fail
      clear d0 d1 hlg
      refine (check_any size aM cM k csM true wr A.out.r.mat A.out.r.len.symm (by omega) (by rw [show medOf size csM = _ from A.out.r.of]; exact HGO.out)).mono ?_
      rintro e w3 ⟨rfl, hb⟩
      have HB' := Lib.hid (bthen HB.out hb (Nat.le_refl _))
      have A' := Lib.hid (A.out.ext hb)
      clear hb HB A
      have HB := HB'
      have A := A'
      clear HB' A'
      go_wp2_with fail
      go_loopw [15] (fun i wx => ∃ (t : Nat) (wr : World), wr = wx ∧ t ≤ k ∧ i = .int .i64 (t : Int) ∧ TapeO wr w.heap.size G7 (grown size ps) aM k cM csM ∧ Below w.heap.size w wr) (fun i _ => k - (intOf i).toNat)
      case atStart => exact ⟨0, _, rfl, by omega, rfl, A.out, HB.out⟩
      case round =>
        obtain ⟨t, wr, hwr, ht, rfl, hA, hbr⟩ := hrel
        subst hwr
        clear A HB
        have A := Lib.hid hA
        have HB := Lib.hid hbr
        clear hA hbr
        by_cases htk : t < k
        · have hkl : t < ps.length := by rw [← HL.out]; exact htk
          obtain ⟨lbk, lo, hla, hlr0, hat⟩ := Hm.out.at hkl
          subst hla
          have r0' := hat t hkl
          have hrow := Hm.out.row _ (List.getElem_mem hkl)
          have hcell : (grown size ps).cells[t]? = some (cellOf ps[t].l) := by unfold grown; rw [List.getElem?_map, List.getElem?_eq_getElem hkl]; rfl
          have h256 := Hsh.out _ (List.getElem_mem hkl)
          obtain ⟨q, hq⟩ : ∃ q, q = ps[t] := ⟨_, rfl⟩
          rw [← hq] at r0' hrow hcell h256
          obtain ⟨pa, pc, pl⟩ := q
          dsimp only at r0' hcell h256
          have HSp := Lib.hid (show Src w pa (bvs pl) from hrow.1)
          obtain ⟨pn, hpn⟩ : ∃ n, n = pl.length := ⟨_, rfl⟩
          rw [← hpn] at r0' h256
          have HPn := Lib.hid hpn
          have Hr0 := Lib.hid r0'
          have hrd := Med.read_at HGO.out hcell
          clear hat hrow hq hpn r0' hcell
          obtain ⟨d0, d1⟩ := A.out.box.cells
          dsimp only [grown] at d0 d1
          by_cases hp0 : pn = 0
          · have Hpl : pl = [] := List.eq_nil_of_length_eq_zero (by rw [← HPn.out]; exact hp0)
            have HRd : Hid ((grown size ps).read (t : Int) = ([], 15)) := Lib.hid (hrd.trans (by rw [Hpl]; rfl))
            have hp0' : ((pn : Int) == 0) = true := by simp; omega
            have hp1' : ¬ (0 < (pn : Int)) := by omega
            clear hrd Hpl hp0
            go_wp2_with fail
            clear d0 d1
            refine (read_any size aM cM k csM (t : Int) [] 15 wr A.out.r.mat A.out.r.len.symm (by omega) HshT.out (by rw [show medOf size csM = _ from A.out.r.of]; exact HRd.out)).mono ?_
            rintro e w4 ⟨a7, c7, k7, rfl, _, _, hb⟩
            have HB' := Lib.hid (bthen HB.out hb (Nat.le_refl _))
            have A' := Lib.hid (A.out.ext hb)
            clear hb HB A
            have HB := HB'
            have A := A'
            clear HB' A'
            have r0 := (World.cell?_of_block (w := w) (a := ⟨lbk, lo + t, none⟩) (HB.out.block lbk hlr0)).trans Hr0.out
            go_wp2_with fail
            go_roundw
            case rel => exact ⟨t + 1, _, rfl, by omega, by go_num, A.out, HB.out⟩
            case measure => simp [intOf]; omega
          · have HRd : Hid ((grown size ps).read (t : Int) = (pl, 0)) := Lib.hid (hrd.trans (cellOf_read (by rw [← HPn.out]; exact hp0)))
            have hp0' : ((pn : Int) == 0) = false := by simp; omega
            have hp1' : 0 < (pn : Int) := by omega
            clear hrd hp0
            go_wp2_with fail
            clear d0 d1
            refine (read_any size aM cM k csM (t : Int) pl 0 wr A.out.r.mat A.out.r.len.symm (by omega) HshT.out (by rw [show medOf size csM = _ from A.out.r.of]; exact HRd.out)).mono ?_
            rintro e w4 ⟨a7, c7, k7, rfl, hk7, ho7, hb⟩
            have h7 := ho7.src
            have HB' := Lib.hid (bthen HB.out hb (Nat.le_refl _))
            have A' := Lib.hid (A.out.ext hb)
            clear hb HB A
            have HB := HB'
            have A := A'
            clear HB' A'
            have r0 := (World.cell?_of_block (w := w) (a := ⟨lbk, lo + t, none⟩) (HB.out.block lbk hlr0)).trans Hr0.out
            have HS7 := Lib.hid h7
            have HSq := Lib.hid (HSp.out.ext HB.out)
            have Hk7 := Lib.hid hk7
            clear h7 ho7 hk7
            go_wp2_with fail
            refine (bytes_at a7 c7 pl pa pc pl w4 k7 pn true HS7.out HSq.out Hk7.out HPn.out (by rw [Hk7.out, ← HPn.out]; omega) (by omega) (by simp)).mono ?_
            rintro e w5 ⟨rfl, n9, rfl⟩
            have hb := ext_drewN w4 n9 w4.heap.size
            clear HS7 HSq Hk7 r0
            have HB' := Lib.hid (bthen HB.out hb (Nat.le_refl _))
            have A' := Lib.hid (A.out.ext hb)
            clear hb HB A
            have HB := HB'
            have A := A'
            clear HB' A'
            go_wp2_with fail
            go_roundw
            case rel => exact ⟨t + 1, _, rfl, by omega, by go_num, A.out, HB.out⟩
            case measure => simp [intOf]; omega
        · go_wp2_with fail
          refine (wakes07_any wr).mono ?_
          rintro e w4 ⟨rfl, hb⟩
          go_wp2
          go_ret
          exact ⟨rfl, bthen HB.out hb (Nat.le_refl _)⟩
end Go.Proofs.Ytfbbejdbofkpaaa
