/- robot: in, free, Holds, Mounts, Vols, Drives. -/
import Derived.Test.YtmaagkdehdmhlaaRob
import Derived.Test.YtmaagkdehdmhlaaRegionPhase
namespace Go.Proofs.Ytmaagkdehdmhlaa
open Go.RowKit

variable {B : Nat} {K : Nat → Prop} {w w' : World} {r g : Nat} {S : RS} {V : RobV} {D : Nat → Nat} {s : PS}
theorem RobL.cells (h : RobL B K w r g S V) : w.cell? ⟨r, 0, none⟩ = some (.pointer (some ⟨g, 0, none⟩)) ∧ w.cell? ⟨r, 1, none⟩ = some (.int .i64 S.size) ∧ w.cell? ⟨r, 2, none⟩ = some (.slice V.aM S.vols.length V.cM) ∧ w.cell? ⟨r, 3, none⟩ = some (.slice V.aB S.bays.length V.cB) ∧ w.cell? ⟨r, 4, none⟩ = some (.int .i64 S.asked) ∧ w.cell? ⟨r, 5, none⟩ = some (.int .i64 S.mounts) :=
  ⟨cell_of_row _ _ _ _ _ _ h.obj, cell_of_row _ _ _ _ _ _ h.obj, cell_of_row _ _ _ _ _ _ h.obj, cell_of_row _ _ _ _ _ _ h.obj, cell_of_row _ _ _ _ _ _ h.obj, cell_of_row _ _ _ _ _ _ h.obj⟩
/-- Where the drives lie. -/
theorem RobL.bay (h : RobL B K w r g S V) (hd : 0 < S.bays.length) : ∃ x, V.aB = some ⟨x, 0, none⟩ ∧ B ≤ x ∧ x < w.heap.size ∧ (∀ i (hi : i < S.bays.length), w.cell? ⟨x, i * 3 + 1, none⟩ = some (.int .i64 S.bays[i].vol) ∧ w.cell? ⟨x, i * 3 + 2, none⟩ = some (.int .i64 S.bays[i].asked) ∧ (0 ≤ S.bays[i].vol → ∃ y, V.bs[i]? = some y ∧ y.b = S.bays[i] ∧ w.cell? ⟨x, i * 3, none⟩ = some (.pointer (some ⟨y.d, 0, none⟩)))) ∧ (∀ j, w.frozen? ⟨x, j, none⟩ = false) := by
  have hl : V.bs.length = S.bays.length := by rw [h.bays, List.length_map]
  obtain ⟨x, ha, hB, hx, _, hf⟩ := h.rowB.elem BayV.len (by decide) (i := 0) (by omega)
  refine ⟨x, ha, hB, hx, fun i hi => ?_, hf⟩
  obtain ⟨x', ha', _, _, hat, _⟩ := h.rowB.elem BayV.len (by decide) (i := i) (by omega)
  rw [ha] at ha'
  simp only [Option.some.injEq, Addr.mk.injEq, and_true] at ha'
  subst ha'
  have hb : S.bays[i] = V.bs[i].b := by
    have : S.bays[i]? = (V.bs.map BayV.b)[i]? := by rw [h.bays]
    rw [List.getElem?_map, List.getElem?_eq_getElem hi, List.getElem?_eq_getElem (show i < V.bs.length by omega)] at this
    exact Option.some.inj this
  rw [hb]
  refine ⟨hat 1 _ rfl, hat 2 _ rfl, fun hv => ⟨V.bs[i], List.getElem?_eq_getElem (by omega), rfl, ?_⟩⟩
  have := hat 0 V.bs[i].ptr rfl
  rw [Nat.add_zero] at this
  rw [this]
  unfold BayV.ptr
  rw [if_neg (by omega)]

set_option maxRecDepth 100000 in
set_option maxHeartbeats 2000000 in
theorem rob_in (v : Int) (p : Option Addr) (bB : Nat) (w : World) (h : RobL B K w r g S V) (hd : 1 ≤ S.bays.length ∧ S.bays.length ≤ 4) (hB : V.aB = some ⟨bB, 0, none⟩) (hp : (findV v S.bays).map (fun i => (⟨bB, i * 3, none⟩ : Addr)) = p) :
    Calls Try.prog 41 #[.pointer (some ⟨r, 0, none⟩), .int .i64 v] w fun e w' => e = .returned (.pointer p) ∧ w = w' := by
  obtain ⟨x, hx, _, _, hat, _⟩ := h.bay (by omega)
  rw [hB] at hx
  simp only [Option.some.injEq, Addr.mk.injEq, and_true] at hx
  subst hx
  obtain ⟨r0, r1, r2, r3, r4, r5⟩ := h.cells
  rw [hB] at r3
  obtain ⟨n, hn⟩ : ∃ n, n = S.bays.length := ⟨_, rfl⟩
  rw [← hn] at r3 hd
  have Hn := Lib.hid hn
  have HP := Lib.hid hp
  have HA := Lib.hid hat
  clear h hat hp hn r0 r1 r2 r4 r5 hB
  go_enter Try.func41, Try.ntmps41
  go_wp2_with fail
  go_loopw [5, 11] (fun i5 i wr => ∃ k : Nat, w = wr ∧ k ≤ n ∧ i = .int .i64 (k : Int) ∧ ∀ j (bj : Bay), j < k → S.bays[j]? = some bj → bj.vol ≠ v) (fun _ i _ => n - (intOf i).toNat)
  case atStart => exact ⟨0, rfl, by omega, rfl, fun j _ hj => by omega⟩
  case round =>
    obtain ⟨k, rfl, hk, rfl, h0⟩ := hrel
    have H0 := Lib.hid h0
    clear h0
    by_cases hlt : k < n
    · have hkl : k < S.bays.length := by have := Hn.out; omega
      obtain ⟨c1, _, _⟩ := HA.out k hkl
      by_cases he : S.bays[k].vol = v
      · have hpe : p = some ⟨bB, k * 3, none⟩ := by rw [← HP.out, findV_of hkl H0.out he]; rfl
        have eb : (S.bays[k].vol == v) = true := by simpa using he
        subst hpe
        clear he
        generalize S.bays[k].vol = vk at *
        go_wp2
        go_ret
        exact ⟨rfl, rfl⟩
      · have eb : (S.bays[k].vol == v) = false := by simpa using he
        have Hnx : Hid (∀ j (bj : Bay), j < k + 1 → S.bays[j]? = some bj → bj.vol ≠ v) := Lib.hid fun j bj hj hb => by
          by_cases hjk : j = k
          · subst hjk
            rw [List.getElem?_eq_getElem hkl] at hb
            obtain rfl := Option.some.inj hb
            exact he
          · exact H0.out j bj (by omega) hb
        clear he
        generalize S.bays[k].vol = vk at *
        go_wp2_with fail
        go_roundw
        case rel => exact ⟨k + 1, trivial, by omega, by go_num, Hnx.out⟩
        case measure => simp [intOf]; omega
    · have hpe : p = none := by rw [← HP.out, findV_no fun j bj hj hb => H0.out j bj (by have := Hn.out; omega) hb]; rfl
      subst hpe
      go_wp2
      go_ret
      first | exact ⟨rfl, rfl⟩ | exact ⟨trivial, rfl⟩ | exact ⟨trivial, trivial⟩ | simp

def bay0 : Bay := ⟨0, 0, ⟨0, []⟩, 0⟩
theorem amin_lt {l : List Bay} {n : Nat} (h : 0 < n) : amin l n < n := by have := amin_le l n; omega
set_option maxRecDepth 100000 in
set_option maxHeartbeats 2000000 in
theorem rob_free (i0 bB : Nat) (w : World) (h : RobL B K w r g S V) (hd : 1 ≤ S.bays.length ∧ S.bays.length ≤ 4) (hB : V.aB = some ⟨bB, 0, none⟩) (hp : freeB S.bays = i0) :
    Calls Try.prog 48 #[.pointer (some ⟨r, 0, none⟩)] w fun e w' => e = .returned (.pointer (some ⟨bB, i0 * 3, none⟩)) ∧ Below w.heap.size w w' := by
  obtain ⟨x, hx, _, hlB, hat, _⟩ := h.bay (by omega)
  rw [hB] at hx
  simp only [Option.some.injEq, Addr.mk.injEq, and_true] at hx
  subst hx
  obtain ⟨r0, r1, r2, r3, r4, r5⟩ := h.cells
  rw [hB] at r3
  have hlr := heap_lt h.obj
  obtain ⟨n, hn⟩ : ∃ n, n = S.bays.length := ⟨_, rfl⟩
  rw [← hn] at r3 hd
  have Hn := Lib.hid hn
  have HP := Lib.hid hp
  have HA := Lib.hid hat
  clear h hat hp hn r0 r1 r2 r4 r5 hB
  have hb0 := Below.refl w.heap.size w
  have R3 := Lib.hid r3
  go_enter Try.func48, Try.ntmps48
  go_wp2_with fail
  clear r3
  go_loopw [3, 4, 5, 16] (fun b3 _ _ i wr => ∃ (k m : Nat) (wx : World), wx = wr ∧ Below w.heap.size w wx ∧ k ≤ n ∧ i = .int .i64 (k : Int) ∧ b3 = .pointer (some ⟨bB, m * 3, none⟩) ∧ m = amin S.bays k ∧ m < n ∧ ∀ j (bj : Bay), j < k → S.bays[j]? = some bj → 0 ≤ bj.vol) (fun _ _ _ i _ => n - (intOf i).toNat)
  case atStart => exact ⟨0, 0, _, rfl, hb0, by omega, rfl, by simp, rfl, by omega, fun j _ hj => by omega⟩
  case round =>
    obtain ⟨k, m, wx, hwx, hbx, hk, rfl, rfl, hm, hmn, h0⟩ := hrel
    subst hwx
    have H0 := Lib.hid h0
    have Hm := Lib.hid hm
    have HB := Lib.hid hbx
    have r3 := (World.cell?_of_block (w := w) (hbx.block _ hlr)).trans R3.out
    have hlx : bB < wx.heap.size := Nat.lt_of_lt_of_le hlB hbx.size
    clear h0 hm hb0
    by_cases hlt : k < n
    · have hkl : k < S.bays.length := by have := Hn.out; omega
      have hml : m < S.bays.length := by have := Hn.out; omega
      obtain ⟨c1, c2, _⟩ := HA.out k hkl
      obtain ⟨_, d2, _⟩ := HA.out m hml
      have c1 := (World.cell?_of_block (w := w) (hbx.block _ hlB)).trans c1
      have c2 := (World.cell?_of_block (w := w) (hbx.block _ hlB)).trans c2
      have d2 := (World.cell?_of_block (w := w) (hbx.block _ hlB)).trans d2
      clear hbx
      by_cases he : S.bays[k].vol < 0
      · have hpe : i0 = k := by rw [← HP.out]; unfold freeB; rw [emptyB_of hkl H0.out he]; rfl
        subst hpe
        have eb : decide (S.bays[i0].vol < 0) = true := by simpa using he
        generalize S.bays[i0].vol = vk at *
        clear d2
        go_wp2
        go_ret
        exact ⟨rfl, HB.out⟩
      · have eb : decide (S.bays[k].vol < 0) = false := by simpa using he
        have Hnx : Hid (∀ j (bj : Bay), j < k + 1 → S.bays[j]? = some bj → 0 ≤ bj.vol) := Lib.hid fun j bj hj hb => by
          by_cases hjk : j = k
          · subst hjk
            rw [List.getElem?_eq_getElem hkl] at hb
            obtain rfl := Option.some.inj hb
            omega
          · exact H0.out j bj (by omega) hb
        obtain ⟨qb, hqb⟩ : ∃ b, b = decide (S.bays[k].asked < S.bays[m].asked) := ⟨_, rfl⟩
        have Hq : Hid ((bif qb then k else m) = amin S.bays (k + 1)) := Lib.hid (by
            unfold amin
            rw [← Hm.out, List.getD_eq_getElem?_getD, List.getD_eq_getElem?_getD, List.getElem?_eq_getElem hkl, List.getElem?_eq_getElem hml, hqb]
            by_cases hq : S.bays[k].asked < S.bays[m].asked
            · rw [if_pos (by exact hq)]; simp [hq]
            · rw [if_neg (by exact hq)]; simp [hq])
        have HQ := Lib.hid hqb.symm
        clear he hqb
        generalize S.bays[k].vol = vk at *
        generalize S.bays[k].asked = ak at *
        generalize S.bays[m].asked = am at *
        go_wp2_with fail
        refine wp_region_phase (by kernel_rfl) [] (by kernel_rfl) (by kernel_rfl) ?_
        refine stage_last [Sp.eq (.pointer (some ⟨bB, k * 3, none⟩)), Sp.eq (.pointer (some ⟨bB, k * 3, none⟩)), Sp.eq (.pointer (some ⟨bB, k * 3 + 2, none⟩)), Sp.eq (.int .i64 ak), Sp.eq (.pointer (some ⟨bB, m * 3, none⟩)), Sp.eq (.pointer (some ⟨bB, m * 3, none⟩)), Sp.eq (.pointer (some ⟨bB, m * 3 + 2, none⟩)), Sp.eq (.int .i64 am), Sp.eq (.bool qb), Sp.eq (.bool qb)] ?_ ?_
        · refine stepsG_cons ?_ (stepsG_cons ?_ (stepsG_cons ?_ (stepsG_cons ?_ (stepsG_cons ?_ (stepsG_cons ?_ (stepsG_cons ?_ (stepsG_cons ?_ (stepsG_cons ?_ (stepsG_cons ?_ (stepsG_nil))))))))))
          · intro ρ w' E
            have e5 : ρ (.tmp 5) = .pointer (some ⟨bB, k * 3, none⟩) := E.out 5 rfl
            refine step_plain rfl ?_
            exact op_move (.inl rfl) e5 ⟨Below.refl _ _, rfl⟩
          · intro ρ w' E
            have e33 : ρ (.tmp 33) = .pointer (some ⟨bB, k * 3, none⟩) := E.pre 0 rfl rfl
            refine step_plain rfl ?_
            refine op_val (v := .pointer (some ⟨bB, k * 3, none⟩)) (w' := w') ?_ ⟨Below.refl _ _, rfl⟩
            have hcon := E.con
            clear E
            go_simp
          · intro ρ w' E
            have e34 : ρ (.tmp 34) = .pointer (some ⟨bB, k * 3, none⟩) := E.pre 1 rfl rfl
            refine step_plain rfl ?_
            refine op_val (v := .pointer (some ⟨bB, k * 3 + 2, none⟩)) (w' := w') ?_ ⟨Below.refl _ _, rfl⟩
            have hcon := E.con
            clear E
            go_simp
          · intro ρ w' E
            have e35 : ρ (.tmp 35) = .pointer (some ⟨bB, k * 3 + 2, none⟩) := E.pre 2 rfl rfl
            refine step_plain rfl ?_
            refine op_val (v := .int .i64 ak) (w' := w') ?_ ⟨Below.refl _ _, rfl⟩
            have hk := (World.cell?_of_block (w := wx) (E.below.block _ hlx)).trans c2
            have hcon := E.con
            clear E c2 d2
            go_simp
          · intro ρ w' E
            have e3 : ρ (.tmp 3) = .pointer (some ⟨bB, m * 3, none⟩) := E.out 3 rfl
            refine step_plain rfl ?_
            exact op_move (.inl rfl) e3 ⟨Below.refl _ _, rfl⟩
          · intro ρ w' E
            have e37 : ρ (.tmp 37) = .pointer (some ⟨bB, m * 3, none⟩) := E.pre 4 rfl rfl
            refine step_plain rfl ?_
            refine op_val (v := .pointer (some ⟨bB, m * 3, none⟩)) (w' := w') ?_ ⟨Below.refl _ _, rfl⟩
            have hcon := E.con
            clear E
            go_simp
          · intro ρ w' E
            have e38 : ρ (.tmp 38) = .pointer (some ⟨bB, m * 3, none⟩) := E.pre 5 rfl rfl
            refine step_plain rfl ?_
            refine op_val (v := .pointer (some ⟨bB, m * 3 + 2, none⟩)) (w' := w') ?_ ⟨Below.refl _ _, rfl⟩
            have hcon := E.con
            clear E
            go_simp
          · intro ρ w' E
            have e39 : ρ (.tmp 39) = .pointer (some ⟨bB, m * 3 + 2, none⟩) := E.pre 6 rfl rfl
            refine step_plain rfl ?_
            refine op_val (v := .int .i64 am) (w' := w') ?_ ⟨Below.refl _ _, rfl⟩
            have hk := (World.cell?_of_block (w := wx) (E.below.block _ hlx)).trans d2
            have hcon := E.con
            clear E c2 d2
            go_simp
          · intro ρ w' E
            have e36 : ρ (.tmp 36) = .int .i64 ak := E.pre 3 rfl rfl
            have e40 : ρ (.tmp 40) = .int .i64 am := E.pre 7 rfl rfl
            refine step_plain rfl ?_
            refine op_val (v := .bool qb) (w' := w') ?_ ⟨Below.refl _ _, rfl⟩
            have hq := HQ.out
            have hcon := E.con
            clear E c2 d2
            go_simp
            first | done | exact congrArg Value.bool hq | rw [hq]
          · intro ρ w' E
            have e41 : ρ (.tmp 41) = .bool qb := E.pre 8 rfl rfl
            refine step_plain rfl ?_
            exact op_move (.inr rfl) e41 ⟨Below.refl _ _, rfl⟩
        · intro σF wF GF OF HF
          have s32 : σF 32 = .bool qb := HF 9 rfl rfl
          clear OF HF
          have HBF := Lib.hid (bthen HB.out GF (Nat.le_refl _))
          clear GF c1 c2 d2 r3
          simp only [upd, updL, dstsOf', elemB, List.filterMap_cons, List.filterMap_nil, Nat.reduceAdd, Nat.reduceBEq, Bool.or_false, Bool.false_or, Bool.or_true, Bool.true_or, cond_true, cond_false, Nat.zero_add, s32]
          cases qb with
          | true =>
            go_wp2_with fail
            go_roundw
            case rel => exact ⟨k + 1, k, _, rfl, HBF.out, by omega, by go_num, rfl, Hq.out, hlt, Hnx.out⟩
            case measure => simp [intOf]; omega
          | false =>
            go_wp2_with fail
            go_roundw
            case rel => exact ⟨k + 1, m, _, rfl, HBF.out, by omega, by go_num, rfl, Hq.out, hmn, Hnx.out⟩
            case measure => simp [intOf]; omega
    · have hpe : i0 = m := by
        have hkn : k = S.bays.length := by have := Hn.out; omega
        have h1 := Hm.out
        rw [hkn] at h1
        rw [← HP.out]; unfold freeB; rw [emptyB_no fun j bj hj hb => H0.out j bj (by omega) hb]; exact h1.symm
      subst hpe
      clear hbx
      go_wp2
      go_ret
      exact ⟨rfl, HB.out⟩

theorem rob_holds (i : Int) (v : Int) (w : World) (h : RobL B K w r g S V) (hd : 1 ≤ S.bays.length ∧ S.bays.length ≤ 4) (hv : (if 0 ≤ i ∧ i < S.bays.length then (S.bays.getD i.toNat bay0).vol else -1) = v) :
    Calls Try.prog 37 #[.pointer (some ⟨r, 0, none⟩), .int .i64 i] w fun e w' => e = .returned (.int .i64 v) ∧ w = w' := by
  obtain ⟨bB, hB, _, _, hat, _⟩ := h.bay (by omega)
  obtain ⟨r0, r1, r2, r3, r4, r5⟩ := h.cells
  rw [hB] at r3
  clear r0 r1 r2 r4 r5 h
  by_cases hi : 0 ≤ i ∧ i < S.bays.length
  · rw [if_pos hi] at hv
    obtain ⟨k, rfl⟩ := Int.eq_ofNat_of_zero_le hi.1
    have hkl : k < S.bays.length := by omega
    obtain ⟨c1, h9, h8⟩ := hat k hkl
    clear h9 h8
    have hv2 : S.bays[k].vol = v := by
      rw [← hv, List.getD_eq_getElem?_getD, show (k : Int).toNat = k from rfl, List.getElem?_eq_getElem hkl]
      rfl
    rw [hv2] at c1
    have hkn : ∃ n, S.bays.length = n ∧ k < n ∧ n ≤ 4 := ⟨_, rfl, hkl, hd.2⟩
    obtain ⟨n, hn, hkn, hn4⟩ := hkn
    rw [hn] at r3
    clear hv2 hv hat hi hB hkl hn hd
    go_enter Try.func37, Try.ntmps37
    go_wp2
    go_ret
    exact ⟨rfl, rfl⟩
  · rw [if_neg hi] at hv
    subst hv
    obtain ⟨n, hn, hn4⟩ : ∃ n, S.bays.length = n ∧ n ≤ 4 := ⟨_, rfl, hd.2⟩
    rw [hn] at r3 hi
    clear hat hB hn hd
    go_enter Try.func37, Try.ntmps37
    by_cases h0 : i < 0
    · have e0 : decide (i < 0) = true := by simpa using h0
      clear hi
      go_wp2
      go_ret
      exact ⟨rfl, rfl⟩
    · have e0 : decide (i < 0) = false := by simpa using h0
      have e1 : decide (i ≥ (n : Int)) = true := by simp; omega
      clear hi
      go_wp2
      go_ret
      exact ⟨rfl, rfl⟩
theorem rob_mounts (w : World) (h : RobL B K w r g S V) :
    Calls Try.prog 36 #[.pointer (some ⟨r, 0, none⟩)] w fun e w' => e = .returned (.int .i64 S.mounts) ∧ w = w' := by
  obtain ⟨r0, r1, r2, r3, r4, r5⟩ := h.cells
  clear h
  go_enter Try.func36, Try.ntmps36
  go_wp2
  go_ret
  exact ⟨rfl, rfl⟩
theorem rob_vols (w : World) (h : RobL B K w r g S V) :
    Calls Try.prog 9 #[.pointer (some ⟨r, 0, none⟩)] w fun e w' => e = .returned (.int .i64 S.vols.length) ∧ w = w' := by
  obtain ⟨r0, r1, r2, r3, r4, r5⟩ := h.cells
  clear h
  go_enter Try.func9, Try.ntmps9
  go_wp2
  go_ret
  exact ⟨rfl, rfl⟩
theorem rob_drives (w : World) (h : RobL B K w r g S V) :
    Calls Try.prog 10 #[.pointer (some ⟨r, 0, none⟩)] w fun e w' => e = .returned (.int .i64 S.bays.length) ∧ w = w' := by
  obtain ⟨r0, r1, r2, r3, r4, r5⟩ := h.cells
  clear h
  go_enter Try.func10, Try.ntmps10
  go_wp2
  go_ret
  exact ⟨rfl, rfl⟩
end Go.Proofs.Ytmaagkdehdmhlaa
