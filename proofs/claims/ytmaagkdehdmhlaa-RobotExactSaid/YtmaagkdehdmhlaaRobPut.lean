/- robot: Put. -/
import Derived.Test.YtmaagkdehdmhlaaRobotExactPartT
namespace Go.Proofs.Ytmaagkdehdmhlaa
open Go.RowKit

variable {B : Nat} {K : Nat → Prop} {w w' : World} {r g : Nat} {S : RS} {V : RobV} {D : Nat → Nat} {s : PS}
theorem RS.put_some {v i : Nat} {m : Med} (hf : findV v S.bays = some i) : S.put v m = S.drive i m 0 := by unfold RS.put; rw [hf]; rfl
theorem RS.put_none {v : Nat} {m : Med} (hf : findV v S.bays = none) : S.put v m = { S with vols := S.vols.set v m } := by unfold RS.put; rw [hf]
theorem RS.put_ok (h : S.ok) {v : Nat} {m : Med} (hm : m.ok = true ∧ m.cap = S.size) : (S.put v m).ok := by
  cases hf : findV v S.bays with
  | some i =>
    rw [RS.put_some hf]
    obtain ⟨b, hb, _, _⟩ := findV_some hf
    exact RS.drive_ok h hb ⟨⟨hm.1, 0, rfl, Nat.zero_le _⟩, hm.2⟩
  | none =>
    rw [RS.put_none hf]
    refine ⟨by show 1 ≤ (S.vols.set v m).length ∧ (S.vols.set v m).length ≤ 8; rw [List.length_set]; exact h.vols, h.drives, h.size, fun x hx => ?_, fun b hb => ?_, h.one, h.asked, h.mounts⟩
    · rcases List.mem_or_eq_of_mem_set hx with hx | rfl
      · exact h.good x hx
      · exact hm
    · have := h.bay b hb
      exact ⟨by show -1 ≤ b.vol ∧ b.vol < ((S.vols.set v m).length : Int); rw [List.length_set]; exact this.vol, this.asked, this.good⟩
theorem RS.put_vols (v : Nat) (m : Med) : (S.put v m).vols.length = S.vols.length ∧ (S.put v m).bays.length = S.bays.length ∧ (S.put v m).size = S.size ∧ (S.put v m).asked = S.asked ∧ (S.put v m).mounts = S.mounts ∧ (S.put v m).bays.map Bay.vol = S.bays.map Bay.vol := by
  cases hf : findV v S.bays with
  | some i => rw [RS.put_some hf]; exact ⟨rfl, by show (S.bays.modify i _).length = _; rw [List.length_modify], rfl, rfl, rfl, drive_vols' S i m 0⟩
  | none => rw [RS.put_none hf]; exact ⟨by show (S.vols.set v m).length = _; rw [List.length_set], rfl, rfl, rfl, rfl, rfl⟩
theorem RS.put_tape (h : S.ok) {v u : Nat} {m : Med} (hm : m.ok = true ∧ m.cap = S.size) (hv : v < S.vols.length) (hu : u < S.vols.length) : (S.put v m).tape u = if u = v then m else S.tape u := by
  cases hf : findV v S.bays with
  | some i =>
    rw [RS.put_some hf]
    obtain ⟨b, hb, hbv, _⟩ := findV_some hf
    exact RS.drive_tape h hb hbv ⟨⟨hm.1, 0, rfl, Nat.zero_le _⟩, hm.2⟩ hu
  | none =>
    rw [RS.put_none hf]
    by_cases huv : u = v
    · subst huv
      rw [if_pos rfl]
      refine RS.tape_none (S := { S with vols := S.vols.set u m }) hf ?_
      show (S.vols.set u m)[u]? = _
      rw [List.getElem?_set, if_pos rfl, if_pos hu]
    · rw [if_neg huv]
      cases hq : findV u S.bays with
      | some k =>
        obtain ⟨b, hb, _, _⟩ := findV_some hq
        rw [RS.tape_some hq hb]
        exact RS.tape_some (S := { S with vols := S.vols.set v m }) hq hb
      | none =>
        rw [RS.tape_none hq (List.getElem?_eq_getElem hu)]
        refine RS.tape_none (S := { S with vols := S.vols.set v m }) hq ?_
        show (S.vols.set v m)[u]? = _
        rw [List.getElem?_set, if_neg (fun h => huv h.symm), List.getElem?_eq_getElem hu]

set_option maxRecDepth 100000 in
set_option maxHeartbeats 4000000 in
theorem rob_put_bad (v cap : Int) (aM : Option Addr) (cM n : Nat) (us : List CellV) (w : World) (h : RobP B K w r g S D s) (hs : CMat w aM us) (hn : n = us.length) (hn2 : n ≤ 100000) (hx : ∀ x ∈ us, x.d.l.length ≤ 140737488355328)
    (hbad : v < 0 ∨ (S.vols.length : Int) ≤ v ∨ (medOf cap us).ok = false ∨ cap ≠ S.size) :
    Calls Try.prog 14 #[.pointer (some ⟨r, 0, none⟩), .int .i64 v, .agg #[.int .i64 cap, .slice aM n cM]] w fun e w' => e = .returned (.int .i64 1) ∧ Below w.heap.size w w' := by
  have hz := heap_alloc_new w (.cells #[.int .i64 cap, .slice aM n cM] 45)
  have hb := ext_alloc w (.cells #[.int .i64 cap, .slice aM n cM] 45)
  obtain ⟨⟨V, h1, h2⟩, hok, hp⟩ := h.ext hb
  obtain ⟨r0, r1, r2, r3, r4, r5⟩ := h1.cells
  have hlr := heap_lt h1.obj
  have hlM := heap_lt hz
  have m0 := cell_of_row _ w.heap.size 0 _ _ _ hz
  have m1 := cell_of_row _ w.heap.size 1 _ _ _ hz
  have HS := Lib.hid (hs.ext hb)
  have Hn := Lib.hid hn
  have hv8 := hok.vols.2
  have HB := Lib.hid hb
  obtain ⟨nV, hnV⟩ : ∃ n, n = S.vols.length := ⟨_, rfl⟩
  obtain ⟨sz, hsz⟩ : ∃ n, n = S.size := ⟨_, rfl⟩
  rw [← hnV] at r2 hbad hv8
  rw [← hsz] at r1 hbad
  generalize V.aM = sM at *
  generalize V.cM = cV at *
  clear h h1 h2 hok hp r0 r3 r4 r5 hs hn hb hnV hsz
  go_enter Try.func14, Try.ntmps14
  go_wp2_with fail
  generalize w.alloc (.cells #[.int .i64 cap, .slice aM n cM] 45) = wx at *
  obtain ⟨G, hG⟩ : ∃ G, G = w.heap.size := ⟨_, rfl⟩
  rw [← hG] at hlM m0 m1 hz ⊢
  clear hG hz
  by_cases ha : v < 0
  · have hvf : decide (v < 0) = true := by simpa using ha
    clear hbad
    refine wp_region_phase (by kernel_rfl) [] (by kernel_rfl) (by kernel_rfl) ?_
    refine stage_last [Sp.eq (.int .i64 v), Sp.eq (.bool true), Sp.eq (.bool true), Sp.eq (undef), Sp.eq (undef), Sp.eq (undef), Sp.eq (undef), Sp.eq (undef), Sp.eq (undef), Sp.eq (undef), Sp.eq (.bool true), Sp.eq (.bool true), Sp.eq (undef), Sp.eq (undef), Sp.eq (undef), Sp.eq (.bool true), Sp.eq (.bool true), Sp.eq (undef), Sp.eq (undef), Sp.eq (undef), Sp.eq (undef), Sp.eq (undef), Sp.eq (undef), Sp.eq (undef), Sp.eq (.bool true)] ?_ ?_
    · refine stepsG_cons ?_ (stepsG_cons ?_ (stepsG_cons ?_ (stepsG_cons ?_ (stepsG_cons ?_ (stepsG_cons ?_ (stepsG_cons ?_ (stepsG_cons ?_ (stepsG_cons ?_ (stepsG_cons ?_ (stepsG_cons ?_ (stepsG_cons ?_ (stepsG_cons ?_ (stepsG_cons ?_ (stepsG_cons ?_ (stepsG_cons ?_ (stepsG_cons ?_ (stepsG_cons ?_ (stepsG_cons ?_ (stepsG_cons ?_ (stepsG_cons ?_ (stepsG_cons ?_ (stepsG_cons ?_ (stepsG_cons ?_ (stepsG_cons ?_ (stepsG_nil)))))))))))))))))))))))))
      · intro ρ w' E
        have e1 : ρ (.tmp 1) = .int .i64 v := E.out 1 rfl
        refine step_plain rfl ?_
        exact op_move (.inl rfl) e1 ⟨Below.refl _ _, rfl⟩
      · intro ρ w' E
        have e8 : ρ (.tmp 8) = .int .i64 v := E.pre 0 rfl rfl
        refine step_plain rfl ?_
        refine op_val (v := .bool true) (w' := w') ?_ ⟨Below.refl _ _, rfl⟩
        have hv := hvf
        have hcon := E.con
        clear E r1 r2 m0 m1
        go_simp
      · intro ρ w' E
        have e9 : ρ (.tmp 9) = .bool true := E.pre 1 rfl rfl
        refine step_plain rfl ?_
        exact op_move (.inl rfl) e9 ⟨Below.refl _ _, rfl⟩
      · intro ρ w' E
        exact step_no rfl (E.pre 2 rfl rfl) ⟨Below.refl _ _, rfl⟩
      · intro ρ w' E
        exact step_no rfl (E.pre 2 rfl rfl) ⟨Below.refl _ _, rfl⟩
      · intro ρ w' E
        exact step_no rfl (E.pre 2 rfl rfl) ⟨Below.refl _ _, rfl⟩
      · intro ρ w' E
        exact step_no rfl (E.pre 2 rfl rfl) ⟨Below.refl _ _, rfl⟩
      · intro ρ w' E
        exact step_no rfl (E.pre 2 rfl rfl) ⟨Below.refl _ _, rfl⟩
      · intro ρ w' E
        exact step_no rfl (E.pre 2 rfl rfl) ⟨Below.refl _ _, rfl⟩
      · intro ρ w' E
        exact step_no rfl (E.pre 2 rfl rfl) ⟨Below.refl _ _, rfl⟩
      · intro ρ w' E
        have e10 : ρ (.tmp 10) = .bool true := E.pre 2 rfl rfl
        have e17 : ρ (.tmp 17) = undef := E.pre 9 rfl rfl
        refine step_plain rfl ?_
        exact op_pick (b := true) rfl e10 rfl ⟨Below.refl _ _, (E.con _)⟩
      · intro ρ w' E
        have e18 : ρ (.tmp 18) = .bool true := E.pre 10 rfl rfl
        refine step_plain rfl ?_
        exact op_move (.inl rfl) e18 ⟨Below.refl _ _, rfl⟩
      · intro ρ w' E
        exact step_no rfl (E.pre 11 rfl rfl) ⟨Below.refl _ _, rfl⟩
      · intro ρ w' E
        exact step_no rfl (E.pre 11 rfl rfl) ⟨Below.refl _ _, rfl⟩
      · intro ρ w' E
        exact step_no rfl (E.pre 11 rfl rfl) ⟨Below.refl _ _, rfl⟩
      · intro ρ w' E
        have e19 : ρ (.tmp 19) = .bool true := E.pre 11 rfl rfl
        have e22 : ρ (.tmp 22) = undef := E.pre 14 rfl rfl
        refine step_plain rfl ?_
        exact op_pick (b := true) rfl e19 rfl ⟨Below.refl _ _, (E.con _)⟩
      · intro ρ w' E
        have e23 : ρ (.tmp 23) = .bool true := E.pre 15 rfl rfl
        refine step_plain rfl ?_
        exact op_move (.inl rfl) e23 ⟨Below.refl _ _, rfl⟩
      · intro ρ w' E
        exact step_no rfl (E.pre 16 rfl rfl) ⟨Below.refl _ _, rfl⟩
      · intro ρ w' E
        exact step_no rfl (E.pre 16 rfl rfl) ⟨Below.refl _ _, rfl⟩
      · intro ρ w' E
        exact step_no rfl (E.pre 16 rfl rfl) ⟨Below.refl _ _, rfl⟩
      · intro ρ w' E
        exact step_no rfl (E.pre 16 rfl rfl) ⟨Below.refl _ _, rfl⟩
      · intro ρ w' E
        exact step_no rfl (E.pre 16 rfl rfl) ⟨Below.refl _ _, rfl⟩
      · intro ρ w' E
        exact step_no rfl (E.pre 16 rfl rfl) ⟨Below.refl _ _, rfl⟩
      · intro ρ w' E
        exact step_no rfl (E.pre 16 rfl rfl) ⟨Below.refl _ _, rfl⟩
      · intro ρ w' E
        have e24 : ρ (.tmp 24) = .bool true := E.pre 16 rfl rfl
        have e31 : ρ (.tmp 31) = undef := E.pre 23 rfl rfl
        refine step_plain rfl ?_
        exact op_pick (b := true) rfl e24 rfl ⟨Below.refl _ _, (E.con _)⟩
    · intro σF wF GF OF HF
      have s32 : σF 32 = .bool true := HF 24 rfl rfl
      clear OF HF
      have HBF := Lib.hid (bthen HB.out GF (Nat.le_refl _))
      clear GF m0 m1 r1 r2
      simp only [upd, updL, dstsOf', elemB, List.filterMap_cons, List.filterMap_nil, Nat.reduceAdd, Nat.reduceBEq, Bool.or_false, Bool.false_or, Bool.or_true, Bool.true_or, cond_true, cond_false, Nat.zero_add, s32]
      go_wp2
      go_ret
      exact ⟨rfl, HBF.out⟩
  have hvf : decide (v < 0) = false := by simpa using ha
  by_cases hb2 : (nV : Int) ≤ v
  · have hvg : decide (v ≥ (nV : Int)) = true := by simpa using hb2
    clear hbad
    refine wp_region_phase (by kernel_rfl) [] (by kernel_rfl) (by kernel_rfl) ?_
    refine stage_last [Sp.eq (.int .i64 v), Sp.eq (.bool false), Sp.eq (.bool false), Sp.eq (.int .i64 v), Sp.eq (.pointer (some ⟨r, 0, none⟩)), Sp.eq (.pointer (some ⟨r, 0, none⟩)), Sp.eq (.pointer (some ⟨r, 2, none⟩)), Sp.eq (.slice sM nV cV), Sp.eq (.int .i64 (nV : Int)), Sp.eq (.bool true), Sp.eq (.bool true), Sp.eq (.bool true), Sp.eq (undef), Sp.eq (undef), Sp.eq (undef), Sp.eq (.bool true), Sp.eq (.bool true), Sp.eq (undef), Sp.eq (undef), Sp.eq (undef), Sp.eq (undef), Sp.eq (undef), Sp.eq (undef), Sp.eq (undef), Sp.eq (.bool true)] ?_ ?_
    · refine stepsG_cons ?_ (stepsG_cons ?_ (stepsG_cons ?_ (stepsG_cons ?_ (stepsG_cons ?_ (stepsG_cons ?_ (stepsG_cons ?_ (stepsG_cons ?_ (stepsG_cons ?_ (stepsG_cons ?_ (stepsG_cons ?_ (stepsG_cons ?_ (stepsG_cons ?_ (stepsG_cons ?_ (stepsG_cons ?_ (stepsG_cons ?_ (stepsG_cons ?_ (stepsG_cons ?_ (stepsG_cons ?_ (stepsG_cons ?_ (stepsG_cons ?_ (stepsG_cons ?_ (stepsG_cons ?_ (stepsG_cons ?_ (stepsG_cons ?_ (stepsG_nil)))))))))))))))))))))))))
      · intro ρ w' E
        have e1 : ρ (.tmp 1) = .int .i64 v := E.out 1 rfl
        refine step_plain rfl ?_
        exact op_move (.inl rfl) e1 ⟨Below.refl _ _, rfl⟩
      · intro ρ w' E
        have e8 : ρ (.tmp 8) = .int .i64 v := E.pre 0 rfl rfl
        refine step_plain rfl ?_
        refine op_val (v := .bool false) (w' := w') ?_ ⟨Below.refl _ _, rfl⟩
        have hv := hvf
        have hcon := E.con
        clear E r1 r2 m0 m1
        go_simp
      · intro ρ w' E
        have e9 : ρ (.tmp 9) = .bool false := E.pre 1 rfl rfl
        refine step_plain rfl ?_
        exact op_move (.inl rfl) e9 ⟨Below.refl _ _, rfl⟩
      · intro ρ w' E
        have e1 : ρ (.tmp 1) = .int .i64 v := E.out 1 rfl
        refine step_yes rfl (E.pre 2 rfl rfl) ?_
        exact op_move (.inl rfl) e1 ⟨Below.refl _ _, rfl⟩
      · intro ρ w' E
        have e0 : ρ (.tmp 0) = .pointer (some ⟨r, 0, none⟩) := E.out 0 rfl
        refine step_yes rfl (E.pre 2 rfl rfl) ?_
        exact op_move (.inl rfl) e0 ⟨Below.refl _ _, rfl⟩
      · intro ρ w' E
        have e12 : ρ (.tmp 12) = .pointer (some ⟨r, 0, none⟩) := E.pre 4 rfl rfl
        refine step_yes rfl (E.pre 2 rfl rfl) ?_
        refine op_val (v := .pointer (some ⟨r, 0, none⟩)) (w' := w') ?_ ⟨Below.refl _ _, rfl⟩
        have hcon := E.con
        clear E
        go_simp
      · intro ρ w' E
        have e13 : ρ (.tmp 13) = .pointer (some ⟨r, 0, none⟩) := E.pre 5 rfl rfl
        refine step_yes rfl (E.pre 2 rfl rfl) ?_
        refine op_val (v := .pointer (some ⟨r, 2, none⟩)) (w' := w') ?_ ⟨Below.refl _ _, rfl⟩
        have hcon := E.con
        clear E
        go_simp
      · intro ρ w' E
        have e14 : ρ (.tmp 14) = .pointer (some ⟨r, 2, none⟩) := E.pre 6 rfl rfl
        refine step_yes rfl (E.pre 2 rfl rfl) ?_
        refine op_val (v := .slice sM nV cV) (w' := w') ?_ ⟨Below.refl _ _, rfl⟩
        have hk := (World.cell?_of_block (w := wx) (E.below.block _ hlr)).trans r2
        have hcon := E.con
        clear E r1 r2 m0 m1
        go_simp
      · intro ρ w' E
        have e15 : ρ (.tmp 15) = .slice sM nV cV := E.pre 7 rfl rfl
        refine step_yes rfl (E.pre 2 rfl rfl) ?_
        refine op_val (v := .int .i64 (nV : Int)) (w' := w') ?_ ⟨Below.refl _ _, rfl⟩
        have hcon := E.con
        clear E
        go_simp
      · intro ρ w' E
        have e11 : ρ (.tmp 11) = .int .i64 v := E.pre 3 rfl rfl
        have e16 : ρ (.tmp 16) = .int .i64 (nV : Int) := E.pre 8 rfl rfl
        refine step_yes rfl (E.pre 2 rfl rfl) ?_
        refine op_val (v := .bool true) (w' := w') ?_ ⟨Below.refl _ _, rfl⟩
        have hv := hvg
        have hcon := E.con
        clear E r1 r2 m0 m1
        go_simp
      · intro ρ w' E
        have e10 : ρ (.tmp 10) = .bool false := E.pre 2 rfl rfl
        have e17 : ρ (.tmp 17) = .bool true := E.pre 9 rfl rfl
        refine step_plain rfl ?_
        exact op_pick (b := false) rfl e10 rfl ⟨Below.refl _ _, e17⟩
      · intro ρ w' E
        have e18 : ρ (.tmp 18) = .bool true := E.pre 10 rfl rfl
        refine step_plain rfl ?_
        exact op_move (.inl rfl) e18 ⟨Below.refl _ _, rfl⟩
      · intro ρ w' E
        exact step_no rfl (E.pre 11 rfl rfl) ⟨Below.refl _ _, rfl⟩
      · intro ρ w' E
        exact step_no rfl (E.pre 11 rfl rfl) ⟨Below.refl _ _, rfl⟩
      · intro ρ w' E
        exact step_no rfl (E.pre 11 rfl rfl) ⟨Below.refl _ _, rfl⟩
      · intro ρ w' E
        have e19 : ρ (.tmp 19) = .bool true := E.pre 11 rfl rfl
        have e22 : ρ (.tmp 22) = undef := E.pre 14 rfl rfl
        refine step_plain rfl ?_
        exact op_pick (b := true) rfl e19 rfl ⟨Below.refl _ _, (E.con _)⟩
      · intro ρ w' E
        have e23 : ρ (.tmp 23) = .bool true := E.pre 15 rfl rfl
        refine step_plain rfl ?_
        exact op_move (.inl rfl) e23 ⟨Below.refl _ _, rfl⟩
      · intro ρ w' E
        exact step_no rfl (E.pre 16 rfl rfl) ⟨Below.refl _ _, rfl⟩
      · intro ρ w' E
        exact step_no rfl (E.pre 16 rfl rfl) ⟨Below.refl _ _, rfl⟩
      · intro ρ w' E
        exact step_no rfl (E.pre 16 rfl rfl) ⟨Below.refl _ _, rfl⟩
      · intro ρ w' E
        exact step_no rfl (E.pre 16 rfl rfl) ⟨Below.refl _ _, rfl⟩
      · intro ρ w' E
        exact step_no rfl (E.pre 16 rfl rfl) ⟨Below.refl _ _, rfl⟩
      · intro ρ w' E
        exact step_no rfl (E.pre 16 rfl rfl) ⟨Below.refl _ _, rfl⟩
      · intro ρ w' E
        exact step_no rfl (E.pre 16 rfl rfl) ⟨Below.refl _ _, rfl⟩
      · intro ρ w' E
        have e24 : ρ (.tmp 24) = .bool true := E.pre 16 rfl rfl
        have e31 : ρ (.tmp 31) = undef := E.pre 23 rfl rfl
        refine step_plain rfl ?_
        exact op_pick (b := true) rfl e24 rfl ⟨Below.refl _ _, (E.con _)⟩
    · intro σF wF GF OF HF
      have s32 : σF 32 = .bool true := HF 24 rfl rfl
      clear OF HF
      have HBF := Lib.hid (bthen HB.out GF (Nat.le_refl _))
      clear GF m0 m1 r1 r2
      simp only [upd, updL, dstsOf', elemB, List.filterMap_cons, List.filterMap_nil, Nat.reduceAdd, Nat.reduceBEq, Bool.or_false, Bool.false_or, Bool.or_true, Bool.true_or, cond_true, cond_false, Nat.zero_add, s32]
      go_wp2
      go_ret
      exact ⟨rfl, HBF.out⟩
  have hvg : decide (v ≥ (nV : Int)) = false := by simpa using hb2
  cases hck : (medOf cap us).ok with
  | false =>
    have Hok := Lib.hid hck
    clear hbad hck
    refine wp_region_phase (by kernel_rfl) [] (by kernel_rfl) (by kernel_rfl) ?_
    refine stage_last [Sp.eq (.int .i64 v), Sp.eq (.bool false), Sp.eq (.bool false), Sp.eq (.int .i64 v), Sp.eq (.pointer (some ⟨r, 0, none⟩)), Sp.eq (.pointer (some ⟨r, 0, none⟩)), Sp.eq (.pointer (some ⟨r, 2, none⟩)), Sp.eq (.slice sM nV cV), Sp.eq (.int .i64 (nV : Int)), Sp.eq (.bool false), Sp.eq (.bool false), Sp.eq (.bool false), Sp.eq (.agg #[.int .i64 cap, .slice aM n cM]), Sp.eq (.int .i64 1), Sp.eq (.bool true), Sp.eq (.bool true), Sp.eq (.bool true), Sp.eq (undef), Sp.eq (undef), Sp.eq (undef), Sp.eq (undef), Sp.eq (undef), Sp.eq (undef), Sp.eq (undef), Sp.eq (.bool true)] ?_ ?_
    · refine stepsG_cons ?_ (stepsG_cons ?_ (stepsG_cons ?_ (stepsG_cons ?_ (stepsG_cons ?_ (stepsG_cons ?_ (stepsG_cons ?_ (stepsG_cons ?_ (stepsG_cons ?_ (stepsG_cons ?_ (stepsG_cons ?_ (stepsG_cons ?_ (stepsG_cons ?_ (stepsG_cons ?_ (stepsG_cons ?_ (stepsG_cons ?_ (stepsG_cons ?_ (stepsG_cons ?_ (stepsG_cons ?_ (stepsG_cons ?_ (stepsG_cons ?_ (stepsG_cons ?_ (stepsG_cons ?_ (stepsG_cons ?_ (stepsG_cons ?_ (stepsG_nil)))))))))))))))))))))))))
      · intro ρ w' E
        have e1 : ρ (.tmp 1) = .int .i64 v := E.out 1 rfl
        refine step_plain rfl ?_
        exact op_move (.inl rfl) e1 ⟨Below.refl _ _, rfl⟩
      · intro ρ w' E
        have e8 : ρ (.tmp 8) = .int .i64 v := E.pre 0 rfl rfl
        refine step_plain rfl ?_
        refine op_val (v := .bool false) (w' := w') ?_ ⟨Below.refl _ _, rfl⟩
        have hv := hvf
        have hcon := E.con
        clear E r1 r2 m0 m1
        go_simp
      · intro ρ w' E
        have e9 : ρ (.tmp 9) = .bool false := E.pre 1 rfl rfl
        refine step_plain rfl ?_
        exact op_move (.inl rfl) e9 ⟨Below.refl _ _, rfl⟩
      · intro ρ w' E
        have e1 : ρ (.tmp 1) = .int .i64 v := E.out 1 rfl
        refine step_yes rfl (E.pre 2 rfl rfl) ?_
        exact op_move (.inl rfl) e1 ⟨Below.refl _ _, rfl⟩
      · intro ρ w' E
        have e0 : ρ (.tmp 0) = .pointer (some ⟨r, 0, none⟩) := E.out 0 rfl
        refine step_yes rfl (E.pre 2 rfl rfl) ?_
        exact op_move (.inl rfl) e0 ⟨Below.refl _ _, rfl⟩
      · intro ρ w' E
        have e12 : ρ (.tmp 12) = .pointer (some ⟨r, 0, none⟩) := E.pre 4 rfl rfl
        refine step_yes rfl (E.pre 2 rfl rfl) ?_
        refine op_val (v := .pointer (some ⟨r, 0, none⟩)) (w' := w') ?_ ⟨Below.refl _ _, rfl⟩
        have hcon := E.con
        clear E
        go_simp
      · intro ρ w' E
        have e13 : ρ (.tmp 13) = .pointer (some ⟨r, 0, none⟩) := E.pre 5 rfl rfl
        refine step_yes rfl (E.pre 2 rfl rfl) ?_
        refine op_val (v := .pointer (some ⟨r, 2, none⟩)) (w' := w') ?_ ⟨Below.refl _ _, rfl⟩
        have hcon := E.con
        clear E
        go_simp
      · intro ρ w' E
        have e14 : ρ (.tmp 14) = .pointer (some ⟨r, 2, none⟩) := E.pre 6 rfl rfl
        refine step_yes rfl (E.pre 2 rfl rfl) ?_
        refine op_val (v := .slice sM nV cV) (w' := w') ?_ ⟨Below.refl _ _, rfl⟩
        have hk := (World.cell?_of_block (w := wx) (E.below.block _ hlr)).trans r2
        have hcon := E.con
        clear E r1 r2 m0 m1
        go_simp
      · intro ρ w' E
        have e15 : ρ (.tmp 15) = .slice sM nV cV := E.pre 7 rfl rfl
        refine step_yes rfl (E.pre 2 rfl rfl) ?_
        refine op_val (v := .int .i64 (nV : Int)) (w' := w') ?_ ⟨Below.refl _ _, rfl⟩
        have hcon := E.con
        clear E
        go_simp
      · intro ρ w' E
        have e11 : ρ (.tmp 11) = .int .i64 v := E.pre 3 rfl rfl
        have e16 : ρ (.tmp 16) = .int .i64 (nV : Int) := E.pre 8 rfl rfl
        refine step_yes rfl (E.pre 2 rfl rfl) ?_
        refine op_val (v := .bool false) (w' := w') ?_ ⟨Below.refl _ _, rfl⟩
        have hv := hvg
        have hcon := E.con
        clear E r1 r2 m0 m1
        go_simp
      · intro ρ w' E
        have e10 : ρ (.tmp 10) = .bool false := E.pre 2 rfl rfl
        have e17 : ρ (.tmp 17) = .bool false := E.pre 9 rfl rfl
        refine step_plain rfl ?_
        exact op_pick (b := false) rfl e10 rfl ⟨Below.refl _ _, e17⟩
      · intro ρ w' E
        have e18 : ρ (.tmp 18) = .bool false := E.pre 10 rfl rfl
        refine step_plain rfl ?_
        exact op_move (.inl rfl) e18 ⟨Below.refl _ _, rfl⟩
      · intro ρ w' E
        have e5 : ρ (.tmp 5) = .pointer (some ⟨G, 0, none⟩) := E.out 5 rfl
        refine step_yes rfl (E.pre 11 rfl rfl) ?_
        refine op_val (v := .agg #[.int .i64 cap, .slice aM n cM]) (w' := w') ?_ ⟨Below.refl _ _, rfl⟩
        have k0 := (World.cell?_of_block (w := wx) (E.below.block _ hlM)).trans m0
        have k1 := (World.cell?_of_block (w := wx) (E.below.block _ hlM)).trans m1
        have hcon := E.con
        clear E r1 r2 m0 m1
        go_simp
      · intro ρ w' E
        have e20 : ρ (.tmp 20) = .agg #[.int .i64 cap, .slice aM n cM] := E.pre 12 rfl rfl
        refine step_yes rfl (E.pre 11 rfl rfl) ?_
        refine op_call (f := 40) (args := #[.agg #[.int .i64 cap, .slice aM n cM]]) (w' := w') (by have hcon := E.con; have hfn := E.fn; clear E; go_simp) ?_
        refine (check_any cap aM cM n us false w' (HS.out.ext E.below) Hn.out (by omega) Hok.out).mono ?_
        rintro e w2 ⟨rfl, hb⟩
        exact ⟨_, rfl, hb, rfl⟩
      · intro ρ w' E
        have e21 : ρ (.tmp 21) = .int .i64 1 := E.pre 13 rfl rfl
        refine step_yes rfl (E.pre 11 rfl rfl) ?_
        refine op_val (v := .bool true) (w' := w') ?_ ⟨Below.refl _ _, rfl⟩
        have hcon := E.con
        clear E
        go_simp
      · intro ρ w' E
        have e19 : ρ (.tmp 19) = .bool false := E.pre 11 rfl rfl
        have e22 : ρ (.tmp 22) = .bool true := E.pre 14 rfl rfl
        refine step_plain rfl ?_
        exact op_pick (b := false) rfl e19 rfl ⟨Below.refl _ _, e22⟩
      · intro ρ w' E
        have e23 : ρ (.tmp 23) = .bool true := E.pre 15 rfl rfl
        refine step_plain rfl ?_
        exact op_move (.inl rfl) e23 ⟨Below.refl _ _, rfl⟩
      · intro ρ w' E
        exact step_no rfl (E.pre 16 rfl rfl) ⟨Below.refl _ _, rfl⟩
      · intro ρ w' E
        exact step_no rfl (E.pre 16 rfl rfl) ⟨Below.refl _ _, rfl⟩
      · intro ρ w' E
        exact step_no rfl (E.pre 16 rfl rfl) ⟨Below.refl _ _, rfl⟩
      · intro ρ w' E
        exact step_no rfl (E.pre 16 rfl rfl) ⟨Below.refl _ _, rfl⟩
      · intro ρ w' E
        exact step_no rfl (E.pre 16 rfl rfl) ⟨Below.refl _ _, rfl⟩
      · intro ρ w' E
        exact step_no rfl (E.pre 16 rfl rfl) ⟨Below.refl _ _, rfl⟩
      · intro ρ w' E
        exact step_no rfl (E.pre 16 rfl rfl) ⟨Below.refl _ _, rfl⟩
      · intro ρ w' E
        have e24 : ρ (.tmp 24) = .bool true := E.pre 16 rfl rfl
        have e31 : ρ (.tmp 31) = undef := E.pre 23 rfl rfl
        refine step_plain rfl ?_
        exact op_pick (b := true) rfl e24 rfl ⟨Below.refl _ _, (E.con _)⟩
    · intro σF wF GF OF HF
      have s32 : σF 32 = .bool true := HF 24 rfl rfl
      clear OF HF
      have HBF := Lib.hid (bthen HB.out GF (Nat.le_refl _))
      clear GF m0 m1 r1 r2
      simp only [upd, updL, dstsOf', elemB, List.filterMap_cons, List.filterMap_nil, Nat.reduceAdd, Nat.reduceBEq, Bool.or_false, Bool.false_or, Bool.or_true, Bool.true_or, cond_true, cond_false, Nat.zero_add, s32]
      go_wp2
      go_ret
      exact ⟨rfl, HBF.out⟩
  | true =>
    have Hok := Lib.hid hck
    have hcq : (cap != sz) = true := by
      have : cap ≠ sz := by
        rcases hbad with h | h | h | h
        · exact absurd h ha
        · exact absurd h hb2
        · rw [hck] at h; cases h
        · exact h
      simpa using this
    clear hbad hck
    refine wp_region_phase (by kernel_rfl) [] (by kernel_rfl) (by kernel_rfl) ?_
    refine stage_last [Sp.eq (.int .i64 v), Sp.eq (.bool false), Sp.eq (.bool false), Sp.eq (.int .i64 v), Sp.eq (.pointer (some ⟨r, 0, none⟩)), Sp.eq (.pointer (some ⟨r, 0, none⟩)), Sp.eq (.pointer (some ⟨r, 2, none⟩)), Sp.eq (.slice sM nV cV), Sp.eq (.int .i64 (nV : Int)), Sp.eq (.bool false), Sp.eq (.bool false), Sp.eq (.bool false), Sp.eq (.agg #[.int .i64 cap, .slice aM n cM]), Sp.eq (.int .i64 0), Sp.eq (.bool false), Sp.eq (.bool false), Sp.eq (.bool false), Sp.eq (.pointer (some ⟨G, 0, none⟩)), Sp.eq (.int .i64 cap), Sp.eq (.pointer (some ⟨r, 0, none⟩)), Sp.eq (.pointer (some ⟨r, 0, none⟩)), Sp.eq (.pointer (some ⟨r, 1, none⟩)), Sp.eq (.int .i64 sz), Sp.eq (.bool true), Sp.eq (.bool true)] ?_ ?_
    · refine stepsG_cons ?_ (stepsG_cons ?_ (stepsG_cons ?_ (stepsG_cons ?_ (stepsG_cons ?_ (stepsG_cons ?_ (stepsG_cons ?_ (stepsG_cons ?_ (stepsG_cons ?_ (stepsG_cons ?_ (stepsG_cons ?_ (stepsG_cons ?_ (stepsG_cons ?_ (stepsG_cons ?_ (stepsG_cons ?_ (stepsG_cons ?_ (stepsG_cons ?_ (stepsG_cons ?_ (stepsG_cons ?_ (stepsG_cons ?_ (stepsG_cons ?_ (stepsG_cons ?_ (stepsG_cons ?_ (stepsG_cons ?_ (stepsG_cons ?_ (stepsG_nil)))))))))))))))))))))))))
      · intro ρ w' E
        have e1 : ρ (.tmp 1) = .int .i64 v := E.out 1 rfl
        refine step_plain rfl ?_
        exact op_move (.inl rfl) e1 ⟨Below.refl _ _, rfl⟩
      · intro ρ w' E
        have e8 : ρ (.tmp 8) = .int .i64 v := E.pre 0 rfl rfl
        refine step_plain rfl ?_
        refine op_val (v := .bool false) (w' := w') ?_ ⟨Below.refl _ _, rfl⟩
        have hv := hvf
        have hcon := E.con
        clear E r1 r2 m0 m1
        go_simp
      · intro ρ w' E
        have e9 : ρ (.tmp 9) = .bool false := E.pre 1 rfl rfl
        refine step_plain rfl ?_
        exact op_move (.inl rfl) e9 ⟨Below.refl _ _, rfl⟩
      · intro ρ w' E
        have e1 : ρ (.tmp 1) = .int .i64 v := E.out 1 rfl
        refine step_yes rfl (E.pre 2 rfl rfl) ?_
        exact op_move (.inl rfl) e1 ⟨Below.refl _ _, rfl⟩
      · intro ρ w' E
        have e0 : ρ (.tmp 0) = .pointer (some ⟨r, 0, none⟩) := E.out 0 rfl
        refine step_yes rfl (E.pre 2 rfl rfl) ?_
        exact op_move (.inl rfl) e0 ⟨Below.refl _ _, rfl⟩
      · intro ρ w' E
        have e12 : ρ (.tmp 12) = .pointer (some ⟨r, 0, none⟩) := E.pre 4 rfl rfl
        refine step_yes rfl (E.pre 2 rfl rfl) ?_
        refine op_val (v := .pointer (some ⟨r, 0, none⟩)) (w' := w') ?_ ⟨Below.refl _ _, rfl⟩
        have hcon := E.con
        clear E
        go_simp
      · intro ρ w' E
        have e13 : ρ (.tmp 13) = .pointer (some ⟨r, 0, none⟩) := E.pre 5 rfl rfl
        refine step_yes rfl (E.pre 2 rfl rfl) ?_
        refine op_val (v := .pointer (some ⟨r, 2, none⟩)) (w' := w') ?_ ⟨Below.refl _ _, rfl⟩
        have hcon := E.con
        clear E
        go_simp
      · intro ρ w' E
        have e14 : ρ (.tmp 14) = .pointer (some ⟨r, 2, none⟩) := E.pre 6 rfl rfl
        refine step_yes rfl (E.pre 2 rfl rfl) ?_
        refine op_val (v := .slice sM nV cV) (w' := w') ?_ ⟨Below.refl _ _, rfl⟩
        have hk := (World.cell?_of_block (w := wx) (E.below.block _ hlr)).trans r2
        have hcon := E.con
        clear E r1 r2 m0 m1
        go_simp
      · intro ρ w' E
        have e15 : ρ (.tmp 15) = .slice sM nV cV := E.pre 7 rfl rfl
        refine step_yes rfl (E.pre 2 rfl rfl) ?_
        refine op_val (v := .int .i64 (nV : Int)) (w' := w') ?_ ⟨Below.refl _ _, rfl⟩
        have hcon := E.con
        clear E
        go_simp
      · intro ρ w' E
        have e11 : ρ (.tmp 11) = .int .i64 v := E.pre 3 rfl rfl
        have e16 : ρ (.tmp 16) = .int .i64 (nV : Int) := E.pre 8 rfl rfl
        refine step_yes rfl (E.pre 2 rfl rfl) ?_
        refine op_val (v := .bool false) (w' := w') ?_ ⟨Below.refl _ _, rfl⟩
        have hv := hvg
        have hcon := E.con
        clear E r1 r2 m0 m1
        go_simp
      · intro ρ w' E
        have e10 : ρ (.tmp 10) = .bool false := E.pre 2 rfl rfl
        have e17 : ρ (.tmp 17) = .bool false := E.pre 9 rfl rfl
        refine step_plain rfl ?_
        exact op_pick (b := false) rfl e10 rfl ⟨Below.refl _ _, e17⟩
      · intro ρ w' E
        have e18 : ρ (.tmp 18) = .bool false := E.pre 10 rfl rfl
        refine step_plain rfl ?_
        exact op_move (.inl rfl) e18 ⟨Below.refl _ _, rfl⟩
      · intro ρ w' E
        have e5 : ρ (.tmp 5) = .pointer (some ⟨G, 0, none⟩) := E.out 5 rfl
        refine step_yes rfl (E.pre 11 rfl rfl) ?_
        refine op_val (v := .agg #[.int .i64 cap, .slice aM n cM]) (w' := w') ?_ ⟨Below.refl _ _, rfl⟩
        have k0 := (World.cell?_of_block (w := wx) (E.below.block _ hlM)).trans m0
        have k1 := (World.cell?_of_block (w := wx) (E.below.block _ hlM)).trans m1
        have hcon := E.con
        clear E r1 r2 m0 m1
        go_simp
      · intro ρ w' E
        have e20 : ρ (.tmp 20) = .agg #[.int .i64 cap, .slice aM n cM] := E.pre 12 rfl rfl
        refine step_yes rfl (E.pre 11 rfl rfl) ?_
        refine op_call (f := 40) (args := #[.agg #[.int .i64 cap, .slice aM n cM]]) (w' := w') (by have hcon := E.con; have hfn := E.fn; clear E; go_simp) ?_
        refine (check_any cap aM cM n us true w' (HS.out.ext E.below) Hn.out (by omega) Hok.out).mono ?_
        rintro e w2 ⟨rfl, hb⟩
        exact ⟨_, rfl, hb, rfl⟩
      · intro ρ w' E
        have e21 : ρ (.tmp 21) = .int .i64 0 := E.pre 13 rfl rfl
        refine step_yes rfl (E.pre 11 rfl rfl) ?_
        refine op_val (v := .bool false) (w' := w') ?_ ⟨Below.refl _ _, rfl⟩
        have hcon := E.con
        clear E
        go_simp
      · intro ρ w' E
        have e19 : ρ (.tmp 19) = .bool false := E.pre 11 rfl rfl
        have e22 : ρ (.tmp 22) = .bool false := E.pre 14 rfl rfl
        refine step_plain rfl ?_
        exact op_pick (b := false) rfl e19 rfl ⟨Below.refl _ _, e22⟩
      · intro ρ w' E
        have e23 : ρ (.tmp 23) = .bool false := E.pre 15 rfl rfl
        refine step_plain rfl ?_
        exact op_move (.inl rfl) e23 ⟨Below.refl _ _, rfl⟩
      · intro ρ w' E
        have e5 : ρ (.tmp 5) = .pointer (some ⟨G, 0, none⟩) := E.out 5 rfl
        refine step_yes rfl (E.pre 16 rfl rfl) ?_
        refine op_val (v := .pointer (some ⟨G, 0, none⟩)) (w' := w') ?_ ⟨Below.refl _ _, rfl⟩
        have hcon := E.con
        clear E
        go_simp
      · intro ρ w' E
        have e25 : ρ (.tmp 25) = .pointer (some ⟨G, 0, none⟩) := E.pre 17 rfl rfl
        refine step_yes rfl (E.pre 16 rfl rfl) ?_
        refine op_val (v := .int .i64 cap) (w' := w') ?_ ⟨Below.refl _ _, rfl⟩
        have hk := (World.cell?_of_block (w := wx) (E.below.block _ hlM)).trans m0
        have hcon := E.con
        clear E r1 r2 m0 m1
        go_simp
      · intro ρ w' E
        have e0 : ρ (.tmp 0) = .pointer (some ⟨r, 0, none⟩) := E.out 0 rfl
        refine step_yes rfl (E.pre 16 rfl rfl) ?_
        exact op_move (.inl rfl) e0 ⟨Below.refl _ _, rfl⟩
      · intro ρ w' E
        have e27 : ρ (.tmp 27) = .pointer (some ⟨r, 0, none⟩) := E.pre 19 rfl rfl
        refine step_yes rfl (E.pre 16 rfl rfl) ?_
        refine op_val (v := .pointer (some ⟨r, 0, none⟩)) (w' := w') ?_ ⟨Below.refl _ _, rfl⟩
        have hcon := E.con
        clear E
        go_simp
      · intro ρ w' E
        have e28 : ρ (.tmp 28) = .pointer (some ⟨r, 0, none⟩) := E.pre 20 rfl rfl
        refine step_yes rfl (E.pre 16 rfl rfl) ?_
        refine op_val (v := .pointer (some ⟨r, 1, none⟩)) (w' := w') ?_ ⟨Below.refl _ _, rfl⟩
        have hcon := E.con
        clear E
        go_simp
      · intro ρ w' E
        have e29 : ρ (.tmp 29) = .pointer (some ⟨r, 1, none⟩) := E.pre 21 rfl rfl
        refine step_yes rfl (E.pre 16 rfl rfl) ?_
        refine op_val (v := .int .i64 sz) (w' := w') ?_ ⟨Below.refl _ _, rfl⟩
        have hk := (World.cell?_of_block (w := wx) (E.below.block _ hlr)).trans r1
        have hcon := E.con
        clear E r1 r2 m0 m1
        go_simp
      · intro ρ w' E
        have e26 : ρ (.tmp 26) = .int .i64 cap := E.pre 18 rfl rfl
        have e30 : ρ (.tmp 30) = .int .i64 sz := E.pre 22 rfl rfl
        refine step_yes rfl (E.pre 16 rfl rfl) ?_
        refine op_val (v := .bool true) (w' := w') ?_ ⟨Below.refl _ _, rfl⟩
        have hv := hcq
        have hcon := E.con
        clear E r1 r2 m0 m1
        go_simp
      · intro ρ w' E
        have e24 : ρ (.tmp 24) = .bool false := E.pre 16 rfl rfl
        have e31 : ρ (.tmp 31) = .bool true := E.pre 23 rfl rfl
        refine step_plain rfl ?_
        exact op_pick (b := false) rfl e24 rfl ⟨Below.refl _ _, e31⟩
    · intro σF wF GF OF HF
      have s32 : σF 32 = .bool true := HF 24 rfl rfl
      clear OF HF
      have HBF := Lib.hid (bthen HB.out GF (Nat.le_refl _))
      clear GF m0 m1 r1 r2
      simp only [upd, updL, dstsOf', elemB, List.filterMap_cons, List.filterMap_nil, Nat.reduceAdd, Nat.reduceBEq, Bool.or_false, Bool.false_or, Bool.or_true, Bool.true_or, cond_true, cond_false, Nat.zero_add, s32]
      go_wp2
      go_ret
      exact ⟨rfl, HBF.out⟩
set_option maxRecDepth 100000 in
set_option maxHeartbeats 4000000 in
theorem rob_put (v : Nat) (cap : Int) (aM : Option Addr) (cM n : Nat) (us : List CellV) (w : World) (h : RobP B K w r g S D s) (hu : Up B K w) (hs : CMat w aM us) (hn : n = us.length) (hn2 : n ≤ 100000) (hx : ∀ x ∈ us, x.d.l.length ≤ 140737488355328)
    (hv : v < S.vols.length) (hck : (medOf cap us).ok = true) (hcap : cap = S.size) :
    Calls Try.prog 14 #[.pointer (some ⟨r, 0, none⟩), .int .i64 v, .agg #[.int .i64 cap, .slice aM n cM]] w fun e w' => e = .returned (.int .i64 0) ∧ RobP B K w' r g (S.put v ⟨cap, pls us⟩) D s ∧ Mod (RobF B K) w w' := by
  have hz := heap_alloc_new w (.cells #[.int .i64 cap, .slice aM n cM] 45)
  have hb := ext_alloc w (.cells #[.int .i64 cap, .slice aM n cM] 45)
  have hR1 := h.ext hb
  have HU := Lib.hid (hu.grow hb.size)
  obtain ⟨⟨V, h1, h2⟩, hok, hp⟩ := hR1
  obtain ⟨r0, r1, r2, r3, r4, r5⟩ := h1.cells
  have hlr := heap_lt h1.obj
  have hlM := heap_lt hz
  have m0 := cell_of_row _ w.heap.size 0 _ _ _ hz
  have m1 := cell_of_row _ w.heap.size 1 _ _ _ hz
  have HS := Lib.hid (hs.ext hb)
  have Hn := Lib.hid hn
  have Hx := Lib.hid hx
  have Hok := Lib.hid hck
  have Hv := Lib.hid hv
  have Hcap := Lib.hid hcap
  have hv8 := hok.vols.2
  have HMB : Hid (Mod (RobF B K) w _) := Lib.hid (bmod hb _)
  have HOK := Lib.hid hok
  have H1 := Lib.hid h1
  have H2 := Lib.hid h2
  have HP := Lib.hid hp
  obtain ⟨nV, hnV⟩ : ∃ n, n = S.vols.length := ⟨_, rfl⟩
  obtain ⟨sz, hsz⟩ : ∃ n, n = S.size := ⟨_, rfl⟩
  obtain ⟨sM, hsM⟩ : ∃ n, n = V.aM := ⟨_, rfl⟩
  obtain ⟨cV, hcV⟩ : ∃ n, n = V.cM := ⟨_, rfl⟩
  rw [← hnV] at hv hv8
  rw [← hnV, ← hsM, ← hcV] at r2
  rw [← hsz] at r1 hcap
  have HNV := Lib.hid hnV
  have HSM := Lib.hid hsM
  have HCV := Lib.hid hcV
  have hvf : decide ((v : Int) < 0) = false := by simp
  have hvg : decide ((v : Int) ≥ (nV : Int)) = false := by simp; omega
  have hcq : (cap != sz) = false := by simpa using hcap
  clear h h1 h2 hok hp r0 r3 r4 r5 hs hn hb hnV hsz hx hck hu hcap hsM hcV
  go_enter Try.func14, Try.ntmps14
  go_wp2_with fail
  generalize w.alloc (.cells #[.int .i64 cap, .slice aM n cM] 45) = wx at *
  obtain ⟨G, hG⟩ : ∃ G, G = w.heap.size := ⟨_, rfl⟩
  rw [← hG] at hlM m0 m1 hz ⊢
  clear hG
  obtain ⟨vI, hvI⟩ : ∃ z : Int, z = (v : Int) := ⟨_, rfl⟩
  have HvI := Lib.hid hvI
  rw [← hvI] at hvf hvg ⊢
  clear hvI
  refine wp_region_phase (by kernel_rfl) [] (by kernel_rfl) (by kernel_rfl) ?_
  refine stage_last [Sp.eq (.int .i64 vI), Sp.eq (.bool false), Sp.eq (.bool false), Sp.eq (.int .i64 vI), Sp.eq (.pointer (some ⟨r, 0, none⟩)), Sp.eq (.pointer (some ⟨r, 0, none⟩)), Sp.eq (.pointer (some ⟨r, 2, none⟩)), Sp.eq (.slice sM nV cV), Sp.eq (.int .i64 (nV : Int)), Sp.eq (.bool false), Sp.eq (.bool false), Sp.eq (.bool false), Sp.eq (.agg #[.int .i64 cap, .slice aM n cM]), Sp.eq (.int .i64 0), Sp.eq (.bool false), Sp.eq (.bool false), Sp.eq (.bool false), Sp.eq (.pointer (some ⟨G, 0, none⟩)), Sp.eq (.int .i64 cap), Sp.eq (.pointer (some ⟨r, 0, none⟩)), Sp.eq (.pointer (some ⟨r, 0, none⟩)), Sp.eq (.pointer (some ⟨r, 1, none⟩)), Sp.eq (.int .i64 sz), Sp.eq (.bool false), Sp.eq (.bool false)] ?_ ?_
  · refine stepsG_cons ?_ (stepsG_cons ?_ (stepsG_cons ?_ (stepsG_cons ?_ (stepsG_cons ?_ (stepsG_cons ?_ (stepsG_cons ?_ (stepsG_cons ?_ (stepsG_cons ?_ (stepsG_cons ?_ (stepsG_cons ?_ (stepsG_cons ?_ (stepsG_cons ?_ (stepsG_cons ?_ (stepsG_cons ?_ (stepsG_cons ?_ (stepsG_cons ?_ (stepsG_cons ?_ (stepsG_cons ?_ (stepsG_cons ?_ (stepsG_cons ?_ (stepsG_cons ?_ (stepsG_cons ?_ (stepsG_cons ?_ (stepsG_cons ?_ (stepsG_nil)))))))))))))))))))))))))
    · intro ρ w' E
      have e1 : ρ (.tmp 1) = .int .i64 vI := E.out 1 rfl
      refine step_plain rfl ?_
      exact op_move (.inl rfl) e1 ⟨Below.refl _ _, rfl⟩
    · intro ρ w' E
      have e8 : ρ (.tmp 8) = .int .i64 vI := E.pre 0 rfl rfl
      refine step_plain rfl ?_
      refine op_val (v := .bool false) (w' := w') ?_ ⟨Below.refl _ _, rfl⟩
      have hv := hvf
      have hcon := E.con
      clear E r1 r2 m0 m1
      go_simp
    · intro ρ w' E
      have e9 : ρ (.tmp 9) = .bool false := E.pre 1 rfl rfl
      refine step_plain rfl ?_
      exact op_move (.inl rfl) e9 ⟨Below.refl _ _, rfl⟩
    · intro ρ w' E
      have e1 : ρ (.tmp 1) = .int .i64 vI := E.out 1 rfl
      refine step_yes rfl (E.pre 2 rfl rfl) ?_
      exact op_move (.inl rfl) e1 ⟨Below.refl _ _, rfl⟩
    · intro ρ w' E
      have e0 : ρ (.tmp 0) = .pointer (some ⟨r, 0, none⟩) := E.out 0 rfl
      refine step_yes rfl (E.pre 2 rfl rfl) ?_
      exact op_move (.inl rfl) e0 ⟨Below.refl _ _, rfl⟩
    · intro ρ w' E
      have e12 : ρ (.tmp 12) = .pointer (some ⟨r, 0, none⟩) := E.pre 4 rfl rfl
      refine step_yes rfl (E.pre 2 rfl rfl) ?_
      refine op_val (v := .pointer (some ⟨r, 0, none⟩)) (w' := w') ?_ ⟨Below.refl _ _, rfl⟩
      have hcon := E.con
      clear E
      go_simp
    · intro ρ w' E
      have e13 : ρ (.tmp 13) = .pointer (some ⟨r, 0, none⟩) := E.pre 5 rfl rfl
      refine step_yes rfl (E.pre 2 rfl rfl) ?_
      refine op_val (v := .pointer (some ⟨r, 2, none⟩)) (w' := w') ?_ ⟨Below.refl _ _, rfl⟩
      have hcon := E.con
      clear E
      go_simp
    · intro ρ w' E
      have e14 : ρ (.tmp 14) = .pointer (some ⟨r, 2, none⟩) := E.pre 6 rfl rfl
      refine step_yes rfl (E.pre 2 rfl rfl) ?_
      refine op_val (v := .slice sM nV cV) (w' := w') ?_ ⟨Below.refl _ _, rfl⟩
      have hk := (World.cell?_of_block (w := wx) (E.below.block _ hlr)).trans r2
      have hcon := E.con
      clear E r1 r2 m0 m1
      go_simp
    · intro ρ w' E
      have e15 : ρ (.tmp 15) = .slice sM nV cV := E.pre 7 rfl rfl
      refine step_yes rfl (E.pre 2 rfl rfl) ?_
      refine op_val (v := .int .i64 (nV : Int)) (w' := w') ?_ ⟨Below.refl _ _, rfl⟩
      have hcon := E.con
      clear E
      go_simp
    · intro ρ w' E
      have e11 : ρ (.tmp 11) = .int .i64 vI := E.pre 3 rfl rfl
      have e16 : ρ (.tmp 16) = .int .i64 (nV : Int) := E.pre 8 rfl rfl
      refine step_yes rfl (E.pre 2 rfl rfl) ?_
      refine op_val (v := .bool false) (w' := w') ?_ ⟨Below.refl _ _, rfl⟩
      have hv := hvg
      have hcon := E.con
      clear E r1 r2 m0 m1
      go_simp
    · intro ρ w' E
      have e10 : ρ (.tmp 10) = .bool false := E.pre 2 rfl rfl
      have e17 : ρ (.tmp 17) = .bool false := E.pre 9 rfl rfl
      refine step_plain rfl ?_
      exact op_pick (b := false) rfl e10 rfl ⟨Below.refl _ _, e17⟩
    · intro ρ w' E
      have e18 : ρ (.tmp 18) = .bool false := E.pre 10 rfl rfl
      refine step_plain rfl ?_
      exact op_move (.inl rfl) e18 ⟨Below.refl _ _, rfl⟩
    · intro ρ w' E
      have e5 : ρ (.tmp 5) = .pointer (some ⟨G, 0, none⟩) := E.out 5 rfl
      refine step_yes rfl (E.pre 11 rfl rfl) ?_
      refine op_val (v := .agg #[.int .i64 cap, .slice aM n cM]) (w' := w') ?_ ⟨Below.refl _ _, rfl⟩
      have k0 := (World.cell?_of_block (w := wx) (E.below.block _ hlM)).trans m0
      have k1 := (World.cell?_of_block (w := wx) (E.below.block _ hlM)).trans m1
      have hcon := E.con
      clear E r1 r2 m0 m1
      go_simp
    · intro ρ w' E
      have e20 : ρ (.tmp 20) = .agg #[.int .i64 cap, .slice aM n cM] := E.pre 12 rfl rfl
      refine step_yes rfl (E.pre 11 rfl rfl) ?_
      refine op_call (f := 40) (args := #[.agg #[.int .i64 cap, .slice aM n cM]]) (w' := w') (by have hcon := E.con; have hfn := E.fn; clear E; go_simp) ?_
      refine (check_any cap aM cM n us true w' (HS.out.ext E.below) Hn.out (by omega) Hok.out).mono ?_
      rintro e w2 ⟨rfl, hb⟩
      exact ⟨_, rfl, hb, rfl⟩
    · intro ρ w' E
      have e21 : ρ (.tmp 21) = .int .i64 0 := E.pre 13 rfl rfl
      refine step_yes rfl (E.pre 11 rfl rfl) ?_
      refine op_val (v := .bool false) (w' := w') ?_ ⟨Below.refl _ _, rfl⟩
      have hcon := E.con
      clear E
      go_simp
    · intro ρ w' E
      have e19 : ρ (.tmp 19) = .bool false := E.pre 11 rfl rfl
      have e22 : ρ (.tmp 22) = .bool false := E.pre 14 rfl rfl
      refine step_plain rfl ?_
      exact op_pick (b := false) rfl e19 rfl ⟨Below.refl _ _, e22⟩
    · intro ρ w' E
      have e23 : ρ (.tmp 23) = .bool false := E.pre 15 rfl rfl
      refine step_plain rfl ?_
      exact op_move (.inl rfl) e23 ⟨Below.refl _ _, rfl⟩
    · intro ρ w' E
      have e5 : ρ (.tmp 5) = .pointer (some ⟨G, 0, none⟩) := E.out 5 rfl
      refine step_yes rfl (E.pre 16 rfl rfl) ?_
      refine op_val (v := .pointer (some ⟨G, 0, none⟩)) (w' := w') ?_ ⟨Below.refl _ _, rfl⟩
      have hcon := E.con
      clear E
      go_simp
    · intro ρ w' E
      have e25 : ρ (.tmp 25) = .pointer (some ⟨G, 0, none⟩) := E.pre 17 rfl rfl
      refine step_yes rfl (E.pre 16 rfl rfl) ?_
      refine op_val (v := .int .i64 cap) (w' := w') ?_ ⟨Below.refl _ _, rfl⟩
      have hk := (World.cell?_of_block (w := wx) (E.below.block _ hlM)).trans m0
      have hcon := E.con
      clear E r1 r2 m0 m1
      go_simp
    · intro ρ w' E
      have e0 : ρ (.tmp 0) = .pointer (some ⟨r, 0, none⟩) := E.out 0 rfl
      refine step_yes rfl (E.pre 16 rfl rfl) ?_
      exact op_move (.inl rfl) e0 ⟨Below.refl _ _, rfl⟩
    · intro ρ w' E
      have e27 : ρ (.tmp 27) = .pointer (some ⟨r, 0, none⟩) := E.pre 19 rfl rfl
      refine step_yes rfl (E.pre 16 rfl rfl) ?_
      refine op_val (v := .pointer (some ⟨r, 0, none⟩)) (w' := w') ?_ ⟨Below.refl _ _, rfl⟩
      have hcon := E.con
      clear E
      go_simp
    · intro ρ w' E
      have e28 : ρ (.tmp 28) = .pointer (some ⟨r, 0, none⟩) := E.pre 20 rfl rfl
      refine step_yes rfl (E.pre 16 rfl rfl) ?_
      refine op_val (v := .pointer (some ⟨r, 1, none⟩)) (w' := w') ?_ ⟨Below.refl _ _, rfl⟩
      have hcon := E.con
      clear E
      go_simp
    · intro ρ w' E
      have e29 : ρ (.tmp 29) = .pointer (some ⟨r, 1, none⟩) := E.pre 21 rfl rfl
      refine step_yes rfl (E.pre 16 rfl rfl) ?_
      refine op_val (v := .int .i64 sz) (w' := w') ?_ ⟨Below.refl _ _, rfl⟩
      have hk := (World.cell?_of_block (w := wx) (E.below.block _ hlr)).trans r1
      have hcon := E.con
      clear E r1 r2 m0 m1
      go_simp
    · intro ρ w' E
      have e26 : ρ (.tmp 26) = .int .i64 cap := E.pre 18 rfl rfl
      have e30 : ρ (.tmp 30) = .int .i64 sz := E.pre 22 rfl rfl
      refine step_yes rfl (E.pre 16 rfl rfl) ?_
      refine op_val (v := .bool false) (w' := w') ?_ ⟨Below.refl _ _, rfl⟩
      have hv := hcq
      have hcon := E.con
      clear E r1 r2 m0 m1
      go_simp
    · intro ρ w' E
      have e24 : ρ (.tmp 24) = .bool false := E.pre 16 rfl rfl
      have e31 : ρ (.tmp 31) = .bool false := E.pre 23 rfl rfl
      refine step_plain rfl ?_
      exact op_pick (b := false) rfl e24 rfl ⟨Below.refl _ _, e31⟩
  · intro σF wF GF OF HF
    have s32 : σF 32 = .bool false := HF 24 rfl rfl
    clear OF HF
    have H1F := Lib.hid (H1.out.ext GF)
    have HPF := Lib.hid (HP.out.ext GF)
    have HMF := Lib.hid (HMB.out.trans (bmod GF _))
    have HUF := Lib.hid (HU.out.grow GF.size)
    have HSF := Lib.hid (HS.out.ext GF)
    have hzF := (GF.block _ hlM).trans hz
    clear GF m0 m1 r1 r2 hlM hlr H1 HP HMB HU HS hz hvf hvg hcq
    simp only [upd, updL, dstsOf', elemB, List.filterMap_cons, List.filterMap_nil, Nat.reduceAdd, Nat.reduceBEq, Bool.or_false, Bool.false_or, Bool.or_true, Bool.true_or, cond_true, cond_false, Nat.zero_add, s32]
    go_wp2_with fail
    rw [HvI.out]
    clear HvI s32
    have m0 := cell_of_row _ G 0 _ _ _ hzF
    have m1 := cell_of_row _ G 1 _ _ _ hzF
    have hlM := heap_lt hzF
    obtain ⟨bB, hB, _, hlB, hat, hfz⟩ := H1F.out.bay (by have := HOK.out.drives; omega)
    have HB := Lib.hid hB
    have HS := HSF
    clear hB hzF hfz HSF
    cases hf : findV v S.bays with
    | some i =>
      obtain ⟨b, hbi, hbv, hbl⟩ := findV_some hf
      have hil := (List.getElem?_eq_some_iff.1 hbi).1
      have hbe : S.bays[i] = b := by rw [List.getElem?_eq_getElem hil] at hbi; exact Option.some.inj hbi
      obtain ⟨b1, b2, b0⟩ := hat i hil
      obtain ⟨y, hy, hyb, b0⟩ := b0 (by rw [hbe, hbv]; omega)
      have hyd : y.d = D i := H2.out i y hy (by rw [hyb, hbe, hbv]; omega)
      obtain ⟨d0, hd0⟩ : ∃ d, d = D i := ⟨_, rfl⟩
      rw [hyd, ← hd0] at b0
      have HDx := Lib.hid hd0
      have HBI := Lib.hid hbi
      have HBV : Hid (0 ≤ b.vol) := Lib.hid (by omega)
      have HF := Lib.hid hf
      have HRx : Hid (RobP B K wF r g S D s) := Lib.hid ⟨⟨V, H1F.out, H2.out⟩, HOK.out, HPF.out⟩
      have HUx := HUF
      have HGD : Hid (DGood ⟨cap, pls us⟩ 0 ∧ (⟨cap, pls us⟩ : Med).cap = S.size) := Lib.hid ⟨⟨Hok.out, 0, rfl, Nat.zero_le _⟩, Hcap.out⟩
      clear hat hbi hbv hbl hbe hy hyb hyd hd0 b1 b2 hf
      refine (rob_in (v : Int) (some ⟨bB, i * 3, none⟩) bB wF H1F.out HOK.out.drives HB.out (by rw [HF.out]; rfl)).mono ?_
      rintro e w2 ⟨rfl, rfl⟩
      go_wp2_with fail
      refine wp_region_phase (by kernel_rfl) [7] (by kernel_rfl) (by kernel_rfl) ?_
      refine stage_more [Sp.eq (.pointer (some ⟨bB, i * 3, none⟩)), Sp.eq (.pointer (some ⟨bB, i * 3, none⟩)), Sp.eq (.pointer (some ⟨bB, i * 3, none⟩)), Sp.eq (.pointer (some ⟨d0, 0, none⟩)), Sp.eq (.pointer (some ⟨d0, 0, none⟩)), Sp.eq (.pointer (some ⟨d0, 0, none⟩)), Sp.eq (.agg #[.int .i64 cap, .slice aM n cM])] rfl ?_ ?_
      · refine stepsG_cons ?_ (stepsG_cons ?_ (stepsG_cons ?_ (stepsG_cons ?_ (stepsG_cons ?_ (stepsG_cons ?_ (stepsG_cons ?_ (stepsG_nil)))))))
        · intro ρ w' E
          have e7 : ρ (.tmp 7) = .pointer (some ⟨bB, i * 3, none⟩) := E.out 7 rfl
          refine step_plain rfl ?_
          exact op_move (.inl rfl) e7 ⟨Below.refl _ _, rfl⟩
        · intro ρ w' E
          have e38 : ρ (.tmp 38) = .pointer (some ⟨bB, i * 3, none⟩) := E.pre 0 rfl rfl
          refine step_plain rfl ?_
          refine op_val (v := .pointer (some ⟨bB, i * 3, none⟩)) (w' := w') ?_ ⟨Below.refl _ _, rfl⟩
          have hcon := E.con
          clear E
          go_simp
        · intro ρ w' E
          have e39 : ρ (.tmp 39) = .pointer (some ⟨bB, i * 3, none⟩) := E.pre 1 rfl rfl
          refine step_plain rfl ?_
          refine op_val (v := .pointer (some ⟨bB, i * 3, none⟩)) (w' := w') ?_ ⟨Below.refl _ _, rfl⟩
          have hcon := E.con
          clear E
          go_simp
        · intro ρ w' E
          have e40 : ρ (.tmp 40) = .pointer (some ⟨bB, i * 3, none⟩) := E.pre 2 rfl rfl
          refine step_plain rfl ?_
          refine op_val (v := .pointer (some ⟨d0, 0, none⟩)) (w' := w') ?_ ⟨Below.refl _ _, rfl⟩
          have hk := (World.cell?_of_block (w := wF) (E.below.block _ hlB)).trans b0
          have hcon := E.con
          clear E b0 m0 m1
          go_simp
        · intro ρ w' E
          have e41 : ρ (.tmp 41) = .pointer (some ⟨d0, 0, none⟩) := E.pre 3 rfl rfl
          refine step_plain rfl ?_
          refine op_val (v := .pointer (some ⟨d0, 0, none⟩)) (w' := w') ?_ ⟨Below.refl _ _, rfl⟩
          have hcon := E.con
          clear E
          go_simp
        · intro ρ w' E
          have e42 : ρ (.tmp 42) = .pointer (some ⟨d0, 0, none⟩) := E.pre 4 rfl rfl
          refine step_plain rfl ?_
          refine op_val (v := .pointer (some ⟨d0, 0, none⟩)) (w' := w') ?_ ⟨Below.refl _ _, rfl⟩
          have hcon := E.con
          clear E
          go_simp
        · intro ρ w' E
          have e5 : ρ (.tmp 5) = .pointer (some ⟨G, 0, none⟩) := E.out 5 rfl
          refine step_plain rfl ?_
          refine op_val (v := .agg #[.int .i64 cap, .slice aM n cM]) (w' := w') ?_ ⟨Below.refl _ _, rfl⟩
          have k0 := (World.cell?_of_block (w := wF) (E.below.block _ hlM)).trans m0
          have k1 := (World.cell?_of_block (w := wF) (E.below.block _ hlM)).trans m1
          have hcon := E.con
          clear E b0 m0 m1
          go_simp
      · intro σ1 ρ1 w1c E1 O1 H1
        have e43 : ρ1 (.tmp 43) = .pointer (some ⟨d0, 0, none⟩) := E1.pre 5 rfl rfl
        have e44 : ρ1 (.tmp 44) = .agg #[.int .i64 cap, .slice aM n cM] := E1.pre 6 rfl rfl
        refine step_plain rfl ?_
        refine op_call (f := 42) (args := #[.pointer (some ⟨d0, 0, none⟩), .agg #[.int .i64 cap, .slice aM n cM]]) (w' := w1c) (by have hcon := E1.con; have hfn := E1.fn; clear E1 b0 m0 m1; go_simp) ?_
        refine (RobP.drive (HRx.out.ext E1.below) (HUx.out.grow E1.below.size) HBI.out HBV.out HDx.out (R := fun e _ => e = .returned (.tuple #[])) (M' := ⟨cap, pls us⟩) (at' := 0) (s' := s) (fun K' hd hu => ?_) HGD.out).mono ?_
        · obtain ⟨⟨a', k', c', cs', hda⟩, hpw⟩ := hd
          refine (drv_load _ _ _ cap aM cM n us w1c hda.obj hda.low hda.kd hu (HS.out.ext E1.below) Hn.out (by omega) Hx.out).mono ?_
          rintro e w2 ⟨rfl, a2, c2, cs2, h2, hm2⟩
          exact ⟨rfl, ⟨⟨a2, n, c2, cs2, h2⟩, hpw.tf hm2⟩, TF.vf hm2⟩
        rintro e w3 ⟨rfl, hR3, hm3⟩
        have HR3 := Lib.hid hR3
        have HM3 := Lib.hid ((bmod E1.below (RobF B K)).trans hm3)
        clear hR3 hm3
        refine ⟨_, rfl, ?_⟩
        refine stage_last [] ?_ ?_
        · refine stepsG_nil
        · intro σF wF GF OF HF
          clear OF HF
          have HRF := Lib.hid (HR3.out.ext GF)
          have HMZ := Lib.hid ((HMF.out.trans HM3.out).trans (bmod GF _))
          clear GF b0 m0 m1
          simp only [upd, updL, dstsOf', elemB, List.filterMap_cons, List.filterMap_nil, Nat.reduceAdd, Nat.reduceBEq, Bool.or_false, Bool.false_or, Bool.or_true, Bool.true_or, cond_true, cond_false, Nat.zero_add]
          go_wp2
          go_ret
          exact ⟨rfl, by rw [RS.put_some HF.out]; exact HRF.out, HMZ.out⟩
    | none =>
      have HF := Lib.hid hf
      obtain ⟨nM, hnM, _, hlNM, h98, h99⟩ := H1F.out.rowM.elem TapeV.len (by decide) (i := v) (by rw [H1F.out.tlen]; exact Hv.out)
      have r2 : wF.cell? ⟨r, 2, none⟩ = some (.slice (some ⟨nM, 0, none⟩) nV cV) := by
        have := H1F.out.cells.2.2.1
        rw [hnM, ← HNV.out, ← HCV.out] at this
        exact this
      have hlr := heap_lt H1F.out.obj
      have HnM := Lib.hid hnM
      have Hjt : Hid (v < V.ts.length) := Lib.hid (by rw [H1F.out.tlen]; exact Hv.out)
      clear hat hf h98 h99 hnM
      refine (rob_in (v : Int) none bB wF H1F.out HOK.out.drives HB.out (by rw [HF.out]; rfl)).mono ?_
      rintro e w2 ⟨rfl, rfl⟩
      go_wp2_with fail
      refine wp_region_last2 _ _ (by simp only [lastSplit, Option.map_some]; rfl) (by kernel_rfl) [Sp.eq (.pointer (some ⟨r, 0, none⟩)), Sp.eq (.pointer (some ⟨r, 0, none⟩)), Sp.eq (.pointer (some ⟨r, 2, none⟩)), Sp.eq (.slice (some ⟨nM, 0, none⟩) nV cV), Sp.eq (.int .i64 (v : Int)), Sp.eq (.agg #[.int .i64 cap, .slice aM n cM]), ⟨AnsV wF.heap.size ⟨cap, pls us⟩, AnsV.st⟩, Sp.eq (.pointer (some ⟨nM, v * 2, none⟩))] (by kernel_rfl) (by kernel_rfl) ?_ ?_
      · refine stepsOk_cons ?_ (stepsOk_cons ?_ (stepsOk_cons ?_ (stepsOk_cons ?_ (stepsOk_cons ?_ (stepsOk_cons ?_ (stepsOk_cons ?_ (stepsOk_cons ?_ (stepsOk_nil))))))))
        · intro ρ w' E
          have e0 : ρ (.tmp 0) = .pointer (some ⟨r, 0, none⟩) := E.out 0 rfl
          refine step_plain rfl ?_
          exact op_move (.inl rfl) e0 ⟨Below.refl _ _, rfl⟩
        · intro ρ w' E
          have e46 : ρ (.tmp 46) = .pointer (some ⟨r, 0, none⟩) := E.pre 0 rfl
          refine step_plain rfl ?_
          refine op_val (v := .pointer (some ⟨r, 0, none⟩)) (w' := w') ?_ ⟨Below.refl _ _, rfl⟩
          have hcon := E.con
          clear E
          go_simp
        · intro ρ w' E
          have e47 : ρ (.tmp 47) = .pointer (some ⟨r, 0, none⟩) := E.pre 1 rfl
          refine step_plain rfl ?_
          refine op_val (v := .pointer (some ⟨r, 2, none⟩)) (w' := w') ?_ ⟨Below.refl _ _, rfl⟩
          have hcon := E.con
          clear E
          go_simp
        · intro ρ w' E
          have e48 : ρ (.tmp 48) = .pointer (some ⟨r, 2, none⟩) := E.pre 2 rfl
          refine step_plain rfl ?_
          refine op_val (v := .slice (some ⟨nM, 0, none⟩) nV cV) (w' := w') ?_ ⟨Below.refl _ _, rfl⟩
          have hk := (World.cell?_of_block (w := wF) (E.below.block _ hlr)).trans r2
          have hcon := E.con
          clear E r2 m0 m1
          go_simp
        · intro ρ w' E
          have e1 : ρ (.tmp 1) = .int .i64 (v : Int) := E.out 1 rfl
          refine step_plain rfl ?_
          exact op_move (.inl rfl) e1 ⟨Below.refl _ _, rfl⟩
        · intro ρ w' E
          have e5 : ρ (.tmp 5) = .pointer (some ⟨G, 0, none⟩) := E.out 5 rfl
          refine step_plain rfl ?_
          refine op_val (v := .agg #[.int .i64 cap, .slice aM n cM]) (w' := w') ?_ ⟨Below.refl _ _, rfl⟩
          have k0 := (World.cell?_of_block (w := wF) (E.below.block _ hlM)).trans m0
          have k1 := (World.cell?_of_block (w := wF) (E.below.block _ hlM)).trans m1
          have hcon := E.con
          clear E r2 m0 m1
          go_simp
        · intro ρ w' E
          have e51 : ρ (.tmp 51) = .agg #[.int .i64 cap, .slice aM n cM] := E.pre 5 rfl
          refine step_plain rfl ?_
          refine op_call (f := 43) (args := #[.agg #[.int .i64 cap, .slice aM n cM]]) (w' := w') (by have hcon := E.con; have hfn := E.fn; clear E; go_simp) ?_
          refine (med_twin cap aM cM n us w' (HS.out.ext E.below) Hn.out (by omega) Hx.out).mono ?_
          rintro e w2 ⟨aX, cX, csX, rfl, hlX, hoX, hpX, hb⟩
          exact ⟨_, rfl, hb, aX, n, cX, csX, rfl, ⟨hoX.mono E.below.size, hlX, hpX⟩, by have := hoX.row.len.1; rw [hlX] at this; exact this⟩
        · intro ρ w' E
          have e49 : ρ (.tmp 49) = .slice (some ⟨nM, 0, none⟩) nV cV := E.pre 3 rfl
          have e50 : ρ (.tmp 50) = .int .i64 (v : Int) := E.pre 4 rfl
          refine step_plain rfl ?_
          refine op_val (v := .pointer (some ⟨nM, v * 2, none⟩)) (w' := w') ?_ ⟨Below.refl _ _, rfl⟩
          have hcon := E.con
          clear E
          go_simp
      · intro σ w5 hb5 hall
        obtain ⟨_, _, _, _, _, _, ⟨aX, kX, cX, csX, h52, hMX, hcX⟩, h53, _⟩ := hall
        have h52 : σ 52 = .agg #[.int .i64 cap, .slice aX kX cX] := h52
        have h53 : σ 53 = .pointer (some ⟨nM, v * 2, none⟩) := h53
        simp only [upd, updL, dstsOf', elemB, List.filterMap_cons, List.filterMap_nil, Nat.reduceAdd, Nat.reduceBEq, Bool.or_false, Bool.false_or, Bool.or_true, Bool.true_or, cond_true, cond_false, Nat.zero_add, h52, h53]
        have hown := H1F.out.rowM.ext hb5
        rw [HnM.out, ← HNV.out] at hown
        have HMX0 := Lib.hid hMX
        have HB5 := Lib.hid hb5
        have Hcx := Lib.hid hcX
        clear hMX hb5 hcX r2 m0 m1
        go_wp2_with (refine wpList_store_elem rfl rfl 45 (.tmp 53) (.tmp 52) rfl TapeV.cells 2 TapeV.len (by decide) hown v ⟨⟨cap, pls us⟩, aX, kX, cX, csX⟩ Hjt.out rfl rfl (by kernel_rfl) (TapeV.one _) ?_; intro w6 ho6 hbe6 hot6 hm6 hz6)
        have hMX6 : TapeIn B (fun x => K x ∧ (if x < wF.heap.size then V.ow x else 0) = 0) w6 ⟨⟨cap, pls us⟩, aX, kX, cX, csX⟩ := by
          have h0 : TapeIn B (fun x => wF.heap.size ≤ x ∧ x < w5.heap.size) w5 ⟨⟨cap, pls us⟩, aX, kX, cX, csX⟩ := ⟨HMX0.out.mono (Nat.le_trans H1F.out.low (Nat.le_of_lt hlr)), Hcx.out, HMX0.out.newRow⟩
          exact h0.far (hm6 (fun x T => x = nM ∧ T = 45) ⟨rfl, rfl⟩) (fun x T _ hf hT => by rw [hf.2] at hT; exact absurd hT (by decide)) fun x _ _ hx => ⟨HUF.out.up x hx.1, if_neg (by omega)⟩
        rw [HNV.out] at ho6
        obtain ⟨hset, hmset⟩ := H1F.out.setVol (y := ⟨⟨cap, pls us⟩, aX, kX, cX, csX⟩) (ow' := fun x => if x < wF.heap.size then V.ow x else 0) HnM.out Hv.out ho6 ((bmod HB5.out _).trans (hm6 (fun x T => x = nM ∧ T = 45) ⟨rfl, rfl⟩)) (fun x hx _ => if_pos hx) hMX6 HOK.out.drives.2
        have HST := Lib.hid hset
        have HPZ := Lib.hid (RobG.pow hmset HPF.out)
        have HMZ := Lib.hid (HMF.out.trans (RobG.f hmset))
        have hok' := RS.put_ok HOK.out (v := v) (m := ⟨cap, pls us⟩) ⟨Hok.out, Hcap.out⟩
        have HOK' := Lib.hid hok'
        clear hset hmset hMX6 ho6 hbe6 hot6 hm6 hz6 h52 h53 hown hok'
        go_wp2
        go_ret
        have HO := HOK'.out
        rw [RS.put_none HF.out] at HO
        exact ⟨rfl, by rw [RS.put_none HF.out]; exact ⟨⟨_, HST.out, H2.out⟩, HO, HPZ.out⟩, HMZ.out⟩
end Go.Proofs.Ytmaagkdehdmhlaa
