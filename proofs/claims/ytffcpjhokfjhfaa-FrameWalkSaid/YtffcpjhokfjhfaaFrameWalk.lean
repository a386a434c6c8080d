/- The law FrameWalk, walked. -/
import Derived.Test.YtffcpjhokfjhfaaFrameWakes
import Derived.Test.YtffcpjhokfjhfaaFramePlain2
namespace Go.Proofs.Ytffcpjhokfjhfaa
open Go.RowKit

theorem RMat.cells {w : World} {b o : Nat} {rs : List RecV} (h : RMat w (some ⟨b, o, none⟩) rs) {k : Nat} (hk : k < rs.length) {r : RecV} (hr : rs[k] = r) :
    w.cell? ⟨b, o + k * 3, none⟩ = some (.int .i64 r.kind) ∧ w.cell? ⟨b, o + k * 3 + 1, none⟩ = some (.int .i64 r.seq) ∧ w.cell? ⟨b, o + k * 3 + 2, none⟩ = some (.slice r.d.a r.d.l.length r.d.c) := by
  subst hr
  obtain ⟨b', o', hbo, _, hat⟩ := h.at hk
  simp only [Option.some.injEq, Addr.mk.injEq, and_true] at hbo
  obtain ⟨rfl, rfl⟩ := hbo
  exact hat k hk

/-- Joined frames are read at each beginning. -/
theorem readF_join {l : List Rec} (h : ∀ r ∈ l, r.e = 0) {k : Nat} (hk : k < l.length) : readF (joinB l) (((joinB (l.take k)).length : Nat) : Int) = (l[k], (((joinB (l.take k)).length + 13 + l[k].d.length : Nat) : Int), 0) := by
  have h3 : joinB l = joinB (l.take k) ++ (frameOf l[k] ++ joinB (l.drop (k + 1))) := by
    rw [← joinB_cons, ← joinB_append, ← List.drop_eq_getElem_cons hk, List.take_append_drop]
  rw [h3]
  exact readF_frame _ _ _ (h _ (List.getElem_mem hk))

set_option maxRecDepth 100000 in
set_option maxHeartbeats 4000000 in
theorem frameWalk_walk (w : World) (a : Option Addr) (c : Nat) (rs : List RecV) (ha : RMat w a rs) (hl : rs.length ≤ 9223372036854775807) (hlc : rs.length ≤ c) :
    Calls Try.prog 6 #[.slice a rs.length c] w fun e w' => e = .returned (.bool true) ∧ Below w.heap.size w w' := by
  clear hlc
  cases hh : heavy06 rs with
  | true =>
    have HH := Lib.hid (heavy06_at a c rs.length rs true w ha rfl hl hh)
    clear hh
    go_enter Try.func6, Try.ntmps6
    go_wp2_with fail
    refine HH.out.mono ?_
    rintro e w1 ⟨rfl, rfl⟩
    go_wp2
    go_ret
    exact ⟨rfl, Below.refl _ _⟩
  | false =>
    obtain ⟨h80, h400⟩ := heavy06_no hh
    have HH := Lib.hid (heavy06_at a c rs.length rs false w ha rfl hl hh)
    clear hh h400
    obtain ⟨E, hE⟩ : ∃ E, joinE (recs rs) = E := ⟨_, rfl⟩
    obtain ⟨l, hB⟩ : ∃ l, joinR (recs rs) = l := ⟨_, rfl⟩
    have HJ := Lib.hid (join_at a c rs.length rs E l l.length w ha rfl (by omega) hE hB rfl)
    have hcase : (E = 0 ∧ l = joinB (recs rs) ∧ ∀ r ∈ recs rs, r.e = 0) ∨ (E ≠ 0 ∧ l.length = 0) := by
      by_cases h0 : E = 0
      · left
        rw [joinR, if_pos (by rw [hE]; exact h0)] at hB
        exact ⟨h0, hB.symm, joinE_ok.1 (by rw [hE]; exact h0)⟩
      · right
        rw [joinR, if_neg (by rw [hE]; exact h0)] at hB
        exact ⟨h0, by rw [← hB]; rfl⟩
    clear hE hB
    rcases hcase with ⟨rfl, hlB, hall⟩ | ⟨hE0, hl0⟩
    · have hll := joinB_le _ hall
      rw [← hlB] at hll
      have hll2 : l.length ≤ 8013 * 80 := by simp at hll; omega
      have HlB := Lib.hid hlB
      have Hall := Lib.hid hall
      clear hlB hall hll
      go_enter Try.func6, Try.ntmps6
      go_wp2_with fail
      refine HH.out.mono ?_
      rintro e w1 ⟨rfl, rfl⟩
      go_wp2_with fail
      refine HJ.out.mono ?_
      rintro e w1 ⟨a1, c1, rfl, ho1, hb1⟩
      have hs1 := ho1.src
      have hl1 := ho1.len.1
      have ha1 := ha.ext hb1
      clear ho1 HH HJ ha
      go_wp2_with fail
      go_loopw [5, 6] (fun v i wr => ∃ k : Nat, k ≤ rs.length ∧ i = .int .i64 k ∧ v = .int .i64 (((joinB ((recs rs).take k)).length : Nat) : Int) ∧ Below w1.heap.size w1 wr) (fun _ i _ => rs.length - (intOf i).toNat)
      case atStart => exact ⟨0, by omega, rfl, rfl, Below.refl _ _⟩
      case round =>
        rename_i wr
        obtain ⟨k, hk, rfl, rfl, hbr⟩ := hrel
        have hAl : (joinB ((recs rs).take k)).length ≤ l.length := by
          rw [HlB.out]
          have : joinB (recs rs) = joinB ((recs rs).take k) ++ joinB ((recs rs).drop k) := by rw [← joinB_append, List.take_append_drop]
          rw [this, List.length_append]; omega
        by_cases hlt : k < rs.length
        · have har0 := ha1.ext hbr
          have hrd := readF_join Hall.out (k := k) (by simpa using hlt)
          have hsucc := joinB_take_succ (recs rs) k (by simpa using hlt)
          have hdl : (recs rs)[k]'(by simpa using hlt) = rs[k].pl := by simp [recs]
          rw [hdl] at hrd hsucc
          rw [← HlB.out] at hrd
          obtain ⟨b1, o1, rfl, hltb, hat⟩ := har0.at hlt
          have hd8 : rs[k].d.l.length ≤ 8000 := by
            have := Hall.out _ (List.getElem_mem (l := recs rs) (n := k) (by simpa using hlt))
            rw [hdl] at this
            exact (recE_ok.1 this).2.2.2.2
          obtain ⟨r, hr⟩ : ∃ r, rs[k] = r := ⟨_, rfl⟩
          rw [hr] at hrd hsucc hd8
          have hrok0 := har0.row rs[k] (List.getElem_mem hlt)
          rw [hr] at hrok0
          have Hr := Lib.hid hr
          obtain ⟨p, hp⟩ : ∃ p, (joinB ((recs rs).take k)).length = p := ⟨_, rfl⟩
          rw [hp] at hrd hsucc hAl ⊢
          have Hsucc := Lib.hid (show (joinB ((recs rs).take (k + 1))).length = p + 13 + r.d.l.length from hsucc)
          have HRd := Lib.hid (frread_at a1 l.length c1 l (p : Int) r.pl ((p + 13 + r.d.l.length : Nat) : Int) 0 wr (hs1.ext hbr) rfl hl1 (by omega) hrd)
          clear hat hr hrd hsucc hdl hp
          go_wp2_with fail
          refine HRd.out.mono ?_
          rintro e w2 ⟨ad, cd, rfl, hod, hb2⟩
          obtain ⟨s, hs⟩ : ∃ s : RecV, s = ⟨r.kind, r.seq, ⟨ad, cd, r.d.l⟩⟩ := ⟨_, rfl⟩
          have hput := RecAt.put w2 #[.int .i64 0, .int .i64 0, .slice none 0 0] rfl s
          have hbp := below_putr w2 #[.int .i64 0, .int .i64 0, .slice none 0 0] s
          have hsok0 : s.d.ok w2 := by rw [hs]; exact ⟨hod.src, by show r.d.l.length ≤ _; omega⟩
          have Hpl : Hid (s.pl = r.pl) := Lib.hid (by rw [hs]; rfl)
          have e1 : r.pl.kind = s.kind := by rw [hs]; rfl
          have e2 : r.pl.seq = s.seq := by rw [hs]; rfl
          have e3 : ad = s.d.a := by rw [hs]
          have e4 : cd = s.d.c := by rw [hs]
          have e5 : r.pl.d.length = s.d.l.length := by rw [hs]; rfl
          rw [e1, e2, e3, e4, e5]
          have hsok := hsok0.ext hbp
          have har := (har0.ext hb2).ext hbp
          have hrok := (hrok0.ext hb2).ext hbp
          have hbw := bthen (bthen hbr hb2 (Nat.le_refl _)) hbp (Nat.le_refl _)
          clear hs e1 e2 e3 e4 e5 hod hb2 hbp hsok0 har0 hrok0 HRd
          go_wp2_with (refine wpList_store_row rfl rfl 29 (.tmp 7) (.tmp 40) rfl w2.heap.size rfl 29 #[.int .i64 0, .int .i64 0, .slice none 0 0] #[.int .i64 s.kind, .int .i64 s.seq, .slice s.d.a s.d.l.length s.d.c] rfl (heap_alloc_new w2 _) rfl (by kernel_rfl) (by simp [Value.oneCell']) ?_)
          generalize hws : World.setRow _ _ _ = w3 at *
          clear hws
          generalize w2.heap.size = g7 at *
          have hs7 : RecAt w3 g7 s := hput
          refine wp_region_sp (by kernel_rfl) [Sp.eq (.int .i64 0), Sp.eq (.bool false), Sp.eq (.bool false), Sp.eq (s.val), Sp.eq (.slice (some ⟨b1, o1, none⟩) rs.length c), Sp.eq (.int .i64 (k : Int)), Sp.eq (.pointer (some ⟨b1, o1 + k * 3, none⟩)), Sp.eq (r.val), Sp.eq (.bool true), Sp.eq (.bool false), Sp.eq (.bool false), Sp.eq (.bool false), Sp.eq (.int .i64 ((p + 13 + r.d.l.length : Nat) : Int)), Sp.eq (.int .i64 (p : Int)), Sp.eq (.int .i64 ((p + 13 : Nat) : Int)), Sp.eq (.slice (some ⟨b1, o1, none⟩) rs.length c), Sp.eq (.int .i64 (k : Int)), Sp.eq (.pointer (some ⟨b1, o1 + k * 3, none⟩)), Sp.eq (.pointer (some ⟨b1, o1 + k * 3 + 2, none⟩)), Sp.eq (.slice r.d.a r.d.l.length r.d.c), Sp.eq (.int .i64 (r.d.l.length : Int)), Sp.eq (.int .i64 ((p + 13 + r.d.l.length : Nat) : Int)), Sp.eq (.bool false), Sp.eq (.bool false)] (by kernel_rfl) ?_ ?_
          · refine stepsOk_cons ?_ (stepsOk_cons ?_ (stepsOk_cons ?_ (stepsOk_cons ?_ (stepsOk_cons ?_ (stepsOk_cons ?_ (stepsOk_cons ?_ (stepsOk_cons ?_ (stepsOk_cons ?_ (stepsOk_cons ?_ (stepsOk_cons ?_ (stepsOk_cons ?_ (stepsOk_cons ?_ (stepsOk_cons ?_ (stepsOk_cons ?_ (stepsOk_cons ?_ (stepsOk_cons ?_ (stepsOk_cons ?_ (stepsOk_cons ?_ (stepsOk_cons ?_ (stepsOk_cons ?_ (stepsOk_cons ?_ (stepsOk_cons ?_ (stepsOk_cons ?_ (stepsOk_nil))))))))))))))))))))))))
            · intro ρ w' E
              have e9 : ρ (.tmp 9) = .int .i64 0 := E.out 9 rfl
              refine step_plain rfl ?_
              exact op_move (.inl rfl) e9 ⟨Below.refl _ _, rfl⟩
            · intro ρ w' E
              have e43 : ρ (.tmp 43) = .int .i64 0 := E.pre 0 rfl
              refine step_plain rfl ?_
              refine op_val (v := .bool false) (w' := w') ?_ ⟨Below.refl _ _, rfl⟩
              have hcon := E.con
              clear E
              go_simp
            · intro ρ w' E
              have e44 : ρ (.tmp 44) = .bool false := E.pre 1 rfl
              refine step_plain rfl ?_
              exact op_move (.inl rfl) e44 ⟨Below.refl _ _, rfl⟩
            · intro ρ w' E
              have e7 : ρ (.tmp 7) = .pointer (some ⟨g7, 0, none⟩) := E.out 7 rfl
              refine step_yes rfl (E.pre 2 rfl) ?_
              refine op_val (v := s.val) (w' := w') ?_ ⟨Below.refl _ _, rfl⟩
              unfold RecV.val
              obtain ⟨k0, k1, k2⟩ := (hs7.ext E.below).cells
              have hcon := E.con
              clear E
              go_simp
            · intro ρ w' E
              have e0 : ρ (.tmp 0) = .slice (some ⟨b1, o1, none⟩) rs.length c := E.out 0 rfl
              refine step_yes rfl (E.pre 2 rfl) ?_
              exact op_move (.inl rfl) e0 ⟨Below.refl _ _, rfl⟩
            · intro ρ w' E
              have e6 : ρ (.tmp 6) = .int .i64 (k : Int) := E.out 6 rfl
              refine step_yes rfl (E.pre 2 rfl) ?_
              exact op_move (.inl rfl) e6 ⟨Below.refl _ _, rfl⟩
            · intro ρ w' E
              have e47 : ρ (.tmp 47) = .slice (some ⟨b1, o1, none⟩) rs.length c := E.pre 4 rfl
              have e48 : ρ (.tmp 48) = .int .i64 (k : Int) := E.pre 5 rfl
              refine step_yes rfl (E.pre 2 rfl) ?_
              refine op_val (v := .pointer (some ⟨b1, o1 + k * 3, none⟩)) (w' := w') ?_ ⟨Below.refl _ _, rfl⟩
              have hcon := E.con
              clear E
              go_simp
            · intro ρ w' E
              have e49 : ρ (.tmp 49) = .pointer (some ⟨b1, o1 + k * 3, none⟩) := E.pre 6 rfl
              refine step_yes rfl (E.pre 2 rfl) ?_
              refine op_val (v := r.val) (w' := w') ?_ ⟨Below.refl _ _, rfl⟩
              unfold RecV.val
              obtain ⟨k0, k1, k2⟩ := (har.ext E.below).cells hlt Hr.out
              have hcon := E.con
              clear E
              go_simp
            · intro ρ w' E
              have e46 : ρ (.tmp 46) = s.val := E.pre 3 rfl
              have e50 : ρ (.tmp 50) = r.val := E.pre 7 rfl
              refine step_yes rfl (E.pre 2 rfl) ?_
              refine op_call (f := 22) (args := #[s.val, r.val]) (w' := w') (by have hcon := E.con; have hfn := E.fn; clear E; go_simp) ?_
              refine (record_at s r true w' (hsok.ext E.below) (hrok.ext E.below) (by simp [Hpl.out])).mono ?_
              rintro e w2 ⟨rfl, hb2⟩
              exact ⟨_, rfl, hb2, rfl⟩
            · intro ρ w' E
              have e51 : ρ (.tmp 51) = .bool true := E.pre 8 rfl
              refine step_yes rfl (E.pre 2 rfl) ?_
              refine op_val (v := .bool false) (w' := w') ?_ ⟨Below.refl _ _, rfl⟩
              have hcon := E.con
              clear E
              go_simp
            · intro ρ w' E
              have e45 : ρ (.tmp 45) = .bool false := E.pre 2 rfl
              have e52 : ρ (.tmp 52) = .bool false := E.pre 9 rfl
              refine step_plain rfl ?_
              exact op_pick (b := false) rfl e45 rfl ⟨Below.refl _ _, e52⟩
            · intro ρ w' E
              have e53 : ρ (.tmp 53) = .bool false := E.pre 10 rfl
              refine step_plain rfl ?_
              exact op_move (.inl rfl) e53 ⟨Below.refl _ _, rfl⟩
            · intro ρ w' E
              have e8 : ρ (.tmp 8) = .int .i64 ((p + 13 + r.d.l.length : Nat) : Int) := E.out 8 rfl
              refine step_yes rfl (E.pre 11 rfl) ?_
              exact op_move (.inl rfl) e8 ⟨Below.refl _ _, rfl⟩
            · intro ρ w' E
              have e5 : ρ (.tmp 5) = .int .i64 (p : Int) := E.out 5 rfl
              refine step_yes rfl (E.pre 11 rfl) ?_
              exact op_move (.inl rfl) e5 ⟨Below.refl _ _, rfl⟩
            · intro ρ w' E
              have e56 : ρ (.tmp 56) = .int .i64 (p : Int) := E.pre 13 rfl
              refine step_yes rfl (E.pre 11 rfl) ?_
              refine op_val (v := .int .i64 ((p + 13 : Nat) : Int)) (w' := w') ?_ ⟨Below.refl _ _, rfl⟩
              have hcon := E.con
              clear E
              go_simp
              rw [IntKind.wrap_i64]
              omega
            · intro ρ w' E
              have e0 : ρ (.tmp 0) = .slice (some ⟨b1, o1, none⟩) rs.length c := E.out 0 rfl
              refine step_yes rfl (E.pre 11 rfl) ?_
              exact op_move (.inl rfl) e0 ⟨Below.refl _ _, rfl⟩
            · intro ρ w' E
              have e6 : ρ (.tmp 6) = .int .i64 (k : Int) := E.out 6 rfl
              refine step_yes rfl (E.pre 11 rfl) ?_
              exact op_move (.inl rfl) e6 ⟨Below.refl _ _, rfl⟩
            · intro ρ w' E
              have e58 : ρ (.tmp 58) = .slice (some ⟨b1, o1, none⟩) rs.length c := E.pre 15 rfl
              have e59 : ρ (.tmp 59) = .int .i64 (k : Int) := E.pre 16 rfl
              refine step_yes rfl (E.pre 11 rfl) ?_
              refine op_val (v := .pointer (some ⟨b1, o1 + k * 3, none⟩)) (w' := w') ?_ ⟨Below.refl _ _, rfl⟩
              have hcon := E.con
              clear E
              go_simp
            · intro ρ w' E
              have e60 : ρ (.tmp 60) = .pointer (some ⟨b1, o1 + k * 3, none⟩) := E.pre 17 rfl
              refine step_yes rfl (E.pre 11 rfl) ?_
              refine op_val (v := .pointer (some ⟨b1, o1 + k * 3 + 2, none⟩)) (w' := w') ?_ ⟨Below.refl _ _, rfl⟩
              have hcon := E.con
              clear E
              go_simp
            · intro ρ w' E
              have e61 : ρ (.tmp 61) = .pointer (some ⟨b1, o1 + k * 3 + 2, none⟩) := E.pre 18 rfl
              refine step_yes rfl (E.pre 11 rfl) ?_
              refine op_val (v := .slice r.d.a r.d.l.length r.d.c) (w' := w') ?_ ⟨Below.refl _ _, rfl⟩
              obtain ⟨k0, k1, k2⟩ := (har.ext E.below).cells hlt Hr.out
              have hcon := E.con
              clear E
              go_simp
            · intro ρ w' E
              have e62 : ρ (.tmp 62) = .slice r.d.a r.d.l.length r.d.c := E.pre 19 rfl
              refine step_yes rfl (E.pre 11 rfl) ?_
              refine op_val (v := .int .i64 (r.d.l.length : Int)) (w' := w') ?_ ⟨Below.refl _ _, rfl⟩
              have hcon := E.con
              clear E
              go_simp
            · intro ρ w' E
              have e57 : ρ (.tmp 57) = .int .i64 ((p + 13 : Nat) : Int) := E.pre 14 rfl
              have e63 : ρ (.tmp 63) = .int .i64 (r.d.l.length : Int) := E.pre 20 rfl
              refine step_yes rfl (E.pre 11 rfl) ?_
              refine op_val (v := .int .i64 ((p + 13 + r.d.l.length : Nat) : Int)) (w' := w') ?_ ⟨Below.refl _ _, rfl⟩
              have hcon := E.con
              clear E
              go_simp
              rw [IntKind.wrap_i64]
              omega
            · intro ρ w' E
              have e55 : ρ (.tmp 55) = .int .i64 ((p + 13 + r.d.l.length : Nat) : Int) := E.pre 12 rfl
              have e64 : ρ (.tmp 64) = .int .i64 ((p + 13 + r.d.l.length : Nat) : Int) := E.pre 21 rfl
              refine step_yes rfl (E.pre 11 rfl) ?_
              refine op_val (v := .bool false) (w' := w') ?_ ⟨Below.refl _ _, rfl⟩
              have hcon := E.con
              clear E
              go_simp
            · intro ρ w' E
              have e54 : ρ (.tmp 54) = .bool false := E.pre 11 rfl
              have e65 : ρ (.tmp 65) = .bool false := E.pre 22 rfl
              refine step_plain rfl ?_
              exact op_pick (b := false) rfl e54 rfl ⟨Below.refl _ _, e65⟩
          · intro σ w4 hb34 hall
            have h66 : σ 66 = .bool false := by obtain ⟨_, _, _, _, _, _, _, _, _, _, _, _, _, _, _, _, _, _, _, _, _, _, _, h, _⟩ := hall; exact h
            clear hall hs7 hput
            simp only [upd, updL, dstsOf', elemB, List.filterMap_cons, List.filterMap_nil, Nat.reduceAdd, Nat.reduceBEq, Bool.or_false, Bool.false_or, Bool.or_true, Bool.true_or, cond_true, cond_false, Nat.zero_add, h66]
            have hbw4 := bthen hbw hb34 (Nat.le_refl _)
            go_wp2
            go_roundw
            case rel => exact ⟨k + 1, by omega, by go_num, by rw [Hsucc.out]; go_num, hbw4⟩
            case measure => simp [intOf]; omega
        · have htk : (recs rs).take k = recs rs := List.take_of_length_le (by simp; omega)
          rw [htk, ← HlB.out]
          have HR1 := Lib.hid fun w' hb => frread_at a1 l.length c1 l (l.length : Int) _ _ _ w' (hs1.ext (bthen hbr hb (Nat.le_refl _))) rfl hl1 (by omega) (readF_end l)
          have HR2 := Lib.hid fun w' hb => frread_at a1 l.length c1 l ((l.length : Int) + 1) _ _ _ w' (hs1.ext (bthen hbr hb (Nat.le_refl _))) rfl hl1 (by omega) (readF_past l)
          clear htk hAl
          go_wp2_with fail
          refine (HR1.out wr (Below.refl _ _)).mono ?_
          rintro e w2 ⟨ad, cd, rfl, _, hb2⟩
          have hbp := below_putr w2 #[.int .i64 0, .int .i64 0, .slice none 0 0] ⟨0, 0, ⟨ad, cd, []⟩⟩
          have hb13 := bthen hb2 hbp (Nat.le_refl _)
          have e0 : (Rec.zero).kind = 0 := rfl
          have e1 : (Rec.zero).seq = 0 := rfl
          have e2 : (Rec.zero).d.length = 0 := rfl
          rw [e0, e1, e2]
          clear e0 e1 e2 hb2 hbp HR1
          go_wp2_with (refine wpList_store_row rfl rfl 29 (.tmp 10) (.tmp 72) rfl w2.heap.size rfl 29 #[.int .i64 0, .int .i64 0, .slice none 0 0] #[.int .i64 0, .int .i64 0, .slice ad 0 cd] rfl (heap_alloc_new w2 _) rfl (by kernel_rfl) (by simp [Value.oneCell']) ?_)
          have hb13 : Below wr.heap.size wr ((w2.alloc (.cells #[.int .i64 0, .int .i64 0, .slice none 0 0] 29)).setRow w2.heap.size #[.int .i64 0, .int .i64 0, .slice ad 0 cd]) := hb13
          generalize hws : World.setRow _ _ _ = w3 at *
          clear hws
          refine (HR2.out w3 hb13).mono ?_
          rintro e w4 ⟨ad2, cd2, rfl, _, hb4⟩
          have hbp := below_putr w4 #[.int .i64 0, .int .i64 0, .slice none 0 0] ⟨0, 0, ⟨ad2, cd2, []⟩⟩
          have hb15 := bthen hb13 (bthen hb4 hbp (Nat.le_refl _)) (Nat.le_refl _)
          have e0 : (Rec.zero).kind = 0 := rfl
          have e1 : (Rec.zero).seq = 0 := rfl
          have e2 : (Rec.zero).d.length = 0 := rfl
          rw [e0, e1, e2]
          clear e0 e1 e2 hb4 hbp HR2 hb13
          go_wp2_with (refine wpList_store_row rfl rfl 29 (.tmp 12) (.tmp 80) rfl w4.heap.size rfl 29 #[.int .i64 0, .int .i64 0, .slice none 0 0] #[.int .i64 0, .int .i64 0, .slice ad2 0 cd2] rfl (heap_alloc_new w4 _) rfl (by kernel_rfl) (by simp [Value.oneCell']) ?_)
          refine (wakes06_any _).mono ?_
          rintro e w6 ⟨rfl, hb6⟩
          go_wp2
          go_ret
          exact ⟨rfl, bthen hb1 (bthen hbr (bthen hb15 hb6 (Nat.le_refl _)) (Nat.le_refl _)) (Nat.le_refl _)⟩
    · have hne : ((E : Int) != 0) = true := by simpa using hE0
      have ht2 : (((l.length : Nat) : Int) == 0) = true := by rw [hl0]; rfl
      clear hE0 hl0
      go_enter Try.func6, Try.ntmps6
      go_wp2_with fail
      refine HH.out.mono ?_
      rintro e w1 ⟨rfl, rfl⟩
      go_wp2_with fail
      refine HJ.out.mono ?_
      rintro e w1 ⟨a1, c1, rfl, ho1, hb1⟩
      clear ho1 HH HJ
      go_wp2_with fail
      refine (wakes06_any _).mono ?_
      rintro e w4 ⟨rfl, hb4⟩
      go_wp2
      go_ret
      exact ⟨rfl, bthen hb1 hb4 (Nat.le_refl _)⟩
end Go.Proofs.Ytffcpjhokfjhfaa
