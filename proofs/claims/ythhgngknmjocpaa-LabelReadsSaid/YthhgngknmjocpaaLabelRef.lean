/- The page's labels: LabelBytes. -/
import Derived.Test.YthhgngknmjocpaaLabel
import Derived.Test.YthhgngknmjocpaaRegion
import Derived.Test.YthhgngknmjocpaaRef14Nums
import Derived.Test.YthhgngknmjocpaaCrcRefs
namespace Go.Proofs.Ythhgngknmjocpaa
open Go.RowKit

set_option maxRecDepth 100000

theorem op_app_arg {P : Program} {w : World} {ρ : Operand → Value} {R : Value → World → Prop} {o : Oper} {s x : Operand} {t : TypeId}
    (ho : o.op = .call { callee := .builtin .append, args := #[s, x], argTypes := #[t, t] })
    (e : TypeId) (i : TypeInfo) (z : Value) (k bytes : Nat) (ht : P.underlying t = some (.slice e)) (hi : P.info? e = some i) (hz : i.zero = some z)
    (hsize : i.size = k) (hby : i.bytes = bytes) (hzs : z.cells.size = k) (hsz : 0 < k)
    (b1 o1 : Nat) (n c : Nat) (xs : List Value) (hs : ρ s = .slice (some ⟨b1, o1, none⟩) n c) (hlo : xs.length = n * k) (hown : Src w (some ⟨b1, o1, none⟩) xs)
    (b2 o2 : Nat) (m c2 : Nat) (news : List Value) (hx : ρ x = .slice (some ⟨b2, o2, none⟩) m c2) (hl : news.length = m * k) (hsrc : Src w (some ⟨b2, o2, none⟩) news)
    (hg : c < n + m) (h63 : n + m ≤ maxLen) (hbytes : (n + m) * bytes ≤ 140737488355328)
    (h : ∀ a' c' w', Own w' w.heap.size e k a' (n + m) c' (xs ++ news) → Below w.heap.size w w' → R (.slice a' (n + m) c') w') : OpOk P o ρ w R := by
  obtain ⟨v', w', hr, h2, h3⟩ := run_append_arg_grows (P := P) w t o.type e i z k bytes ht hi hz hsize hby hzs hsz ⟨b1, o1, none⟩ n c xs hlo hown.add ⟨b2, o2, none⟩ m c2 news hl hsrc.add hg h63 hbytes
  have h3' : Below w.heap.size w w' := (Below.refl _ _).grown h3 (Nat.le_refl _) (fun k hk => by cases hk)
  have hv : ∃ a' c', v' = .slice a' (n + m) c' := by
    rcases h2.2 with ⟨hv, h0⟩ | ⟨g, cap, cur, hv, _⟩
    · omega
    · exact ⟨_, _, hv⟩
  obtain ⟨a', c', rfl⟩ := hv
  have hrun : (execOp ρ o).run P w = .ok (.value (.slice a' (n + m) c')) w' := by
    unfold execOp
    simp only [ho, resolve, invoke, builtin, Sem.run_bind, Sem.run_pure, Result.andThen_ok, List.map_toArray, List.map_cons, List.map_nil, hs, hx, hr]
  exact op_val hrun (h a' c' w' (own_of_row h2) h3')

set_option maxHeartbeats 1000000 in
theorem reflabbytes_ok (v p e : Nat) (w : World) (h1 : v < 8) (h3 : p ≤ 1) (h5 : e ≤ 1048576) :
    Calls Try.prog 30 #[labV v p e] w fun r w' => ∃ a' c', r = .returned (.slice a' 14 c') ∧ Own w' w.heap.size 5 1 a' 14 c' (bvs (lbytes v p e)) ∧ Below w.heap.size w w' := by
  obtain ⟨i0, hi, hz0, hz1, hz2⟩ := info_parts info8
  unfold labV
  go_enter Try.func30, Try.ntmps30
  have hg := heap_alloc_new w (.cells #[.int .i64 (v : Int), .int .i64 (p : Int), .int .i64 (e : Int)] 37)
  have hlt := heap_lt hg
  have hB1 := ext_alloc w (.cells #[.int .i64 (v : Int), .int .i64 (p : Int), .int .i64 (e : Int)] 37)
  have k0 := cell_of_row _ w.heap.size 0 _ _ _ hg
  have k1 := cell_of_row _ w.heap.size 1 _ _ _ hg
  have k2 := cell_of_row _ w.heap.size 2 _ _ _ hg
  go_wp2_with fail
  generalize w.alloc (.cells #[.int .i64 (v : Int), .int .i64 (p : Int), .int .i64 (e : Int)] 37) = w1 at *
  clear hg
  have k0 : w1.cell? ⟨w.heap.size, 0, none⟩ = some (.int .i64 (v : Int)) := k0
  have k1 : w1.cell? ⟨w.heap.size, 1, none⟩ = some (.int .i64 (p : Int)) := k1
  have k2 : w1.cell? ⟨w.heap.size, 2, none⟩ = some (.int .i64 (e : Int)) := k2
  obtain ⟨H6, hH6⟩ : ∃ H6 : List Byte, H6 = [67#8, 69#8, 76#8, 76#8, BitVec.ofNat 8 v, BitVec.ofNat 8 p] := ⟨_, rfl⟩
  have HH6 : Hid (bvs H6 = [.int .u8 67, .int .u8 69, .int .u8 76, .int .u8 76, .int .u8 (v : Int), .int .u8 (p : Int)]) := Lib.hid (by
    subst hH6; simp [bvs, u8v]; omega)
  have HLH : Hid (H6 ++ be e 4 = lhead (v : Int) p e) := Lib.hid (by subst hH6; simp [lhead])
  clear hH6
  refine wp_region_sp (by kernel_rfl) [Sp.eq (.pointer (some ⟨w.heap.size, 0, none⟩)), Sp.eq (.int .i64 (v : Int)), Sp.eq (.int .u8 (v : Int)), Sp.eq (.pointer (some ⟨w.heap.size, 1, none⟩)), Sp.eq (.int .i64 (p : Int)), Sp.eq (.int .u8 (p : Int)), ⟨fun w v => ∃ g, v = .slice (some ⟨g, 0, none⟩) 6 6 ∧ Src w (some ⟨g, 0, none⟩) (bvs H6), fun _ _ _ ⟨g, h, hs⟩ hb => ⟨g, h, hs.ext hb⟩⟩, Sp.eq (.pointer (some ⟨w.heap.size, 2, none⟩)), Sp.eq (.int .i64 (e : Int)), ⟨fun w v => ∃ b o c, v = .slice (some ⟨b, o, none⟩) 4 c ∧ Src w (some ⟨b, o, none⟩) (bvs (be e 4)), fun _ _ _ ⟨b, o, c, h, hs⟩ hb => ⟨b, o, c, h, hs.ext hb⟩⟩, ⟨fun w u => ∃ a' c', u = .slice a' 10 c' ∧ Own w w1.heap.size 5 1 a' 10 c' (bvs (lhead (v : Int) p e)), fun _ _ _ ⟨a', c', h, ho⟩ hb => ⟨a', c', h, ho.ext hb⟩⟩, ⟨fun w u => ∃ a' c', u = .slice a' 10 c' ∧ Own w w1.heap.size 5 1 a' 10 c' (bvs (lhead (v : Int) p e)), fun _ _ _ ⟨a', c', h, ho⟩ hb => ⟨a', c', h, ho.ext hb⟩⟩] (by kernel_rfl) ?_ ?_
  · refine stepsOk_cons ?_ (stepsOk_cons ?_ (stepsOk_cons ?_ (stepsOk_cons ?_ (stepsOk_cons ?_ (stepsOk_cons ?_ (stepsOk_cons ?_ (stepsOk_cons ?_ (stepsOk_cons ?_ (stepsOk_cons ?_ (stepsOk_cons ?_ (stepsOk_cons ?_ (stepsOk_nil))))))))))))
    · intro ρ w' E
      have e1 : ρ (.tmp 1) = .pointer (some ⟨w.heap.size, 0, none⟩) := E.out 1 rfl
      refine step_plain rfl ?_
      refine op_val (v := .pointer (some ⟨w.heap.size, 0, none⟩)) (w' := w') ?_ ⟨Below.refl _ _, rfl⟩
      have hcon := E.con
      clear E
      go_simp
    · intro ρ w' E
      have e4 : ρ (.tmp 4) = .pointer (some ⟨w.heap.size, 0, none⟩) := E.pre 0 rfl
      refine step_plain rfl ?_
      refine op_val (v := .int .i64 (v : Int)) (w' := w') ?_ ⟨Below.refl _ _, rfl⟩
      have hk := (World.cell?_of_block (w := w1) (a := ⟨w.heap.size, 0, none⟩) (E.below.block w.heap.size hlt)).trans k0
      have hcon := E.con
      clear E k0 k1 k2
      go_simp
    · intro ρ w' E
      have e5 : ρ (.tmp 5) = .int .i64 (v : Int) := E.pre 1 rfl
      refine step_plain rfl ?_
      refine op_val (v := .int .u8 (v : Int)) (w' := w') ?_ ⟨Below.refl _ _, rfl⟩
      have hcon := E.con
      clear E
      go_simp
      rw [IntKind.wrap_u8]
      omega
    · intro ρ w' E
      have e1 : ρ (.tmp 1) = .pointer (some ⟨w.heap.size, 0, none⟩) := E.out 1 rfl
      refine step_plain rfl ?_
      refine op_val (v := .pointer (some ⟨w.heap.size, 1, none⟩)) (w' := w') ?_ ⟨Below.refl _ _, rfl⟩
      have hcon := E.con
      clear E
      go_simp
    · intro ρ w' E
      have e7 : ρ (.tmp 7) = .pointer (some ⟨w.heap.size, 1, none⟩) := E.pre 3 rfl
      refine step_plain rfl ?_
      refine op_val (v := .int .i64 (p : Int)) (w' := w') ?_ ⟨Below.refl _ _, rfl⟩
      have hk := (World.cell?_of_block (w := w1) (a := ⟨w.heap.size, 1, none⟩) (E.below.block w.heap.size hlt)).trans k1
      have hcon := E.con
      clear E k0 k1 k2
      go_simp
    · intro ρ w' E
      have e8 : ρ (.tmp 8) = .int .i64 (p : Int) := E.pre 4 rfl
      refine step_plain rfl ?_
      refine op_val (v := .int .u8 (p : Int)) (w' := w') ?_ ⟨Below.refl _ _, rfl⟩
      have hcon := E.con
      clear E
      go_simp
      rw [IntKind.wrap_u8]
      omega
    · intro ρ w' E
      have e6 : ρ (.tmp 6) = .int .u8 (v : Int) := E.pre 2 rfl
      have e9 : ρ (.tmp 9) = .int .u8 (p : Int) := E.pre 5 rfl
      refine step_plain rfl ?_
      refine op_val (v := .slice (some ⟨w'.heap.size, 0, none⟩) 6 6) (w' := w'.alloc (.cells (bvs H6).toArray 5)) (by rw [HH6.out]; have hcon := E.con; clear E; go_simp) ⟨ext_alloc _ _, _, rfl, src_new w' _ _⟩
    · intro ρ w' E
      have e1 : ρ (.tmp 1) = .pointer (some ⟨w.heap.size, 0, none⟩) := E.out 1 rfl
      refine step_plain rfl ?_
      refine op_val (v := .pointer (some ⟨w.heap.size, 2, none⟩)) (w' := w') ?_ ⟨Below.refl _ _, rfl⟩
      have hcon := E.con
      clear E
      go_simp
    · intro ρ w' E
      have e11 : ρ (.tmp 11) = .pointer (some ⟨w.heap.size, 2, none⟩) := E.pre 7 rfl
      refine step_plain rfl ?_
      refine op_val (v := .int .i64 (e : Int)) (w' := w') ?_ ⟨Below.refl _ _, rfl⟩
      have hk := (World.cell?_of_block (w := w1) (a := ⟨w.heap.size, 2, none⟩) (E.below.block w.heap.size hlt)).trans k2
      have hcon := E.con
      clear E k0 k1 k2
      go_simp
    · intro ρ w' E
      have e12 : ρ (.tmp 12) = .int .i64 (e : Int) := E.pre 8 rfl
      refine step_plain rfl ?_
      refine op_call (f := 59) (args := #[.int .i64 (e : Int), .int .i64 4]) (w' := w') (by have hcon := E.con; have hfn := E.fn; clear E; go_simp) ?_
      refine (be14_at e 4 _ _ w' rfl rfl (by omega) (by omega)).mono ?_
      rintro r w2 ⟨a', c', rfl, ho, hb⟩
      obtain ⟨b, o, rfl, _, _⟩ := src_bytes_at ho.src (show 0 < (be e 4).length by rw [be_length]; omega)
      exact ⟨_, rfl, hb, b, o, c', rfl, ho.src⟩
    · intro ρ w' E
      have p10 : (fun w v => ∃ g, v = .slice (some ⟨g, 0, none⟩) 6 6 ∧ Src w (some ⟨g, 0, none⟩) (bvs H6)) w' (ρ (.tmp 10)) := E.pre 6 rfl
      have p13 : (fun w v => ∃ b o c, v = .slice (some ⟨b, o, none⟩) 4 c ∧ Src w (some ⟨b, o, none⟩) (bvs (be e 4))) w' (ρ (.tmp 13)) := E.pre 9 rfl
      refine step_plain rfl ?_
      obtain ⟨g, e10, hs1⟩ := p10
      obtain ⟨b, o, cc, e13, hs2⟩ := p13
      refine op_app_arg (x := .tmp 13) (s := .tmp 10) (t := 38) rfl 5 i0 (.int .u8 0) 1 1 Try.underlying38 hi hz0 hz1 hz2 rfl (by decide) g 0 6 6 (bvs H6) e10 (by rw [HH6.out]; rfl) hs1 b o 4 cc (bvs (be e 4)) e13 (by rw [bvs_length, be_length]) hs2 (by omega) (by unfold maxLen; omega) (by omega) ?_
      intro a' c' w2 ho hb
      rw [← bvs_append, HLH.out] at ho
      exact ⟨hb, a', c', rfl, ho.mono E.below.size⟩
    · intro ρ w' E
      have p14 : (fun w u => ∃ a' c', u = .slice a' 10 c' ∧ Own w w1.heap.size 5 1 a' 10 c' (bvs (lhead (v : Int) p e))) w' (ρ (.tmp 14)) := E.pre 10 rfl
      refine step_plain rfl ?_
      exact op_move (.inr rfl) rfl ⟨Below.refl _ _, p14⟩
  · intro σ w2 hb2 hall
    obtain ⟨_, _, _, _, _, _, _, _, _, _, _, ⟨a3, c3, h3', hown⟩, _⟩ := hall
    have h3' : σ 3 = .slice a3 10 c3 := h3'
    have hown : Own w2 w1.heap.size 5 1 a3 10 c3 (bvs (lhead (v : Int) p e)) := hown
    rw [show upd ⟨#[.agg #[.int .i64 (v : Int), .int .i64 (p : Int), .int .i64 (e : Int)], .pointer (some ⟨w.heap.size, 0, none⟩), .slice none 0 0, undef, undef, undef, undef, undef, undef, undef, undef, undef, undef, undef, undef, undef, undef, undef, undef], []⟩ _ σ = ⟨#[.agg #[.int .i64 (v : Int), .int .i64 (p : Int), .int .i64 (e : Int)], .pointer (some ⟨w.heap.size, 0, none⟩), .slice none 0 0, σ 3, σ 4, σ 5, σ 6, σ 7, σ 8, σ 9, σ 10, σ 11, σ 12, σ 13, σ 14, undef, undef, undef, undef], []⟩ from rfl, h3']
    have hXl := lhead_length (v : Int) p e
    have hxx : lbytes (v : Int) p e = lhead (v : Int) p e ++ crcBytesOf (crc (lhead (v : Int) p e)) := rfl
    generalize lhead (v : Int) p e = X at hown hXl hxx
    have HXX := Lib.hid hxx
    have HXl := Lib.hid hXl
    clear hXl hxx HLH HH6 k0 k1 k2 h3'
    have hs2 := hown.src
    have hb02 := bthen hB1 hb2 (Nat.le_refl _)
    have hown' := hown.mono (base' := w.heap.size) (by omega)
    clear hown
    go_wp2_with fail
    have hS := refsum_any a3 c3 X w2 hs2 (by rw [HXl.out]; omega)
    rw [HXl.out] at hS
    refine hS.mono ?_
    rintro r w3 ⟨a4, rfl, hown4, hb3⟩
    have hown3 := hown'.ext hb3
    have hs4 := hown4.src
    have hb03 := bthen hb02 hb3 (Nat.le_refl _)
    clear hown' hown4 hs2 hS
    go_wp2_with (refine wpList_app rfl (.tmp 15) (.tmp 17) 38 rfl w.heap.size 5 i0 (.int .u8 0) 1 1 Try.underlying38 hi hz0 hz1 hz2 rfl (by decide) a3 10 c3 (bvs X) rfl hown3 a4 4 4 (bvs (crcBytesOf (crc X))) rfl rfl hs4 (bvs_one _) (by unfold maxLen; omega) (by omega) hb03.size ?_; intro a6 c6 w6 hown6 hb6)
    go_ret
    refine ⟨a6, c6, rfl, ?_, hb03.trans hb6⟩
    rw [HXX.out, bvs_append]
    exact hown6

theorem reflabbytes_at (v p e : Int) (l : List Byte) (w : World) (h : okL v p e = true) (hl : lbytes v p e = l) :
    Calls Try.prog 30 #[labV v p e] w fun r w' => ∃ a' c', r = .returned (.slice a' 14 c') ∧ Own w' w.heap.size 5 1 a' 14 c' (bvs l) ∧ Below w.heap.size w w' := by
  subst hl
  rw [okL_iff] at h
  obtain ⟨h0, h1, h2, h3, h4, h5⟩ := h
  obtain ⟨v, rfl⟩ := Int.eq_ofNat_of_zero_le h0
  obtain ⟨p, rfl⟩ := Int.eq_ofNat_of_zero_le h2
  obtain ⟨e, rfl⟩ := Int.eq_ofNat_of_zero_le h4
  exact reflabbytes_ok v p e w (by omega) (by omega) (by omega)
end Go.Proofs.Ythhgngknmjocpaa
