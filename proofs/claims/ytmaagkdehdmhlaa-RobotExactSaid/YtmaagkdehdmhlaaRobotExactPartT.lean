/- Several texts of this claim, one behind the other: RobWakes, RobTape. -/
import Derived.Test.YtmaagkdehdmhlaaRobotExactPartS
/- robot: Mount, whichever way; cellarerlaw13.wakes. -/
namespace Go.Proofs.Ytmaagkdehdmhlaa
open Go.RowKit

variable {B : Nat} {K : Nat → Prop} {w w' : World} {r g : Nat} {S : RS} {V : RobV} {D : Nat → Nat} {s : PS}
theorem RS.mount_good (h : S.ok) (ha : S.asked < 4000000000000000000) {v : Nat} (hv : v < S.vols.length) {S' : RS} {i : Nat} (hr : S.mount v = (S', i)) :
    S'.ok ∧ S'.vols.length = S.vols.length ∧ S'.bays.length = S.bays.length ∧ S'.asked = S.asked + 1 ∧ S'.size = S.size ∧ ∃ b, S'.bays[i]? = some b ∧ b.vol = v ∧ b.asked = S.asked + 1 := by
  cases hf : findV v S.bays with
  | some j =>
    rw [RS.mount_some hf] at hr
    simp only [Prod.mk.injEq] at hr
    obtain ⟨rfl, rfl⟩ := hr
    obtain ⟨b, hb, hbv, _⟩ := findV_some hf
    refine ⟨RS.asked_ok h ha hb, rfl, List.length_modify .., rfl, rfl, { b with asked := S.asked + 1 }, ?_, hbv, rfl⟩
    show (S.bays.modify j _)[j]? = _
    rw [modify_get hb, List.getElem?_set, if_pos rfl, if_pos (List.getElem?_eq_some_iff.1 hb).1]
  | none =>
    have hd := h.drives
    have hil := freeB_lt (l := S.bays) (by omega)
    obtain ⟨b, hb⟩ : ∃ b, S.bays[freeB S.bays]? = some b := ⟨_, List.getElem?_eq_getElem hil⟩
    obtain ⟨vs, hvs⟩ : ∃ vs, (if b.vol < 0 then S.vols else S.vols.set b.vol.toNat b.M) = vs := ⟨_, rfl⟩
    have hl : vs.length = S.vols.length := by rw [← hvs]; split <;> simp
    obtain ⟨m, hm⟩ : ∃ m, vs[v]? = some m := ⟨_, List.getElem?_eq_getElem (by omega)⟩
    rw [RS.mount_none hf rfl hb hvs hm] at hr
    simp only [Prod.mk.injEq] at hr
    obtain ⟨rfl, rfl⟩ := hr
    refine ⟨(RS.mounted_ok h ha hv hf hb hvs hm).1, hl, List.length_set .., rfl, rfl, ⟨v, S.asked + 1, m, 0⟩, ?_, rfl, rfl⟩
    show (S.bays.set _ _)[_]? = _
    rw [List.getElem?_set, if_pos rfl, if_pos hil]
theorem rob_mountP {v : Nat} {S' : RS} {i : Nat} (hr : S.mount v = (S', i)) (w : World) (h : RobP B K w r g S D s) (hu : Up B K w) (hs : s.off = false) (hv : v < S.vols.length) (ha : S.asked < 4000000000000000000) :
    Calls Try.prog 24 #[.pointer (some ⟨r, 0, none⟩), .int .i64 v] w fun e w' => ∃ d D', e = .returned (.tuple #[.pointer (some ⟨d, 0, none⟩), .int .i64 0]) ∧ d = D' i ∧ RobP B K w' r g S' D' s ∧ Mod (RobG B K) w w' := by
  cases hf : findV v S.bays with
  | some j =>
    rw [RS.mount_some hf] at hr
    simp only [Prod.mk.injEq] at hr
    obtain ⟨rfl, rfl⟩ := hr
    refine (rob_mount_found v j w h hs hv ha hf).mono ?_
    rintro e w2 ⟨rfl, h2, hm⟩
    exact ⟨_, D, rfl, rfl, h2, hm⟩
  | none =>
    have hd := h.good.drives
    have hil := freeB_lt (l := S.bays) (by omega)
    obtain ⟨b, hb⟩ : ∃ b, S.bays[freeB S.bays]? = some b := ⟨_, List.getElem?_eq_getElem hil⟩
    obtain ⟨vs, hvs⟩ : ∃ vs, (if b.vol < 0 then S.vols else S.vols.set b.vol.toNat b.M) = vs := ⟨_, rfl⟩
    have hl : vs.length = S.vols.length := by rw [← hvs]; split <;> simp
    obtain ⟨m, hm⟩ : ∃ m, vs[v]? = some m := ⟨_, List.getElem?_eq_getElem (by omega)⟩
    rw [RS.mount_none hf rfl hb hvs hm] at hr
    simp only [Prod.mk.injEq] at hr
    obtain ⟨rfl, rfl⟩ := hr
    refine (rob_mount_new v _ b vs m w h hu hs hv ha hf rfl hb hvs hm).mono ?_
    rintro e w2 ⟨d, rfl, _, h2, hm⟩
    exact ⟨d, fun j => if j = freeB S.bays then d else D j, rfl, (if_pos rfl).symm, h2, hm⟩
/-- What a robot tells. -/
theorem rob_holdsP (i : Int) (v : Int) (w : World) (h : RobP B K w r g S D s) (hv : (if 0 ≤ i ∧ i < S.bays.length then (S.bays.getD i.toNat bay0).vol else -1) = v) :
    Calls Try.prog 37 #[.pointer (some ⟨r, 0, none⟩), .int .i64 i] w fun e w' => e = .returned (.int .i64 v) ∧ w = w' := by
  obtain ⟨⟨V, h1, h2⟩, hok, hp⟩ := h
  exact rob_holds i v w h1 hok.drives hv
theorem rob_mountsP (m : Int) (w : World) (h : RobP B K w r g S D s) (hm : S.mounts = m) :
    Calls Try.prog 36 #[.pointer (some ⟨r, 0, none⟩)] w fun e w' => e = .returned (.int .i64 m) ∧ w = w' := by
  subst hm
  obtain ⟨⟨V, h1, h2⟩, hok, hp⟩ := h
  exact rob_mounts w h1

def wk13 : List Nat := [0, 1, 0, 2]
def SW (k : Nat) : RS := (wk13.take k).foldl (fun S v => (S.mount v).1) (RS.new 3 5 2)
theorem SW_succ : ∀ k, k < 4 → (SW k).mount (wk13.getD k 0) = (SW (k + 1), ((SW k).mount (wk13.getD k 0)).2) := by
  intro k hk
  have : ∀ k, k < 4 → (SW k).mount (wk13.getD k 0) = (((SW k).mount (wk13.getD k 0)).1, ((SW k).mount (wk13.getD k 0)).2) := fun _ _ => rfl
  match k, hk with
  | 0, _ => rfl
  | 1, _ => rfl
  | 2, _ => rfl
  | 3, _ => rfl
theorem SW_props : ∀ k, k < 5 → (SW k).vols.length = 3 ∧ (SW k).asked = k := by
  intro k hk
  match k, hk with
  | 0, _ => exact ⟨rfl, rfl⟩
  | 1, _ => exact ⟨rfl, rfl⟩
  | 2, _ => exact ⟨rfl, rfl⟩
  | 3, _ => exact ⟨rfl, rfl⟩
  | 4, _ => exact ⟨rfl, rfl⟩
theorem RTT_no_int (b : Nat) : ¬ RobG B K b 3 := fun hf => absurd hf.2.2 (by decide)

set_option maxRecDepth 100000 in
set_option maxHeartbeats 4000000 in
theorem wakes13_any (w : World) : Calls Try.prog 8 #[] w fun e w' => e = .returned (.bool true) ∧ Below w.heap.size w w' := by
  go_enter Try.func8, Try.ntmps8
  go_wp2_with fail
  refine (power_new w).mono ?_
  rintro e w1 ⟨g, rfl, hp1, hb1⟩
  have hB1 := hb1.size
  go_wp2_with fail
  refine (rob_new (K := AllK) (fun _ => 0) 3 5 2 w1 (Up.all hB1) hp1 (by decide) (by decide) (by decide)).mono ?_
  rintro e w2 ⟨r, rfl, h2, hb2⟩
  have hB2 := bthen hb1 hb2 (Nat.le_refl _)
  have hbL := ext_alloc w2 (.cells #[.int .i64 0, .int .i64 1, .int .i64 0, .int .i64 2] 3)
  have hL := heap_alloc_new w2 (.cells #[.int .i64 0, .int .i64 1, .int .i64 0, .int .i64 2] 3)
  have H3 := Lib.hid (h2.ext hbL)
  have HL := Lib.hid hL
  have HB3 := Lib.hid (bthen hB2 hbL (Nat.le_refl _))
  clear hp1 hb1 h2 hb2 hB2 hbL hL hB1
  go_wp2_with fail
  generalize w2.alloc (.cells #[.int .i64 0, .int .i64 1, .int .i64 0, .int .i64 2] 3) = w3 at *
  generalize w2.heap.size = L at *
  go_loopw [26] (fun i wr => ∃ (k : Nat) (D : Nat → Nat) (wx : World), wx = wr ∧ k ≤ 4 ∧ i = .int .i64 (k : Int) ∧ RobP w.heap.size AllK wx r g (SW k) D PS.new ∧ wx.heap[L]? = some (.cells #[.int .i64 0, .int .i64 1, .int .i64 0, .int .i64 2] 3 (0, 0)) ∧ Below w.heap.size w wx) (fun i _ => 4 - (intOf i).toNat)
  case atStart => exact ⟨0, _, _, rfl, by omega, rfl, H3.out, HL.out, HB3.out⟩
  case round =>
    obtain ⟨k, D, wx, hwx, hk, rfl, hR, hl, hB⟩ := hrel
    subst hwx
    clear H3 HL HB3
    by_cases hlt : k < 4
    · obtain ⟨p1, p2⟩ := SW_props k (by omega)
      have c0 : wx.cell? ⟨L, k, none⟩ = some (.int .i64 ((wk13.getD k 0 : Nat) : Int)) := by
        rw [cell_of_row _ _ _ _ _ _ hl]
        match k, hlt with
        | 0, _ => rfl
        | 1, _ => rfl
        | 2, _ => rfl
        | 3, _ => rfl
      have hv3 : wk13.getD k 0 < 3 := by
        match k, hlt with
        | 0, _ => decide
        | 1, _ => decide
        | 2, _ => decide
        | 3, _ => decide
      have HS := Lib.hid (SW_succ k hlt)
      have HR := Lib.hid hR
      have HB := Lib.hid hB
      have Hl := Lib.hid hl
      have P1 := Lib.hid p1
      have P2 := Lib.hid p2
      clear hR hB hl p1 p2
      generalize wk13.getD k 0 = v at *
      go_wp2_with fail
      refine (rob_mountP HS.out wx HR.out (Up.all HB.out.size) rfl (by rw [P1.out]; exact hv3) (by rw [P2.out]; omega)).mono ?_
      rintro e w4 ⟨d, D', rfl, -, hR4, hm4⟩
      have HR4 := Lib.hid hR4
      have Hl4 := Lib.hid (hm4.keep Hl.out fun hf => RTT_no_int _ hf)
      have HB4 := Lib.hid (HB.out.trans (hm4.below (fun b T h => h.1) HB.out.size))
      clear hR4 hm4 c0
      go_wp2_with fail
      go_roundw
      case rel => exact ⟨k + 1, D', _, rfl, by omega, by go_num, HR4.out, Hl4.out, HB4.out⟩
      case measure => simp [intOf]; omega
    · obtain rfl : k = 4 := by omega
      have HB := Lib.hid hB
      have HR := Lib.hid hR
      clear hl hB hR
      go_wp2_with fail
      refine (rob_holdsP 0 0 wx HR.out rfl).mono ?_
      rintro e w4 ⟨rfl, rfl⟩
      go_wp2_with fail
      refine (rob_holdsP 1 2 wx HR.out rfl).mono ?_
      rintro e w4 ⟨rfl, rfl⟩
      go_wp2_with fail
      refine (rob_mountsP 3 wx HR.out rfl).mono ?_
      rintro e w4 ⟨rfl, rfl⟩
      go_wp2
      go_ret
      exact ⟨rfl, HB.out⟩
end Go.Proofs.Ytmaagkdehdmhlaa

/- The robot, plainly: tapes stay when volumes are mounted. -/
namespace Go.Proofs.Ytmaagkdehdmhlaa
open Go.RowKit

variable {S S' : RS}
theorem findV_at (h : S.ok) {u : Int} (hu : 0 ≤ u) {j : Nat} {b : Bay} (hb : S.bays[j]? = some b) (hv : b.vol = u) : findV u S.bays = some j := by
  cases hf : findV u S.bays with
  | none => exact absurd hv (findV_none hf b (List.mem_of_getElem? hb))
  | some k =>
    obtain ⟨b', hb', hv', _⟩ := findV_some hf
    rw [h.one k j b' b hb' hb (by rw [hv', hv]) (by omega)]
theorem RS.tape_at (h : S.ok) {v : Nat} {j : Nat} {b : Bay} (hb : S.bays[j]? = some b) (hv : b.vol = v) : S.tape v = b.M := RS.tape_some (findV_at h (by omega) hb hv) hb
theorem findV_none_of {l : List Bay} {u : Int} (h : ∀ b ∈ l, b.vol ≠ u) : findV u l = none := findV_no fun j bj _ hb => h bj (List.mem_of_getElem? hb)
theorem RS.mount_tape (h : S.ok) (ha : S.asked < 4000000000000000000) {v i : Nat} (hv : v < S.vols.length) (hr : S.mount v = (S', i)) {u : Nat} (hu : u < S.vols.length) : S'.tape u = S.tape u := by
  obtain ⟨hok', hvl', -, -, -, -⟩ := RS.mount_good h ha hv hr
  cases hf : findV v S.bays with
  | some j =>
    rw [RS.mount_some hf] at hr
    simp only [Prod.mk.injEq] at hr
    obtain ⟨rfl, rfl⟩ := hr
    obtain ⟨b, hb, hbv, _⟩ := findV_some hf
    have hjl := (List.getElem?_eq_some_iff.1 hb).1
    have hget : ∀ (k : Nat) (bk : Bay), S.bays[k]? = some bk → ∃ bk' : Bay, (S.bays.modify j fun b => { b with asked := S.asked + 1 })[k]? = some bk' ∧ bk'.vol = bk.vol ∧ bk'.M = bk.M := by
      intro k bk hk
      rw [modify_get hb, List.getElem?_set]
      by_cases hjk : j = k
      · subst hjk
        rw [if_pos rfl, if_pos hjl]
        rw [hb] at hk
        obtain rfl := Option.some.inj hk
        exact ⟨_, rfl, rfl, rfl⟩
      · rw [if_neg hjk]; exact ⟨bk, hk, rfl, rfl⟩
    cases hq : findV u S.bays with
    | some k =>
      obtain ⟨bk, hbk, hbu, _⟩ := findV_some hq
      obtain ⟨bk', h1, h2, h3⟩ := hget k bk hbk
      rw [RS.tape_some hq hbk, RS.tape_at hok' h1 (by rw [h2, hbu]), h3]
    | none =>
      have hno := findV_none hq
      have : findV u (S.bays.modify j fun b => { b with asked := S.asked + 1 }) = none := findV_none_of fun x hx => by
        rw [modify_get hb] at hx
        rcases List.mem_or_eq_of_mem_set hx with hx | rfl
        · exact hno x hx
        · exact hno b (List.mem_of_getElem? hb)
      rw [RS.tape_none hq (List.getElem?_eq_getElem hu), RS.tape_none (S := { S with asked := S.asked + 1, bays := S.bays.modify j fun b => { b with asked := S.asked + 1 } }) this (List.getElem?_eq_getElem hu)]
  | none =>
    have hd := h.drives
    have hil := freeB_lt (l := S.bays) (by omega)
    obtain ⟨i0, hi0⟩ : ∃ i0, freeB S.bays = i0 := ⟨_, rfl⟩
    rw [hi0] at hil
    obtain ⟨b, hb⟩ : ∃ b, S.bays[i0]? = some b := ⟨_, List.getElem?_eq_getElem hil⟩
    obtain ⟨vs, hvs⟩ : ∃ vs, (if b.vol < 0 then S.vols else S.vols.set b.vol.toNat b.M) = vs := ⟨_, rfl⟩
    have hl : vs.length = S.vols.length := by rw [← hvs]; split <;> simp
    obtain ⟨m, hm⟩ : ∃ m, vs[v]? = some m := ⟨_, List.getElem?_eq_getElem (by omega)⟩
    rw [RS.mount_none hf hi0 hb hvs hm] at hr
    simp only [Prod.mk.injEq] at hr
    obtain ⟨rfl, rfl⟩ := hr
    have hno := findV_none hf
    have hbv := (h.bay b (List.mem_of_getElem? hb)).vol
    have hvsne : ∀ k : Nat, (k : Int) ≠ b.vol → vs[k]? = S.vols[k]? := by
      intro k hk
      rw [← hvs]
      split
      · rfl
      · rw [List.getElem?_set, if_neg (by omega)]
    have hset : ∀ (k : Nat) (bk : Bay), (S.bays.set i0 ⟨(v : Int), S.asked + 1, m, 0⟩)[k]? = some bk → k ≠ i0 → S.bays[k]? = some bk := by
      intro k bk hk hne
      rw [List.getElem?_set, if_neg (fun h => hne h.symm)] at hk
      exact hk
    by_cases huv : u = v
    · subst huv
      have hvm : vs[u]? = S.vols[u]? := hvsne u fun h2 => hno b (List.mem_of_getElem? hb) h2.symm
      rw [hm] at hvm
      rw [RS.tape_none hf hvm.symm]
      exact RS.tape_at hok' (j := i0) (b := ⟨(u : Int), S.asked + 1, m, 0⟩) (by show (S.bays.set _ _)[_]? = _; rw [List.getElem?_set, if_pos rfl, if_pos hil]) rfl
    · cases hq : findV u S.bays with
      | some k =>
        obtain ⟨bk, hbk, hbu, _⟩ := findV_some hq
        rw [RS.tape_some hq hbk]
        by_cases hki : k = i0
        · subst hki
          rw [hb] at hbk
          obtain rfl := Option.some.inj hbk
          have hn2 : findV u (S.bays.set k ⟨(v : Int), S.asked + 1, m, 0⟩) = none := findV_no fun j bj hj hbj hju => by
            by_cases hjk : j = k
            · subst hjk
              rw [List.getElem?_set, if_pos rfl, if_pos hil] at hbj
              obtain rfl := Option.some.inj hbj
              exact huv (by have : (v : Int) = u := hju; omega)
            · have hbj' := hset j bj hbj hjk
              exact hjk (h.one j k bj b hbj' hb (by rw [hju, hbu]) (by omega))
          refine RS.tape_none (S := ⟨S.size, vs, S.bays.set k ⟨(v : Int), S.asked + 1, m, 0⟩, S.asked + 1, S.mounts + 1⟩) hn2 ?_
          show vs[u]? = _
          rw [← hvs, if_neg (by omega), show b.vol.toNat = u by omega, List.getElem?_set, if_pos rfl, if_pos hu]
        · exact RS.tape_at hok' (j := k) (b := bk) (by show (S.bays.set _ _)[_]? = _; rw [List.getElem?_set, if_neg (fun h => hki h.symm)]; exact hbk) hbu
      | none =>
        have hnu := findV_none hq
        have hn2 : findV u (S.bays.set i0 ⟨(v : Int), S.asked + 1, m, 0⟩) = none := findV_none_of fun x hx hxu => by
          rcases List.mem_or_eq_of_mem_set hx with hx | rfl
          · exact hnu x hx hxu
          · exact huv (by have : (v : Int) = u := hxu; omega)
        rw [RS.tape_none hq (List.getElem?_eq_getElem hu)]
        refine RS.tape_none (S := ⟨S.size, vs, S.bays.set i0 ⟨(v : Int), S.asked + 1, m, 0⟩, S.asked + 1, S.mounts + 1⟩) hn2 ?_
        show vs[u]? = _
        rw [hvsne u fun h2 => hnu b (List.mem_of_getElem? hb) h2.symm, List.getElem?_eq_getElem hu]
/-- A drive's tape is another one. -/
theorem RS.drive_tape (h : S.ok) {i : Nat} {b : Bay} {v : Nat} {M' : Med} {at' : Int} (hb : S.bays[i]? = some b) (hbv : b.vol = v) (hg : DGood M' at' ∧ M'.cap = S.size) {u : Nat} (hu : u < S.vols.length) : (S.drive i M' at').tape u = if u = v then M' else S.tape u := by
  have hok' := RS.drive_ok h hb hg
  have hil := (List.getElem?_eq_some_iff.1 hb).1
  have e : (S.drive i M' at').bays = S.bays.set i { b with M := M', at_ := at' } := modify_get hb
  by_cases huv : u = v
  · subst huv
    rw [if_pos rfl]
    exact RS.tape_at hok' (j := i) (b := { b with M := M', at_ := at' }) (by rw [e, List.getElem?_set, if_pos rfl, if_pos hil]) hbv
  · rw [if_neg huv]
    cases hq : findV u S.bays with
    | some k =>
      obtain ⟨bk, hbk, hbu, _⟩ := findV_some hq
      rw [RS.tape_some hq hbk]
      have hki : i ≠ k := by
        rintro rfl
        rw [hb] at hbk
        obtain rfl := Option.some.inj hbk
        omega
      exact RS.tape_at hok' (j := k) (b := bk) (by rw [e, List.getElem?_set, if_neg hki]; exact hbk) hbu
    | none =>
      have hnu := findV_none hq
      have hn2 : findV u (S.drive i M' at').bays = none := findV_none_of fun x hx hxu => by
        rw [e] at hx
        rcases List.mem_or_eq_of_mem_set hx with hx | rfl
        · exact hnu x hx hxu
        · exact hnu b (List.mem_of_getElem? hb) hxu
      rw [RS.tape_none hq (List.getElem?_eq_getElem hu)]
      exact RS.tape_none hn2 (List.getElem?_eq_getElem hu)
/-- What a drive holds behind a mount is the volume's tape. -/
theorem RS.mount_bay (h : S.ok) (ha : S.asked < 4000000000000000000) {v i : Nat} (hv : v < S.vols.length) (hr : S.mount v = (S', i)) : ∃ b, S'.bays[i]? = some b ∧ b.vol = v ∧ b.M = S.tape v ∧ DGood b.M b.at_ := by
  obtain ⟨hok', hvl', -, -, -, b, hb, hbv, -⟩ := RS.mount_good h ha hv hr
  refine ⟨b, hb, hbv, ?_, ((hok'.bay b (List.mem_of_getElem? hb)).good (by omega)).1⟩
  rw [← RS.mount_tape h ha hv hr hv, RS.tape_at hok' hb hbv]
theorem RS.mount_new (h : S.ok) {v i : Nat} (hr : S.mount v = (S', i)) : S'.mounts = if (findV v S.bays).isSome then S.mounts else S.mounts + 1 := by
  unfold RS.mount at hr
  cases hf : findV v S.bays with
  | some j => rw [hf] at hr; simp only [Prod.mk.injEq] at hr; rw [← hr.1]; rfl
  | none => rw [hf] at hr; simp only [Prod.mk.injEq] at hr; rw [← hr.1]; rfl
theorem RS.new_tape (vols size drives v : Nat) (hv : v < vols) : (RS.new vols size drives).tape v = ⟨size, []⟩ := by
  have hn : findV v (RS.new vols size drives).bays = none := findV_none_of fun b hb => by
    obtain rfl := List.eq_of_mem_replicate hb
    show (-1 : Int) ≠ v
    omega
  refine RS.tape_none hn ?_
  show (List.replicate vols _)[v]? = _
  rw [List.getElem?_replicate, if_pos hv]
theorem drive_vols' (S : RS) (i : Nat) (M : Med) (a : Int) : (S.drive i M a).bays.map Bay.vol = S.bays.map Bay.vol := by
  show (S.bays.modify i _).map Bay.vol = _
  apply List.ext_getElem?
  intro j
  rw [List.getElem?_map, List.getElem?_modify, List.getElem?_map]
  cases S.bays[j]? with
  | none => rfl
  | some b =>
    by_cases hij : i = j
    · simp [hij]
    · simp [hij]
end Go.Proofs.Ytmaagkdehdmhlaa
