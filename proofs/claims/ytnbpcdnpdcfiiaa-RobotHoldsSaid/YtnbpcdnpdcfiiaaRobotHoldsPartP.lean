/- Several texts of this claim, one behind the other: RobTape, RobHoldsP. -/
import Derived.Test.YtnbpcdnpdcfiiaaRobWakes
import Derived.Test.YtnbpcdnpdcfiiaaRobotHoldsPartF
/- The robot, plainly: tapes stay when volumes are mounted. -/
namespace Go.Proofs.Ytnbpcdnpdcfiiaa
open Go.RowKit

variable {S S' : RS}
theorem findV_at (h : S.ok) {u : Int} (hu : 0 ≤ u) {j : Nat} {b : Bay} (hb : S.bays[j]? = some b) (hv : b.vol = u) : findV u S.bays = some j := by
  cases hf : findV u S.bays with
  | none => exact absurd hv (findV_none hf b (List.mem_of_getElem? hb))
  | some k =>
    obtain ⟨b', hb', hv', _⟩ := findV_some hf
    rw [h.one k j b' b hb' hb (by rw [hv', hv]) (by omega)]
theorem RS.tape_at (h : S.ok) {v : Nat} {j : Nat} {b : Bay} (hb : S.bays[j]? = some b) (hv : b.vol = v) : S.tape v = b.M := RS.tape_some (findV_at h (by omega) hb hv) hb
theorem findV_none_of {l : List Bay} {u : Int} (h : ∀ b ∈ l, b.vol ≠ u) : findV u l = none := findV_no fun j bj _ hb => h bj (List.mem_of_getElem? hb)
theorem RS.mount_tape (h : S.ok) (ha : S.asked < 4000000000000000000) {v i : Nat} (hv : v < S.vols.length) (hr : S.mount v = (S', i)) {u : Nat} (hu : u < S.vols.length) : S'.tape u = S.tape u := by
  obtain ⟨hok', hvl', -, -, -, -⟩ := RS.mount_good h ha hv hr
  cases hf : findV v S.bays with
  | some j =>
    rw [RS.mount_some hf] at hr
    simp only [Prod.mk.injEq] at hr
    obtain ⟨rfl, rfl⟩ := hr
    obtain ⟨b, hb, hbv, _⟩ := findV_some hf
    have hjl := (List.getElem?_eq_some_iff.1 hb).1
    have hget : ∀ (k : Nat) (bk : Bay), S.bays[k]? = some bk → ∃ bk' : Bay, (S.bays.modify j fun b => { b with asked := S.asked + 1 })[k]? = some bk' ∧ bk'.vol = bk.vol ∧ bk'.M = bk.M := by
      intro k bk hk
      rw [modify_get hb, List.getElem?_set]
      by_cases hjk : j = k
      · subst hjk
        rw [if_pos rfl, if_pos hjl]
        rw [hb] at hk
        obtain rfl := Option.some.inj hk
        exact ⟨_, rfl, rfl, rfl⟩
      · rw [if_neg hjk]; exact ⟨bk, hk, rfl, rfl⟩
    cases hq : findV u S.bays with
    | some k =>
      obtain ⟨bk, hbk, hbu, _⟩ := findV_some hq
      obtain ⟨bk', h1, h2, h3⟩ := hget k bk hbk
      rw [RS.tape_some hq hbk, RS.tape_at hok' h1 (by rw [h2, hbu]), h3]
    | none =>
      have hno := findV_none hq
      have : findV u (S.bays.modify j fun b => { b with asked := S.asked + 1 }) = none := findV_none_of fun x hx => by
        rw [modify_get hb] at hx
        rcases List.mem_or_eq_of_mem_set hx with hx | rfl
        · exact hno x hx
        · exact hno b (List.mem_of_getElem? hb)
      rw [RS.tape_none hq (List.getElem?_eq_getElem hu), RS.tape_none (S := { S with asked := S.asked + 1, bays := S.bays.modify j fun b => { b with asked := S.asked + 1 } }) this (List.getElem?_eq_getElem hu)]
  | none =>
    have hd := h.drives
    have hil := freeB_lt (l := S.bays) (by omega)
    obtain ⟨i0, hi0⟩ : ∃ i0, freeB S.bays = i0 := ⟨_, rfl⟩
    rw [hi0] at hil
    obtain ⟨b, hb⟩ : ∃ b, S.bays[i0]? = some b := ⟨_, List.getElem?_eq_getElem hil⟩
    obtain ⟨vs, hvs⟩ : ∃ vs, (if b.vol < 0 then S.vols else S.vols.set b.vol.toNat b.M) = vs := ⟨_, rfl⟩
    have hl : vs.length = S.vols.length := by rw [← hvs]; split <;> simp
    obtain ⟨m, hm⟩ : ∃ m, vs[v]? = some m := ⟨_, List.getElem?_eq_getElem (by omega)⟩
    rw [RS.mount_none hf hi0 hb hvs hm] at hr
    simp only [Prod.mk.injEq] at hr
    obtain ⟨rfl, rfl⟩ := hr
    have hno := findV_none hf
    have hbv := (h.bay b (List.mem_of_getElem? hb)).vol
    have hvsne : ∀ k : Nat, (k : Int) ≠ b.vol → vs[k]? = S.vols[k]? := by
      intro k hk
      rw [← hvs]
      split
      · rfl
      · rw [List.getElem?_set, if_neg (by omega)]
    have hset : ∀ (k : Nat) (bk : Bay), (S.bays.set i0 ⟨(v : Int), S.asked + 1, m, 0⟩)[k]? = some bk → k ≠ i0 → S.bays[k]? = some bk := by
      intro k bk hk hne
      rw [List.getElem?_set, if_neg (fun h => hne h.symm)] at hk
      exact hk
    by_cases huv : u = v
    · subst huv
      have hvm : vs[u]? = S.vols[u]? := hvsne u fun h2 => hno b (List.mem_of_getElem? hb) h2.symm
      rw [hm] at hvm
      rw [RS.tape_none hf hvm.symm]
      exact RS.tape_at hok' (j := i0) (b := ⟨(u : Int), S.asked + 1, m, 0⟩) (by show (S.bays.set _ _)[_]? = _; rw [List.getElem?_set, if_pos rfl, if_pos hil]) rfl
    · cases hq : findV u S.bays with
      | some k =>
        obtain ⟨bk, hbk, hbu, _⟩ := findV_some hq
        rw [RS.tape_some hq hbk]
        by_cases hki : k = i0
        · subst hki
          rw [hb] at hbk
          obtain rfl := Option.some.inj hbk
          have hn2 : findV u (S.bays.set k ⟨(v : Int), S.asked + 1, m, 0⟩) = none := findV_no fun j bj hj hbj hju => by
            by_cases hjk : j = k
            · subst hjk
              rw [List.getElem?_set, if_pos rfl, if_pos hil] at hbj
              obtain rfl := Option.some.inj hbj
              exact huv (by have : (v : Int) = u := hju; omega)
            · have hbj' := hset j bj hbj hjk
              exact hjk (h.one j k bj b hbj' hb (by rw [hju, hbu]) (by omega))
          refine RS.tape_none (S := ⟨S.size, vs, S.bays.set k ⟨(v : Int), S.asked + 1, m, 0⟩, S.asked + 1, S.mounts + 1⟩) hn2 ?_
          show vs[u]? = _
          rw [← hvs, if_neg (by omega), show b.vol.toNat = u by omega, List.getElem?_set, if_pos rfl, if_pos hu]
        · exact RS.tape_at hok' (j := k) (b := bk) (by show (S.bays.set _ _)[_]? = _; rw [List.getElem?_set, if_neg (fun h => hki h.symm)]; exact hbk) hbu
      | none =>
        have hnu := findV_none hq
        have hn2 : findV u (S.bays.set i0 ⟨(v : Int), S.asked + 1, m, 0⟩) = none := findV_none_of fun x hx hxu => by
          rcases List.mem_or_eq_of_mem_set hx with hx | rfl
          · exact hnu x hx hxu
          · exact huv (by have : (v : Int) = u := hxu; omega)
        rw [RS.tape_none hq (List.getElem?_eq_getElem hu)]
        refine RS.tape_none (S := ⟨S.size, vs, S.bays.set i0 ⟨(v : Int), S.asked + 1, m, 0⟩, S.asked + 1, S.mounts + 1⟩) hn2 ?_
        show vs[u]? = _
        rw [hvsne u fun h2 => hnu b (List.mem_of_getElem? hb) h2.symm, List.getElem?_eq_getElem hu]
/-- A drive's tape is another one. -/
theorem RS.drive_tape (h : S.ok) {i : Nat} {b : Bay} {v : Nat} {M' : Med} {at' : Int} (hb : S.bays[i]? = some b) (hbv : b.vol = v) (hg : DGood M' at' ∧ M'.cap = S.size) {u : Nat} (hu : u < S.vols.length) : (S.drive i M' at').tape u = if u = v then M' else S.tape u := by
  have hok' := RS.drive_ok h hb hg
  have hil := (List.getElem?_eq_some_iff.1 hb).1
  have e : (S.drive i M' at').bays = S.bays.set i { b with M := M', at_ := at' } := modify_get hb
  by_cases huv : u = v
  · subst huv
    rw [if_pos rfl]
    exact RS.tape_at hok' (j := i) (b := { b with M := M', at_ := at' }) (by rw [e, List.getElem?_set, if_pos rfl, if_pos hil]) hbv
  · rw [if_neg huv]
    cases hq : findV u S.bays with
    | some k =>
      obtain ⟨bk, hbk, hbu, _⟩ := findV_some hq
      rw [RS.tape_some hq hbk]
      have hki : i ≠ k := by
        rintro rfl
        rw [hb] at hbk
        obtain rfl := Option.some.inj hbk
        omega
      exact RS.tape_at hok' (j := k) (b := bk) (by rw [e, List.getElem?_set, if_neg hki]; exact hbk) hbu
    | none =>
      have hnu := findV_none hq
      have hn2 : findV u (S.drive i M' at').bays = none := findV_none_of fun x hx hxu => by
        rw [e] at hx
        rcases List.mem_or_eq_of_mem_set hx with hx | rfl
        · exact hnu x hx hxu
        · exact hnu b (List.mem_of_getElem? hb) hxu
      rw [RS.tape_none hq (List.getElem?_eq_getElem hu)]
      exact RS.tape_none hn2 (List.getElem?_eq_getElem hu)
/-- What a drive holds behind a mount is the volume's tape. -/
theorem RS.mount_bay (h : S.ok) (ha : S.asked < 4000000000000000000) {v i : Nat} (hv : v < S.vols.length) (hr : S.mount v = (S', i)) : ∃ b, S'.bays[i]? = some b ∧ b.vol = v ∧ b.M = S.tape v ∧ DGood b.M b.at_ := by
  obtain ⟨hok', hvl', -, -, -, b, hb, hbv, -⟩ := RS.mount_good h ha hv hr
  refine ⟨b, hb, hbv, ?_, ((hok'.bay b (List.mem_of_getElem? hb)).good (by omega)).1⟩
  rw [← RS.mount_tape h ha hv hr hv, RS.tape_at hok' hb hbv]
theorem RS.mount_new (h : S.ok) {v i : Nat} (hr : S.mount v = (S', i)) : S'.mounts = if (findV v S.bays).isSome then S.mounts else S.mounts + 1 := by
  unfold RS.mount at hr
  cases hf : findV v S.bays with
  | some j => rw [hf] at hr; simp only [Prod.mk.injEq] at hr; rw [← hr.1]; rfl
  | none => rw [hf] at hr; simp only [Prod.mk.injEq] at hr; rw [← hr.1]; rfl
theorem RS.new_tape (vols size drives v : Nat) (hv : v < vols) : (RS.new vols size drives).tape v = ⟨size, []⟩ := by
  have hn : findV v (RS.new vols size drives).bays = none := findV_none_of fun b hb => by
    obtain rfl := List.eq_of_mem_replicate hb
    show (-1 : Int) ≠ v
    omega
  refine RS.tape_none hn ?_
  show (List.replicate vols _)[v]? = _
  rw [List.getElem?_replicate, if_pos hv]
end Go.Proofs.Ytnbpcdnpdcfiiaa

/- RobotHolds, plainly. -/
namespace Go.Proofs.Ytnbpcdnpdcfiiaa
open Go.RowKit

def cell2 (v k : Nat) : CellP := ⟨1, [BitVec.ofNat 8 v, BitVec.ofNat 8 k], false⟩
def tapeOf (v c : Nat) : Med := ⟨100, (List.range c).map (cell2 v)⟩
theorem tapeOf_len (v c : Nat) : (tapeOf v c).cells.length = c := by simp [tapeOf]
theorem tapeOf_marks (v c : Nat) : marks (tapeOf v c).cells = 0 := by
  unfold marks tapeOf
  rw [List.countP_eq_zero]
  intro x hx
  obtain ⟨k, _, rfl⟩ := List.mem_map.1 hx
  show ¬ decide ((1 : Int) = 2) = true
  decide
theorem tapeOf_lay (v c : Nat) : (tapeOf v c).lay c (cell2 v c) = tapeOf v (c + 1) := by
  unfold Med.lay
  have h : (tapeOf v c).cells.take c = (tapeOf v c).cells := List.take_of_length_le (by rw [tapeOf_len]; exact Nat.le_refl _)
  rw [h]
  unfold tapeOf
  rw [List.range_succ, List.map_append]
  rfl
theorem bvs_cell2 (v k : Nat) (hv : v < 256) (hk : k < 256) : bvs [BitVec.ofNat 8 v, BitVec.ofNat 8 k] = [.int .u8 (v : Int), .int .u8 (k : Int)] := by
  simp [bvs, u8v, BitVec.toNat_ofNat, Nat.mod_eq_of_lt hv, Nat.mod_eq_of_lt hk]
structure HoldsP (S : RS) (cnt : List Nat) (nv nd t : Nat) : Prop where
  ok : S.ok
  vols : S.vols.length = nv
  len : cnt.length = nv
  bays : S.bays.length = nd
  size : S.size = 100
  asked : S.asked = (t : Int)
  tape : ∀ v (hv : v < cnt.length), S.tape v = tapeOf v cnt[v]
  le : ∀ v (hv : v < cnt.length), cnt[v] ≤ t
theorem HoldsP.new (nv nd : Nat) (hv : 1 ≤ nv ∧ nv ≤ 8) (hd : 1 ≤ nd ∧ nd ≤ 4) : HoldsP (RS.new nv 100 nd) (List.replicate nv 0) nv nd 0 := by
  refine ⟨rnew_ok nv 100 nd hv (by decide) hd, by simp [RS.new], by simp, by simp [RS.new], rfl, rfl, fun v hv => ?_, fun v hv => ?_⟩
  · rw [List.length_replicate] at hv
    rw [RS.new_tape _ _ _ _ hv, List.getElem_replicate]
    rfl
  · rw [List.getElem_replicate]; exact Nat.zero_le _
/-- One ask. -/
theorem HoldsP.step {S S1 : RS} {cnt : List Nat} {nv nd t v i : Nat} (h : HoldsP S cnt nv nd t) (hv : v < cnt.length) (ht : t < 60) (hr : S.mount v = (S1, i)) :
    (∃ b, S1.bays[i]? = some b ∧ b.vol = v ∧ b.M = tapeOf v cnt[v]) ∧ i < nd ∧ S1.ok ∧ (S1.drive i (tapeOf v cnt[v]) (cnt[v] : Int)).ok ∧ HoldsP ((S1.drive i (tapeOf v cnt[v]) (cnt[v] : Int)).drive i (tapeOf v (cnt[v] + 1)) ((cnt[v] : Int) + 1)) (cnt.set v (cnt[v] + 1)) nv nd (t + 1) := by
  have ha : S.asked < 4000000000000000000 := by rw [h.asked]; omega
  have hvn : v < S.vols.length := by rw [h.vols, ← h.len]; exact hv
  obtain ⟨hok1, hvl, hbl, hask, hsz, -⟩ := RS.mount_good h.ok ha hvn hr
  obtain ⟨b, hb, hbv, hbM, hbg⟩ := RS.mount_bay h.ok ha hvn hr
  have hc := h.le v hv
  have hid : i < nd := by have := (List.getElem?_eq_some_iff.1 hb).1; rw [hbl, h.bays] at this; exact this
  rw [h.tape v hv] at hbM
  have hgood : ∀ c, c ≤ 61 → DGood (tapeOf v c) (c : Int) ∧ (tapeOf v c).cap = S1.size := fun c hc => by
    refine ⟨⟨Med.ok_iff.2 ⟨⟨by show (1 : Int) ≤ 100; omega, by show (100 : Int) ≤ 400; omega, by rw [tapeOf_len]; show (c : Int) ≤ 100; omega⟩, fun x hx => ?_⟩, c, rfl, by rw [tapeOf_len]; exact Nat.le_refl _⟩, by rw [hsz, h.size]; rfl⟩
    obtain ⟨k, _, rfl⟩ := List.mem_map.1 hx
    exact right_blk ⟨by show 1 ≤ 2; omega, by show 2 ≤ 256; omega⟩
  have g1 := hgood cnt[v] (by omega)
  have g2 := hgood (cnt[v] + 1) (by omega)
  rw [show ((cnt[v] + 1 : Nat) : Int) = (cnt[v] : Int) + 1 by omega] at g2
  have hok2 := RS.drive_ok hok1 hb g1
  have hb2 : (S1.drive i (tapeOf v cnt[v]) (cnt[v] : Int)).bays[i]? = some { b with M := tapeOf v cnt[v], at_ := (cnt[v] : Int) } := by
    show (S1.bays.modify i _)[i]? = _
    rw [modify_get hb, List.getElem?_set, if_pos rfl, if_pos (List.getElem?_eq_some_iff.1 hb).1]
  have g2' : DGood (tapeOf v (cnt[v] + 1)) ((cnt[v] : Int) + 1) ∧ (tapeOf v (cnt[v] + 1)).cap = (S1.drive i (tapeOf v cnt[v]) (cnt[v] : Int)).size := g2
  have hok3 := RS.drive_ok hok2 hb2 g2'
  refine ⟨⟨b, hb, hbv, hbM⟩, hid, hok1, hok2, ⟨hok3, ?_, by rw [List.length_set]; exact h.len, ?_, hsz.trans h.size, ?_, fun u hu => ?_, fun u hu => ?_⟩⟩
  · show S1.vols.length = nv
    rw [hvl, h.vols]
  · show ((S1.bays.modify i _).modify i _).length = nd
    rw [List.length_modify, List.length_modify, hbl, h.bays]
  · show S1.asked = _
    rw [hask, h.asked]; omega
  · rw [List.length_set] at hu
    have hu1 : u < S1.vols.length := by rw [hvl, h.vols, ← h.len]; exact hu
    rw [RS.drive_tape hok2 hb2 hbv g2' hu1, RS.drive_tape hok1 hb hbv g1 hu1, RS.mount_tape h.ok ha hvn hr (by rw [h.vols, ← h.len]; exact hu)]
    simp only [List.getElem_set]
    by_cases huv : u = v
    · subst huv; rw [if_pos rfl, if_pos rfl]
    · rw [if_neg huv, if_neg huv, if_neg (fun h => huv h.symm), h.tape u hu]
  · rw [List.length_set] at hu
    simp only [List.getElem_set]
    have := h.le u hu
    split
    · omega
    · omega
def snI (i k : Nat) : Int := if i < k then 1 else 0
theorem snI_no {i k : Nat} (h : k ≤ i) : snI i k = 0 := if_neg (by omega)
theorem snI_yes {i k : Nat} (h : i < k) : snI i k = 1 := if_pos h
def inUpto (l : List Bay) (v : Int) (k : Nat) : Bool := (l.take k).any fun b => b.vol == v
theorem inUpto_succ {l : List Bay} {v : Int} {k : Nat} (hk : k < l.length) : inUpto l v (k + 1) = (inUpto l v k || (l[k].vol == v)) := by
  unfold inUpto
  rw [List.take_succ_eq_append_getElem hk, List.any_append]
  simp
theorem inUpto_all (l : List Bay) (v : Int) : inUpto l v l.length = (findV v l).isSome := by
  unfold inUpto findV
  rw [List.take_length, List.findIdx?_isSome]
theorem ivs_set (l : List Int) (i : Nat) (z : Int) : (ivs l).set i (.int .i64 z) = ivs (l.set i z) := by simp [ivs, List.map_set]
def cnti (l : List Nat) : List Int := l.map fun (n : Nat) => (n : Int)
theorem cnti_set (l : List Nat) (i n : Nat) : (cnti l).set i (n : Int) = cnti (l.set i n) := by simp [cnti, List.map_set]
theorem own_int_at {w : World} {B : Nat} {L n c : Nat} {l : List Nat} (h : Own w B 3 1 (some ⟨L, 0, none⟩) n c (ivs (cnti l))) {v : Nat} (hv : v < l.length) : w.cell? ⟨L, v, none⟩ = some (.int .i64 (l[v] : Int)) ∧ w.frozen? ⟨L, v, none⟩ = false ∧ B ≤ L ∧ L < w.heap.size ∧ ∃ cur, w.heap[L]? = some (.cells cur 3 (0, 0)) := by
  have hn : v < n := by have := h.1; simp [ivs, cnti] at this; omega
  obtain ⟨g, ha, hB, hlt, hat, hf⟩ := h.at hn
  simp only [Option.some.injEq, Addr.mk.injEq, and_true] at ha
  subst ha
  refine ⟨?_, hf v, hB, hlt, (h.blk (by omega)).2.2⟩
  rw [hat v (by simpa [ivs, cnti] using hv)]
  simp [ivs, cnti]
theorem drive_vols (S : RS) (i : Nat) (M : Med) (a : Int) : (S.drive i M a).bays.map Bay.vol = S.bays.map Bay.vol := by
  show (S.bays.modify i _).map Bay.vol = _
  apply List.ext_getElem?
  intro j
  rw [List.getElem?_map, List.getElem?_modify, List.getElem?_map]
  cases S.bays[j]? with
  | none => rfl
  | some b =>
    by_cases hij : i = j
    · simp [hij]
    · simp [hij]
theorem drive2_vols (S : RS) (i : Nat) (M : Med) (a : Int) (M' : Med) (a' : Int) : ((S.drive i M a).drive i M' a').bays.map Bay.vol = S.bays.map Bay.vol := (drive_vols _ _ _ _).trans (drive_vols _ _ _ _)
end Go.Proofs.Ytnbpcdnpdcfiiaa
