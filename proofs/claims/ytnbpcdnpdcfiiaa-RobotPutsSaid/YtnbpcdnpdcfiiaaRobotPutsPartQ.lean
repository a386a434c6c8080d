/- Several texts of this claim, one behind the other: RobHoldsP, RobPutsP. -/
import Derived.Test.YtnbpcdnpdcfiiaaRobotPutsPartP
import Derived.Test.YtnbpcdnpdcfiiaaRobotPutsPartF
import Derived.Test.YtnbpcdnpdcfiiaaRobPut
/- RobotHolds, plainly. -/
namespace Go.Proofs.Ytnbpcdnpdcfiiaa
open Go.RowKit

def cell2 (v k : Nat) : CellP := ⟨1, [BitVec.ofNat 8 v, BitVec.ofNat 8 k], false⟩
def tapeOf (v c : Nat) : Med := ⟨100, (List.range c).map (cell2 v)⟩
theorem tapeOf_len (v c : Nat) : (tapeOf v c).cells.length = c := by simp [tapeOf]
theorem tapeOf_marks (v c : Nat) : marks (tapeOf v c).cells = 0 := by
  unfold marks tapeOf
  rw [List.countP_eq_zero]
  intro x hx
  obtain ⟨k, _, rfl⟩ := List.mem_map.1 hx
  show ¬ decide ((1 : Int) = 2) = true
  decide
theorem tapeOf_lay (v c : Nat) : (tapeOf v c).lay c (cell2 v c) = tapeOf v (c + 1) := by
  unfold Med.lay
  have h : (tapeOf v c).cells.take c = (tapeOf v c).cells := List.take_of_length_le (by rw [tapeOf_len]; exact Nat.le_refl _)
  rw [h]
  unfold tapeOf
  rw [List.range_succ, List.map_append]
  rfl
theorem bvs_cell2 (v k : Nat) (hv : v < 256) (hk : k < 256) : bvs [BitVec.ofNat 8 v, BitVec.ofNat 8 k] = [.int .u8 (v : Int), .int .u8 (k : Int)] := by
  simp [bvs, u8v, BitVec.toNat_ofNat, Nat.mod_eq_of_lt hv, Nat.mod_eq_of_lt hk]
structure HoldsP (S : RS) (cnt : List Nat) (nv nd t : Nat) : Prop where
  ok : S.ok
  vols : S.vols.length = nv
  len : cnt.length = nv
  bays : S.bays.length = nd
  size : S.size = 100
  asked : S.asked = (t : Int)
  tape : ∀ v (hv : v < cnt.length), S.tape v = tapeOf v cnt[v]
  le : ∀ v (hv : v < cnt.length), cnt[v] ≤ t
theorem HoldsP.new (nv nd : Nat) (hv : 1 ≤ nv ∧ nv ≤ 8) (hd : 1 ≤ nd ∧ nd ≤ 4) : HoldsP (RS.new nv 100 nd) (List.replicate nv 0) nv nd 0 := by
  refine ⟨rnew_ok nv 100 nd hv (by decide) hd, by simp [RS.new], by simp, by simp [RS.new], rfl, rfl, fun v hv => ?_, fun v hv => ?_⟩
  · rw [List.length_replicate] at hv
    rw [RS.new_tape _ _ _ _ hv, List.getElem_replicate]
    rfl
  · rw [List.getElem_replicate]; exact Nat.zero_le _
/-- One ask. -/
theorem HoldsP.step {S S1 : RS} {cnt : List Nat} {nv nd t v i : Nat} (h : HoldsP S cnt nv nd t) (hv : v < cnt.length) (ht : t < 60) (hr : S.mount v = (S1, i)) :
    (∃ b, S1.bays[i]? = some b ∧ b.vol = v ∧ b.M = tapeOf v cnt[v]) ∧ i < nd ∧ S1.ok ∧ (S1.drive i (tapeOf v cnt[v]) (cnt[v] : Int)).ok ∧ HoldsP ((S1.drive i (tapeOf v cnt[v]) (cnt[v] : Int)).drive i (tapeOf v (cnt[v] + 1)) ((cnt[v] : Int) + 1)) (cnt.set v (cnt[v] + 1)) nv nd (t + 1) := by
  have ha : S.asked < 4000000000000000000 := by rw [h.asked]; omega
  have hvn : v < S.vols.length := by rw [h.vols, ← h.len]; exact hv
  obtain ⟨hok1, hvl, hbl, hask, hsz, -⟩ := RS.mount_good h.ok ha hvn hr
  obtain ⟨b, hb, hbv, hbM, hbg⟩ := RS.mount_bay h.ok ha hvn hr
  have hc := h.le v hv
  have hid : i < nd := by have := (List.getElem?_eq_some_iff.1 hb).1; rw [hbl, h.bays] at this; exact this
  rw [h.tape v hv] at hbM
  have hgood : ∀ c, c ≤ 61 → DGood (tapeOf v c) (c : Int) ∧ (tapeOf v c).cap = S1.size := fun c hc => by
    refine ⟨⟨Med.ok_iff.2 ⟨⟨by show (1 : Int) ≤ 100; omega, by show (100 : Int) ≤ 400; omega, by rw [tapeOf_len]; show (c : Int) ≤ 100; omega⟩, fun x hx => ?_⟩, c, rfl, by rw [tapeOf_len]; exact Nat.le_refl _⟩, by rw [hsz, h.size]; rfl⟩
    obtain ⟨k, _, rfl⟩ := List.mem_map.1 hx
    exact right_blk ⟨by show 1 ≤ 2; omega, by show 2 ≤ 256; omega⟩
  have g1 := hgood cnt[v] (by omega)
  have g2 := hgood (cnt[v] + 1) (by omega)
  rw [show ((cnt[v] + 1 : Nat) : Int) = (cnt[v] : Int) + 1 by omega] at g2
  have hok2 := RS.drive_ok hok1 hb g1
  have hb2 : (S1.drive i (tapeOf v cnt[v]) (cnt[v] : Int)).bays[i]? = some { b with M := tapeOf v cnt[v], at_ := (cnt[v] : Int) } := by
    show (S1.bays.modify i _)[i]? = _
    rw [modify_get hb, List.getElem?_set, if_pos rfl, if_pos (List.getElem?_eq_some_iff.1 hb).1]
  have g2' : DGood (tapeOf v (cnt[v] + 1)) ((cnt[v] : Int) + 1) ∧ (tapeOf v (cnt[v] + 1)).cap = (S1.drive i (tapeOf v cnt[v]) (cnt[v] : Int)).size := g2
  have hok3 := RS.drive_ok hok2 hb2 g2'
  refine ⟨⟨b, hb, hbv, hbM⟩, hid, hok1, hok2, ⟨hok3, ?_, by rw [List.length_set]; exact h.len, ?_, hsz.trans h.size, ?_, fun u hu => ?_, fun u hu => ?_⟩⟩
  · show S1.vols.length = nv
    rw [hvl, h.vols]
  · show ((S1.bays.modify i _).modify i _).length = nd
    rw [List.length_modify, List.length_modify, hbl, h.bays]
  · show S1.asked = _
    rw [hask, h.asked]; omega
  · rw [List.length_set] at hu
    have hu1 : u < S1.vols.length := by rw [hvl, h.vols, ← h.len]; exact hu
    rw [RS.drive_tape hok2 hb2 hbv g2' hu1, RS.drive_tape hok1 hb hbv g1 hu1, RS.mount_tape h.ok ha hvn hr (by rw [h.vols, ← h.len]; exact hu)]
    simp only [List.getElem_set]
    by_cases huv : u = v
    · subst huv; rw [if_pos rfl, if_pos rfl]
    · rw [if_neg huv, if_neg huv, if_neg (fun h => huv h.symm), h.tape u hu]
  · rw [List.length_set] at hu
    simp only [List.getElem_set]
    have := h.le u hu
    split
    · omega
    · omega
def snI (i k : Nat) : Int := if i < k then 1 else 0
theorem snI_no {i k : Nat} (h : k ≤ i) : snI i k = 0 := if_neg (by omega)
theorem snI_yes {i k : Nat} (h : i < k) : snI i k = 1 := if_pos h
def inUpto (l : List Bay) (v : Int) (k : Nat) : Bool := (l.take k).any fun b => b.vol == v
theorem inUpto_succ {l : List Bay} {v : Int} {k : Nat} (hk : k < l.length) : inUpto l v (k + 1) = (inUpto l v k || (l[k].vol == v)) := by
  unfold inUpto
  rw [List.take_succ_eq_append_getElem hk, List.any_append]
  simp
theorem inUpto_all (l : List Bay) (v : Int) : inUpto l v l.length = (findV v l).isSome := by
  unfold inUpto findV
  rw [List.take_length, List.findIdx?_isSome]
theorem ivs_set (l : List Int) (i : Nat) (z : Int) : (ivs l).set i (.int .i64 z) = ivs (l.set i z) := by simp [ivs, List.map_set]
def cnti (l : List Nat) : List Int := l.map fun (n : Nat) => (n : Int)
theorem cnti_set (l : List Nat) (i n : Nat) : (cnti l).set i (n : Int) = cnti (l.set i n) := by simp [cnti, List.map_set]
theorem own_int_at {w : World} {B : Nat} {L n c : Nat} {l : List Nat} (h : Own w B 3 1 (some ⟨L, 0, none⟩) n c (ivs (cnti l))) {v : Nat} (hv : v < l.length) : w.cell? ⟨L, v, none⟩ = some (.int .i64 (l[v] : Int)) ∧ w.frozen? ⟨L, v, none⟩ = false ∧ B ≤ L ∧ L < w.heap.size ∧ ∃ cur, w.heap[L]? = some (.cells cur 3 (0, 0)) := by
  have hn : v < n := by have := h.1; simp [ivs, cnti] at this; omega
  obtain ⟨g, ha, hB, hlt, hat, hf⟩ := h.at hn
  simp only [Option.some.injEq, Addr.mk.injEq, and_true] at ha
  subst ha
  refine ⟨?_, hf v, hB, hlt, (h.blk (by omega)).2.2⟩
  rw [hat v (by simpa [ivs, cnti] using hv)]
  simp [ivs, cnti]
theorem drive_vols (S : RS) (i : Nat) (M : Med) (a : Int) : (S.drive i M a).bays.map Bay.vol = S.bays.map Bay.vol := by
  show (S.bays.modify i _).map Bay.vol = _
  apply List.ext_getElem?
  intro j
  rw [List.getElem?_map, List.getElem?_modify, List.getElem?_map]
  cases S.bays[j]? with
  | none => rfl
  | some b =>
    by_cases hij : i = j
    · simp [hij]
    · simp [hij]
theorem drive2_vols (S : RS) (i : Nat) (M : Med) (a : Int) (M' : Med) (a' : Int) : ((S.drive i M a).drive i M' a').bays.map Bay.vol = S.bays.map Bay.vol := (drive_vols _ _ _ _).trans (drive_vols _ _ _ _)
end Go.Proofs.Ytnbpcdnpdcfiiaa

/- RobotPuts, plainly. -/
namespace Go.Proofs.Ytnbpcdnpdcfiiaa
open Go.RowKit

def one1 (cap : Int) (v : Nat) : Med := ⟨cap, [⟨1, [BitVec.ofNat 8 v], false⟩]⟩
structure PutsP (S : RS) (cap : Int) (nv t : Nat) (T : Nat → Med) : Prop where
  ok : S.ok
  vols : S.vols.length = nv
  bays : S.bays.length = 2
  size : S.size = cap
  asked : S.asked = (t : Int)
  tape : ∀ v, v < nv → S.tape v = T v
theorem PutsP.new {cap : Int} (hc : 1 ≤ cap ∧ cap ≤ 400) (nv : Nat) (hv : 1 ≤ nv ∧ nv ≤ 8) : PutsP (RS.new nv cap.toNat 2) cap nv 0 (fun v => if v < 0 then one1 cap v else ⟨cap, []⟩) := by
  have hcc : ((cap.toNat : Nat) : Int) = cap := by omega
  refine ⟨rnew_ok nv cap.toNat 2 hv (by omega) (by decide), by simp [RS.new], by simp [RS.new], hcc, rfl, fun v hv => ?_⟩
  rw [RS.new_tape _ _ _ _ hv, if_neg (by omega), hcc]
theorem one1_good {cap : Int} (hc : 1 ≤ cap ∧ cap ≤ 400) (v : Nat) : DGood (one1 cap v) 1 :=
  ⟨Med.ok_iff.2 ⟨⟨hc.1, hc.2, by show (1 : Int) ≤ cap; omega⟩, fun x hx => by
    obtain rfl := List.mem_singleton.1 hx
    exact right_blk ⟨by show 1 ≤ 1; omega, by show 1 ≤ 256; omega⟩⟩, 1, rfl, Nat.le_refl _⟩
/-- A volume is mounted and written. -/
theorem PutsP.step {S S1 : RS} {cap : Int} {nv v i : Nat} (hc : 1 ≤ cap ∧ cap ≤ 400) (h : PutsP S cap nv v (fun u => if u < v then one1 cap u else ⟨cap, []⟩)) (hv : v < nv) (ht : v < 60) (hr : S.mount v = (S1, i)) :
    (∃ b, S1.bays[i]? = some b ∧ b.vol = v ∧ b.M = ⟨cap, []⟩ ∧ b.at_ = 0) ∧ S1.ok ∧ S1.size = cap ∧ PutsP (S1.drive i (one1 cap v) 1) cap nv (v + 1) (fun u => if u < v + 1 then one1 cap u else ⟨cap, []⟩) := by
  have ha : S.asked < 4000000000000000000 := by rw [h.asked]; omega
  have hvn : v < S.vols.length := by rw [h.vols]; exact hv
  obtain ⟨hok1, hvl, hbl, hask, hsz, -⟩ := RS.mount_good h.ok ha hvn hr
  obtain ⟨b, hb, hbv, hbM, hbg⟩ := RS.mount_bay h.ok ha hvn hr
  rw [h.tape v hv, if_neg (by omega)] at hbM
  have hat : b.at_ = 0 := by
    obtain ⟨p, hp, hpl⟩ := hbg.pos
    rw [hbM] at hpl
    have : p = 0 := Nat.le_zero.1 hpl
    rw [hp, this]; rfl
  have g1 : DGood (one1 cap v) 1 ∧ (one1 cap v).cap = S1.size := ⟨one1_good hc v, by rw [hsz, h.size]; rfl⟩
  refine ⟨⟨b, hb, hbv, hbM, hat⟩, hok1, hsz.trans h.size, ⟨RS.drive_ok hok1 hb g1, hvl.trans h.vols, ?_, hsz.trans h.size, ?_, fun u hu => ?_⟩⟩
  · show (S1.bays.modify i _).length = 2
    rw [List.length_modify, hbl, h.bays]
  · show S1.asked = _
    rw [hask, h.asked]; omega
  · rw [RS.drive_tape hok1 hb hbv g1 (by rw [hvl, h.vols]; exact hu), RS.mount_tape h.ok ha hvn hr (by rw [h.vols]; exact hu), h.tape u hu]
    by_cases huv : u = v
    · subst huv; rw [if_pos rfl]; exact (if_pos (by omega)).symm
    · rw [if_neg huv]
      by_cases hlt : u < v
      · rw [if_pos hlt, if_pos (by omega)]
      · rw [if_neg hlt, if_neg (by omega)]
/-- A volume is mounted. -/
theorem PutsP.mount {S S1 : RS} {cap : Int} {nv t v i : Nat} {T : Nat → Med} (h : PutsP S cap nv t T) (hv : v < nv) (ht : t < 60) (hr : S.mount v = (S1, i)) : PutsP S1 cap nv (t + 1) T := by
  have ha : S.asked < 4000000000000000000 := by rw [h.asked]; omega
  have hvn : v < S.vols.length := by rw [h.vols]; exact hv
  obtain ⟨hok1, hvl, hbl, hask, hsz, -⟩ := RS.mount_good h.ok ha hvn hr
  exact ⟨hok1, hvl.trans h.vols, hbl.trans h.bays, hsz.trans h.size, by rw [hask, h.asked]; omega, fun u hu => by rw [RS.mount_tape h.ok ha hvn hr (by rw [h.vols]; exact hu), h.tape u hu]⟩
theorem PutsP.put {S : RS} {cap : Int} {nv t v : Nat} {T : Nat → Med} {m : Med} (h : PutsP S cap nv t T) (hv : v < nv) (hm : m.ok = true ∧ m.cap = cap) : PutsP (S.put v m) cap nv t (fun u => if u = v then m else T u) := by
  obtain ⟨h1, h2, h3, h4, h5, h6⟩ := RS.put_vols (S := S) v m
  have hm' : m.ok = true ∧ m.cap = S.size := ⟨hm.1, by rw [h.size]; exact hm.2⟩
  exact ⟨RS.put_ok h.ok hm', h1.trans h.vols, h2.trans h.bays, h3.trans h.size, h4.trans h.asked, fun u hu => by rw [RS.put_tape h.ok hm' (by rw [h.vols]; exact hv) (by rw [h.vols]; exact hu), h.tape u hu]⟩
/-- Behind a Put a drive stands at the tape's beginning. -/
theorem put_mount_at {S S1 : RS} {v i : Nat} {m : Med} (h : S.ok) (hv : v < S.vols.length) (hm : m.ok = true ∧ m.cap = S.size) (ha : S.asked < 4000000000000000000) (hr : (S.put v m).mount v = (S1, i)) : ∃ b, S1.bays[i]? = some b ∧ b.vol = v ∧ b.at_ = 0 := by
  cases hf : findV v S.bays with
  | some j =>
    rw [RS.put_some hf] at hr
    obtain ⟨b, hb, hbv, _⟩ := findV_some hf
    have hg : DGood m 0 ∧ m.cap = S.size := ⟨⟨hm.1, 0, rfl, Nat.zero_le _⟩, hm.2⟩
    have hok := RS.drive_ok h hb hg
    have hil := (List.getElem?_eq_some_iff.1 hb).1
    have hb2 : (S.drive j m 0).bays[j]? = some { b with M := m, at_ := 0 } := by
      show (S.bays.modify j _)[j]? = _
      rw [modify_get hb, List.getElem?_set, if_pos rfl, if_pos hil]
    have hf2 := findV_at hok (u := (v : Int)) (by omega) hb2 hbv
    rw [RS.mount_some hf2] at hr
    simp only [Prod.mk.injEq] at hr
    obtain ⟨rfl, rfl⟩ := hr
    refine ⟨{ b with M := m, at_ := 0, asked := S.asked + 1 }, ?_, hbv, rfl⟩
    show ((S.drive j m 0).bays.modify j _)[j]? = _
    rw [modify_get hb2, List.getElem?_set, if_pos rfl, if_pos (List.getElem?_eq_some_iff.1 hb2).1]
    rfl
  | none =>
    rw [RS.put_none hf] at hr
    have hd := h.drives
    have hil := freeB_lt (l := S.bays) (by omega)
    obtain ⟨b, hb⟩ : ∃ b, S.bays[freeB S.bays]? = some b := ⟨_, List.getElem?_eq_getElem hil⟩
    obtain ⟨vs, hvs⟩ : ∃ vs, (if b.vol < 0 then S.vols.set v m else (S.vols.set v m).set b.vol.toNat b.M) = vs := ⟨_, rfl⟩
    have hl : vs.length = S.vols.length := by rw [← hvs]; split <;> simp
    obtain ⟨m', hm'⟩ : ∃ m, vs[v]? = some m := ⟨_, List.getElem?_eq_getElem (by omega)⟩
    rw [RS.mount_none (S := { S with vols := S.vols.set v m }) hf rfl hb hvs hm'] at hr
    simp only [Prod.mk.injEq] at hr
    obtain ⟨rfl, rfl⟩ := hr
    refine ⟨⟨v, S.asked + 1, m', 0⟩, ?_, rfl, rfl⟩
    show (S.bays.set _ _)[_]? = _
    rw [List.getElem?_set, if_pos rfl, if_pos hil]
/-- Where a drive of the robot's stands. -/
theorem rob_place {B : Nat} {K : Nat → Prop} {w : World} {r g : Nat} {S : RS} {D : Nat → Nat} {s : PS} {i d : Nat} {b : Bay} {p : Int} (h : RobP B K w r g S D s) (hi : S.bays[i]? = some b) (hv : 0 ≤ b.vol) (hd : d = D i) (hp : b.at_ = p) :
    Calls Try.prog 38 #[.pointer (some ⟨d, 0, none⟩)] w fun e w' => e = .returned (.int .i64 p) ∧ w = w' := by
  subst hd; subst hp
  obtain ⟨⟨V, h1, h2⟩, h3, h4⟩ := h
  obtain ⟨x, hx, rfl⟩ := h1.bget hi
  obtain ⟨a, k, c, cs, hdr⟩ := h1.drv i x hx hv
  rw [h2 i x hx hv] at hdr
  exact drv_place w hdr
end Go.Proofs.Ytnbpcdnpdcfiiaa
