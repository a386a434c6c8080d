/- The walk of DriveOver. -/
import Derived.Test.YtilmldkaagbofaaDrvWakes
import Derived.Test.YtilmldkaagbofaaTapeO
import Derived.Test.YtilmldkaagbofaaMedOps
import Derived.Test.YtilmldkaagbofaaMedLaw
namespace Go.Proofs.Ytilmldkaagbofaa
open Go.RowKit

theorem locate_zero {m : Med} (h : marks m.cells = 0) {p : Nat} (hp : p ≤ m.cells.length) (q : Int) : m.locate 0 (p : Int) q = (0, (p : Int)) := by
  have hb : m.behind 0 = (0, 0) := by unfold Med.behind; rw [if_pos rfl]
  have hn : ((m.cells.drop 0).take p).any isMark = false := by
    rw [List.drop_zero, Bool.eq_false_iff]
    intro hc
    rw [List.any_eq_true] at hc
    obtain ⟨y, hy, hm⟩ := hc
    unfold marks at h
    rw [List.countP_eq_zero] at h
    exact h y (List.mem_of_mem_take hy) hm
  unfold Med.locate
  rw [if_neg (by omega), hb, if_neg (by simp; omega)]
  show (if ((m.cells.drop (0 : Int).toNat).take (p : Int).toNat).any isMark = true then (8, q) else (0, 0 + (p : Int))) = _
  rw [Int.toNat_natCast, show (0 : Int).toNat = 0 from rfl, hn]
  simp
theorem dvWrite_full {m : Med} {p : Nat} (hp : p ≤ m.cells.length) (hc : (p : Int) = m.cap) {b : List Byte} (hb : 1 ≤ b.length ∧ b.length ≤ 256) : dvWrite PS.new m p b = (7, PS.new, m, (p : Int)) := by
  unfold dvWrite
  rw [if_neg (by decide), wrong_full hp hc _ _ (fun _ => hb), if_pos (by decide)]
theorem dvWrite_ok {m : Med} {p : Nat} (hp : p ≤ m.cells.length) (hc : (p : Int) < m.cap) {b : List Byte} (hb : 1 ≤ b.length ∧ b.length ≤ 256) : dvWrite PS.new m p b = (0, PS.new, m.lay p ⟨1, b, false⟩, (p : Int) + 1) := by
  unfold dvWrite
  rw [if_neg (by decide), wrong_zero hp hc _ _ (fun _ => hb), if_neg (by decide)]
  rfl

set_option maxRecDepth 100000 in
set_option maxHeartbeats 16000000 in
theorem driveOver_walk (w : World) (cap : Int) (a : Option Addr) (c : Nat) (cs : List CellV) (hs : CMat w a cs) (hl : cs.length ≤ 9223372036854775807) (hlc : cs.length ≤ c) (pI : Int) (wp : (Lit.int .i64 pI).wf = true) (ab : Option Addr) (cb : Nat) (lb : List Byte) (hsb : Src w ab (bvs lb)) (hlb : lb.length ≤ 9223372036854775807) (klb : lb.length ≤ cb) :
    Calls Try.prog 4 #[.agg #[.int .i64 cap, .slice a cs.length c], .int .i64 pI, .slice ab lb.length cb] w fun e w' => e = .returned (.bool true) ∧ Below w.heap.size w w' := by
  have Hs := Lib.hid hs
  obtain ⟨n, hn⟩ : ∃ n, n = cs.length := ⟨_, rfl⟩
  obtain ⟨bn, hbn⟩ : ∃ n, n = lb.length := ⟨_, rfl⟩
  rw [← hn, ← hbn]
  have Hn := Lib.hid hn
  have Hbn := Lib.hid hbn
  have Hcb : Hid (bn ≤ cb) := Lib.hid (by omega)
  have hn2 : n ≤ 9223372036854775807 := by omega
  have hbn2 : bn ≤ 9223372036854775807 := by omega
  have hb1 := ext_alloc w (.cells #[.int .i64 cap, .slice a n c] 32)
  have hT : TapeAt (w.alloc (.cells #[.int .i64 cap, .slice a n c] 32)) w.heap.size ⟨cap, pls cs⟩ a n c cs := ⟨heap_alloc_new w _, hs.ext hb1, hn, rfl, by omega⟩
  have Hb0 := Lib.hid hsb
  clear hs hl hn hlc wp hsb hlb klb hbn
  go_enter Try.func4, Try.ntmps4
  go_wp2_with fail
  refine (heavy07 cap a c n cs _ hT.mat Hn.out hn2).mono ?_
  rintro e w2 (⟨rfl, hb2⟩ | ⟨rfl, hb2, hlight⟩)
  · go_wp2
    go_ret
    exact ⟨rfl, bthen hb1 hb2 (Nat.le_refl _)⟩
  have HB := Lib.hid (bthen hb1 hb2 (Nat.le_refl _))
  have T := Lib.hid (hT.ext hb2)
  have Hli := Lib.hid hlight
  clear hT hb1 hb2 hlight
  obtain ⟨d0, d1⟩ := T.out.box.cells
  dsimp only at d0 d1
  go_wp2_with fail
  clear d0 d1
  refine (refmed_any cap a c n cs (medOf cap cs).ok w2 T.out.mat Hn.out hn2 rfl).mono ?_
  rintro e w3 ⟨rfl, hb⟩
  have HB' := Lib.hid (bthen HB.out hb (Nat.le_refl _))
  have T' := Lib.hid (T.out.ext hb)
  clear hb HB T
  have HB := HB'
  have T := T'
  clear HB' T'
  cases hok : (medOf cap cs).ok with
  | false =>
    go_wp2
    go_ret
    exact ⟨rfl, HB.out⟩
  | true =>
  by_cases c1 : bn < 1
  · have c1' : (bn : Int) < 1 := by omega
    go_wp2
    go_ret
    exact ⟨rfl, HB.out⟩
  by_cases c2 : 256 < bn
  · have c1' : ¬ (bn : Int) < 1 := by omega
    have c2' : (256 : Int) < (bn : Int) := by omega
    go_wp2
    go_ret
    exact ⟨rfl, HB.out⟩
  have c1' : ¬ (bn : Int) < 1 := by omega
  have c2' : ¬ (256 : Int) < (bn : Int) := by omega
  have hnn : n ≤ 80 := by rw [Hn.out]; exact Hli.out.1
  have Hx : Hid (∀ x ∈ cs, x.d.l.length ≤ 140737488355328) := Lib.hid fun x hx => by have := Hli.out.2 x hx; omega
  have Hml : Hid ((medOf cap cs).cells.length = n) := Lib.hid (by rw [Hn.out]; exact pls_length cs)
  have Hok := Lib.hid hok
  have Hbl : Hid (1 ≤ lb.length ∧ lb.length ≤ 256) := Lib.hid (by rw [← Hbn.out]; omega)
  have hcp : (n : Int) ≤ cap := by
    have := (Med.ok_iff.1 hok).1.2.2
    rwa [Hml.out] at this
  obtain ⟨d0, d1⟩ := T.out.box.cells
  dsimp only at d0 d1
  go_wp2_with fail
  clear d0 d1
  refine (files_any cap a c n cs (marks (pls cs) : Int) w3 T.out.mat Hn.out hn2 (Med.files_ok Hok.out)).mono ?_
  rintro e w4 ⟨rfl, hb⟩
  clear hok
  have HB' := Lib.hid (bthen HB.out hb (Nat.le_refl _))
  have T' := Lib.hid (T.out.ext hb)
  clear hb HB T
  have HB := HB'
  have T := T'
  clear HB' T'
  by_cases hmk : 0 < marks (pls cs)
  · go_wp2
    go_ret
    exact ⟨rfl, HB.out⟩
  have hmk0 : marks (pls cs) = 0 := by omega
  have Hmk := Lib.hid hmk0
  have T0 := T
  have HS0 := Lib.hid (Hb0.out.ext HB.out)
  clear hmk0
  go_wp2_with fail
  refine (power_new w4).mono ?_
  rintro e w5 ⟨g, rfl, hp5, hb5⟩
  have HP := Lib.hid hp5
  have HBv := Lib.hid hb5
  have T := Lib.hid (T0.out.ext hb5)
  clear hp5 hb5 hmk
  obtain ⟨d0, d1⟩ := T.out.box.cells
  dsimp only at d0 d1
  go_wp2_with fail
  clear d0 d1
  refine (drv_new (g := g) cap a c n cs w5 T.out.mat Hn.out (by omega) Hx.out Hok.out).mono ?_
  rintro e w6 ⟨d, a6, c6, cs6, rfl, h6, hb6⟩
  have HD : Hid (DrvP w4.heap.size w6 d g ⟨cap, pls cs⟩ 0 PS.new) := Lib.hid ⟨⟨_, _, _, _, h6.mono HBv.out.size⟩, HP.out.ext hb6⟩
  have HBv' := Lib.hid (bthen HBv.out hb6 (Nat.le_refl _))
  have T' := Lib.hid (T.out.ext hb6)
  clear h6 hb6 HP HBv T
  have HBv := HBv'
  have T := T'
  clear HBv' T'
  obtain ⟨p, hp, ep⟩ := umod pI ((n : Int) + 1) (by omega) (by omega)
  have hpn : p ≤ n := by omega
  obtain ⟨d0, d1⟩ := T.out.box.cells
  dsimp only at d0 d1
  clear hp
  go_wp2_with fail
  try rw [ep]
  clear ep d0 d1
  have hpm : p ≤ (Med.mk cap (pls cs)).cells.length := by show p ≤ (medOf cap cs).cells.length; rw [Hml.out]; exact hpn
  refine (drv_locate 0 (p : Int) 0 (p : Int) PS.new w6 HD.out (by show (medOf cap cs).cells.length ≤ _; rw [Hml.out]; omega) (by decide) (by omega) (by rw [if_neg (by decide)]; exact locate_zero Hmk.out hpm 0)).mono ?_
  rintro e w7 ⟨rfl, hd7, hm7⟩
  have HD7 := Lib.hid hd7
  have HBv7 := Lib.hid (HBv.out.trans (hm7.below (fun b T h => h.1) HBv.out.size))
  clear hd7 hm7 HD HBv T
  go_wp2_with fail
  have hsv : ∀ w', Mod (VF w4.heap.size) w7 w' → Src w' ab (bvs lb) := fun w' hm => HS0.out.ext (HBv7.out.trans (hm.below (fun b T h => h.1) HBv7.out.size))
  have Hsv := Lib.hid hsv
  have Hpm := Lib.hid hpm
  clear hsv hpm
  by_cases hpc : (p : Int) = cap
  · have hpc' : ((p : Int) == cap) = true := by simpa using hpc
    have Hpc := Lib.hid hpc
    clear hpc
    refine (drv_write p ab bn cb lb PS.new PS.new 7 ⟨cap, pls cs⟩ (p : Int) w7 HD7.out HBv7.out.size Hpm.out (by show (medOf cap cs).cells.length ≤ _; rw [Hml.out]; omega) Hsv.out Hbn.out (by omega) Hcb.out (dvWrite_full Hpm.out Hpc.out Hbl.out)).mono ?_
    rintro e w8 ⟨rfl, hd8, hm8⟩
    have HD8 := Lib.hid hd8
    have HBv8 := Lib.hid (HBv7.out.trans (hm8.below (fun b T h => h.1) HBv7.out.size))
    clear hd8 hm8 HD7 HBv7
    go_wp2_with fail
    refine (drv_mediumP w8 HD8.out (by show (medOf cap cs).cells.length ≤ _; rw [Hml.out]; omega) (fun x hx => by obtain ⟨y, hy, rfl⟩ := List.mem_map.1 hx; exact Hx.out y hy)).mono ?_
    rintro e w9 ⟨aX, cX, csX, kX, rfl, hM, hc, hb⟩
    obtain ⟨hT, hS⟩ := TapeAt.new cap rfl hM hc
    have TX := Lib.hid hT
    have HBv9 := Lib.hid (bthen (bthen HBv8.out hb (Nat.le_refl _)) hS (Nat.le_refl _))
    have T := Lib.hid (T0.out.ext HBv9.out)
    obtain ⟨d0, d1⟩ := T.out.box.cells
    obtain ⟨e0, e1⟩ := TX.out.box.cells
    dsimp only at d0 d1 e0 e1
    have hkX : kX ≤ 9223372036854775807 := by
      have := hM.own.row.len
      rw [hM.len] at this
      have h2 := this.2
      unfold maxLen at h2
      omega
    clear hb hM hc hT hS HD8 HBv8
    go_wp2_with (refine wpList_store_row rfl rfl 32 (.tmp 10) (.tmp 71) rfl w9.heap.size rfl 32 #[.int .i64 0, .slice none 0 0] #[.int .i64 cap, .slice aX kX cX] rfl (heap_alloc_new w9 _) rfl (by kernel_rfl) (by simp [Value.oneCell']) ?_)
    clear d0 d1 e0 e1
    refine (keepmed_any cap cap aX a cX kX c n csX cs true _ TX.out.mat T.out.mat TX.out.len Hn.out hkX hn2 ⟨fun _ => ⟨rfl, TX.out.pls⟩, fun _ => rfl⟩).mono ?_
    rintro e w10 ⟨rfl, hb⟩
    have HBa := Lib.hid (bthen HBv9.out hb (Nat.le_refl _))
    clear hb
    go_wp2_with fail
    refine (wakes12_any w10).mono ?_
    rintro e w11 ⟨rfl, hb⟩
    have HBb := Lib.hid (bthen HB.out (bthen HBa.out hb (Nat.le_refl _)) (Nat.le_refl _))
    clear hb
    go_wp2
    go_ret
    exact ⟨rfl, HBb.out⟩
  · have hpc' : ((p : Int) == cap) = false := by simpa using hpc
    have hlt : (p : Int) < cap := by omega
    have Hlt := Lib.hid hlt
    clear hpc hlt
    obtain ⟨Mx, hMx⟩ : ∃ x, x = (medOf cap cs).lay p ⟨1, lb, false⟩ := ⟨_, rfl⟩
    have HMx := Lib.hid hMx
    have hcx : Mx.cap = cap := by rw [hMx]; rfl
    have hlx : Mx.cells.length = p + 1 := by rw [hMx]; exact Med.lay_len Hpm.out _
    have hsx : ∀ c ∈ Mx.cells, c.data.length ≤ 140737488355328 := by
      intro y hy
      rw [hMx] at hy
      rcases List.mem_append.1 (show y ∈ (pls cs).take p ++ [_] from hy) with h | h
      · obtain ⟨z, hz, rfl⟩ := List.mem_map.1 (List.mem_of_mem_take h)
        exact Hx.out z hz
      · rw [List.mem_singleton.1 h]
        show lb.length ≤ _
        have := Hbl.out.2
        omega
    have Hsx := Lib.hid hsx
    have Hlx := Lib.hid hlx
    have Hcx := Lib.hid hcx
    clear hMx hsx hlx hcx
    refine (drv_write p ab bn cb lb PS.new PS.new 0 Mx ((p : Int) + 1) w7 HD7.out HBv7.out.size Hpm.out (by show (medOf cap cs).cells.length ≤ _; rw [Hml.out]; omega) Hsv.out Hbn.out (by omega) Hcb.out (by rw [HMx.out]; exact dvWrite_ok Hpm.out Hlt.out Hbl.out)).mono ?_
    rintro e w8 ⟨rfl, hd8, hm8⟩
    have HD8 := Lib.hid hd8
    have HBv8 := Lib.hid (HBv7.out.trans (hm8.below (fun b T h => h.1) HBv7.out.size))
    clear hd8 hm8 HD7 HBv7
    go_wp2_with fail
    refine (drv_mediumP w8 HD8.out (by rw [Hlx.out]; omega) Hsx.out).mono ?_
    rintro e w9 ⟨aX, cX, csX, kX, rfl, hM, hc, hb⟩
    have hcx := Hcx.out
    rw [hcx]
    obtain rfl : p + 1 = kX := by rw [← hM.size, Hlx.out]
    obtain ⟨hT, hS⟩ := TapeAt.new cap hcx hM hc
    have TX := Lib.hid hT
    have HBv9 := Lib.hid (bthen (bthen HBv8.out hb (Nat.le_refl _)) hS (Nat.le_refl _))
    have HD9 := Lib.hid ((HD8.out.ext hb).ext hS)
    have T := Lib.hid (T0.out.ext HBv9.out)
    obtain ⟨d0, d1⟩ := T.out.box.cells
    obtain ⟨e0, e1⟩ := TX.out.box.cells
    dsimp only at d0 d1
    rw [hcx] at e0
    clear hb hM hc hT hS HD8 HBv8 hcx
    go_wp2_with (refine wpList_store_row rfl rfl 32 (.tmp 10) (.tmp 71) rfl w9.heap.size rfl 32 #[.int .i64 0, .slice none 0 0] #[.int .i64 cap, .slice aX (p + 1) cX] rfl (heap_alloc_new w9 _) rfl (by kernel_rfl) (by simp [Value.oneCell']) ?_)
    clear d0 d1 e0 e1
    generalize hwx : World.setRow _ _ _ = wA at *
    have TX : Hid (TapeAt wA w9.heap.size Mx aX (p + 1) cX csX) := TX
    generalize w9.heap.size = GX at *
    clear hwx
    refine (drv_placeP wA HD9.out).mono ?_
    rintro e w10 ⟨rfl, rfl⟩
    obtain ⟨d0, d1⟩ := T.out.box.cells
    dsimp only at d0 d1
    go_wp2_with fail
    clear d0 d1
    refine (write_any cap a c n cs (p : Int) ab bn cb lb Mx 0 wA T.out.mat Hn.out (by omega) Hx.out T.out.cap (HS0.out.ext HBv9.out) Hbn.out (by omega) (by rw [HMx.out]; exact Med.write_ok Hok.out (by rw [Hml.out]; exact hpn) Hlt.out Hbl.out)).mono ?_
    rintro e w11 ⟨aW, cW, kW, csW, rfl, hM, hc, hb⟩
    have hcx := Hcx.out
    rw [hcx]
    obtain rfl : p + 1 = kW := by rw [← hM.size, Hlx.out]
    obtain ⟨hT, hS⟩ := TapeAt.new cap hcx hM hc
    have TW := Lib.hid hT
    have HBv' := Lib.hid (bthen (bthen HBv9.out hb (Nat.le_refl _)) hS (Nat.le_refl _))
    have TX' := Lib.hid ((TX.out.ext hb).ext hS)
    obtain ⟨d0, d1⟩ := TW.out.box.cells
    obtain ⟨e0, e1⟩ := TX'.out.box.cells
    rw [hcx] at d0 e0
    clear hb hM hc hT hS HD9 HBv9 hcx TX T
    go_wp2_with (refine wpList_store_row rfl rfl 32 (.tmp 11) (.tmp 110) rfl w11.heap.size rfl 32 #[.int .i64 0, .slice none 0 0] #[.int .i64 cap, .slice aW (p + 1) cW] rfl (heap_alloc_new w11 _) rfl (by kernel_rfl) (by simp [Value.oneCell']) ?_)
    clear d0 d1 e0 e1
    refine (keepmed_any cap cap aX aW cX (p + 1) cW (p + 1) csX csW true _ TX'.out.mat TW.out.mat TX'.out.len TW.out.len (by omega) (by omega) ⟨fun _ => ⟨rfl, TX'.out.pls.trans TW.out.pls.symm⟩, fun _ => rfl⟩).mono ?_
    rintro e w12 ⟨rfl, hb⟩
    have HBa := Lib.hid (bthen HBv'.out hb (Nat.le_refl _))
    clear hb
    go_wp2_with fail
    refine (wakes12_any w12).mono ?_
    rintro e w13 ⟨rfl, hb⟩
    have HBb := Lib.hid (bthen HB.out (bthen HBa.out hb (Nat.le_refl _)) (Nat.le_refl _))
    clear hb
    go_wp2
    go_ret
    exact ⟨rfl, HBb.out⟩
end Go.Proofs.Ytilmldkaagbofaa
