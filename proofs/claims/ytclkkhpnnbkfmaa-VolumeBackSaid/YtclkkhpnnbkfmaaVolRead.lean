/- volume: block, Read. -/
import Derived.Test.YtclkkhpnnbkfmaaVolumeBackPartE
import Derived.Test.YtclkkhpnnbkfmaaVol
import Derived.Test.YtclkkhpnnbkfmaaVolApp
import Derived.Test.YtclkkhpnnbkfmaaVolumeBackPartJ
import Derived.Test.YtclkkhpnnbkfmaaVolumeBackPartB
import Derived.Test.YtclkkhpnnbkfmaaRegionPhase
namespace Go.Proofs.Ytclkkhpnnbkfmaa
open Go.RowKit

variable {B : Nat} {K : Nat → Prop} {w w' : World} {vb d g : Nat} {size : Int} {M : Med} {at_ : Int} {s : PS}
/-- A block of an aggregate. -/
def vBlock (M : Med) (file k at_ : Int) : List Byte × Int × Int :=
  if (M.locate file k at_).1 ≠ 0 then ([], (M.locate file k at_).1, (M.locate file k at_).2) else
  if (M.look (M.locate file k at_).2).2 = 15 then ([], 8, (M.locate file k at_).2 + 1) else
  ((M.look (M.locate file k at_).2).1, (M.look (M.locate file k at_).2).2, if (M.look (M.locate file k at_).2).2 = 8 then (M.locate file k at_).2 else (M.locate file k at_).2 + 1)
theorem locate_dgood {n b : Int} (hg : DGood M at_) : DGood M (M.locate n b at_).2 :=
  locate_good (s := PS.new) (n := n) (b := b) (E := (M.locate n b at_).1) hg (by rw [if_neg (by decide)])
theorem look_dgood {p : Int} (hg : DGood M p) : DGood M (if (M.look p).2 = 8 then p else p + 1) ∧ (M.look p).1.length ≤ 256 := by
  have h : (if PS.new.off then (([] : List Byte), (5 : Int), p) else ((M.look p).1, (M.look p).2, if (M.look p).2 = 8 then p else p + 1)) = ((M.look p).1, (M.look p).2, if (M.look p).2 = 8 then p else p + 1) := if_neg (by decide)
  exact ⟨read_good hg h, read_len hg h⟩
theorem vBlock_good {file k : Int} (hg : DGood M at_) : DGood M (vBlock M file k at_).2.2 ∧ (vBlock M file k at_).1.length ≤ 256 := by
  unfold vBlock
  have h1 := locate_dgood (n := file) (b := k) hg
  split
  · exact ⟨h1, Nat.zero_le _⟩
  · have h2 := look_dgood h1
    split
    · rename_i h15
      rw [h15, if_neg (by decide)] at h2
      exact ⟨h2.1, Nat.zero_le _⟩
    · exact h2
set_option maxHeartbeats 1000000 in
theorem vol_block (file k : Int) (l : List Byte) (n : Nat) (E at' : Int) (w : World) (hv : VolAt w vb d size) (hd : DrvP B K w d g M at_ s) (hB : B ≤ w.heap.size) (hg : DGood M at_) (hs : s.off = false) (hf : file ≤ 9223372036854775807) (hk : k ≤ 9223372036854775807) (hn : n = l.length) (hr : vBlock M file k at_ = (l, E, at')) :
    Calls Try.prog 80 #[.pointer (some ⟨vb, 0, none⟩), .int .i64 file, .int .i64 k] w fun e w' => ∃ a' c', e = .returned (.tuple #[.slice a' n c', .int .i64 E]) ∧ Own w' w.heap.size 5 1 a' n c' (bvs l) ∧ DrvP B K w' d g M at' s ∧ Mod (VF B K) w w' := by
  obtain ⟨⟨E1, p1⟩, hl1⟩ : ∃ y, y = M.locate file k at_ := ⟨_, rfl⟩
  have hG1 : DGood M p1 := by have := locate_dgood (n := file) (b := k) hg; rw [← hl1] at this; exact this
  unfold vBlock at hr
  rw [← hl1] at hr
  dsimp only at hr
  have HV := Lib.hid hv
  have HD := Lib.hid hd
  have HR := Lib.hid hr
  have HL1 := Lib.hid hl1.symm
  have HS := Lib.hid hs
  have Hn := Lib.hid hn
  have HG := Lib.hid hG1
  obtain ⟨c0, c1⟩ := hv.cells
  clear hv hd hr hl1 hs hn hG1
  go_enter Try.func80, Try.ntmps80
  go_wp2_with fail
  refine (drv_locate file k E1 p1 s w HD.out hg.len hf hk (by rw [if_neg (by rw [HS.out]; decide)]; exact HL1.out)).mono ?_
  rintro r w2 ⟨rfl, h2, hm2⟩
  have HD2 := Lib.hid h2
  have HM2 := Lib.hid hm2
  have HV2 := Lib.hid (HV.out.vf hm2)
  clear h2 hm2 c0 c1
  by_cases h1 : E1 = 0
  case neg =>
    have hh := HR.out
    rw [if_pos h1] at hh
    simp only [Prod.mk.injEq] at hh
    obtain ⟨rfl, rfl, rfl⟩ := hh
    have e1 : (E1 != 0) = true := by simpa using h1
    have hn0 : n = 0 := Hn.out
    subst hn0
    clear HR h1
    go_wp2
    go_ret2
    exact ⟨none, 0, rfl, Own.nil _ _ _ _ _, HD2.out, HM2.out⟩
  subst h1
  have hh := HR.out
  rw [if_neg (by decide)] at hh
  obtain ⟨⟨ll, El⟩, hlk⟩ : ∃ y, y = M.look p1 := ⟨_, rfl⟩
  rw [← hlk] at hh
  dsimp only at hh
  obtain ⟨p2, hp2⟩ : ∃ p, p = if El = 8 then p1 else p1 + 1 := ⟨_, rfl⟩
  rw [← hp2] at hh
  have HP2 := Lib.hid hp2
  have HH := Lib.hid hh
  have HK := Lib.hid hlk.symm
  obtain ⟨nl, hnl⟩ : ∃ n, n = ll.length := ⟨_, rfl⟩
  have HNL := Lib.hid hnl
  have hat := HG.out.at0
  obtain ⟨c0, c1⟩ := HV2.out.cells
  clear hh HR hlk hnl hp2
  go_wp2_with fail
  refine (drv_read nl ll El p2 s w2 HD2.out (Nat.le_trans hB HM2.out.size) HG.out.short HNL.out (by omega) (by omega) (by rw [if_neg (by rw [HS.out]; decide), HK.out, HP2.out])).mono ?_
  rintro r w3 ⟨a3, c3, rfl, hO3, h3, hm3⟩
  have HD3 := Lib.hid h3
  have HM3 := Lib.hid (HM2.out.trans hm3)
  have HO3 := Lib.hid (hO3.mono HM2.out.size)
  clear h3 hm3 hO3 c0 c1
  by_cases h15 : El = 15
  · subst h15
    have hh := HH.out
    rw [if_pos rfl] at hh
    simp only [Prod.mk.injEq] at hh
    obtain ⟨rfl, rfl, rfl⟩ := hh
    have HD4 : Hid (DrvP B K w3 d g M (p1 + 1) s) := Lib.hid (by have := HD3.out; rw [HP2.out, if_neg (by decide)] at this; exact this)
    have hn0 : n = 0 := Hn.out
    subst hn0
    clear HH HD3
    go_wp2
    go_ret2
    exact ⟨none, 0, rfl, Own.nil _ _ _ _ _, HD4.out, HM3.out⟩
  · have hh := HH.out
    rw [if_neg h15] at hh
    simp only [Prod.mk.injEq] at hh
    obtain ⟨rfl, rfl, rfl⟩ := hh
    have hnn : n = nl := by rw [Hn.out, HNL.out]
    subst hnn
    have e15 : (El == 15) = false := by simpa using h15
    clear HH h15
    go_wp2
    go_ret2
    exact ⟨a3, c3, rfl, HO3.out, HD3.out, HM3.out⟩
/-- A drive stays while others write. -/
theorem DrvAt.far2 {F : Nat → TypeId → Prop} {a : Option Addr} {k c : Nat} {cs : List CellV} (h : DrvAt B K w d g M at_ a k c cs) (hm : Mod F w w') (hF : ∀ b T, b < w.heap.size → F b T → (T = 74 ∨ T = 5 ∨ T = 88) → ¬ K b) : DrvAt B K w' d g M at_ a k c cs := by
  have key : ∀ {T : TypeId} {e : Nat} {a : Option Addr} {k c : Nat} {xs : List Value}, (T = 74 ∨ T = 5) → RowIn K a k c → Own w B T e a k c xs → Own w' B T e a k c xs := by
    intro T e a k c xs hT hz ho
    obtain ⟨hl, h0 | ⟨g, cur, ha, hb, hh, rest⟩⟩ := ho
    · exact ⟨hl, .inl h0⟩
    · rcases hz g ha with h0 | hzg
      · exact ⟨hl, .inl h0⟩
      · exact ⟨hl, .inr ⟨g, cur, ha, hb, hm.keep hh (fun hf => hF _ _ (heap_lt hh) hf (hT.elim .inl fun h => .inr (.inl h)) hzg), rest⟩⟩
  refine ⟨h.low, h.kd, hm.keep h.obj fun hf => hF _ _ (heap_lt h.obj) hf (.inr (.inr rfl)) h.kd, ⟨⟨?_, fun x hx => key (.inr rfl) (h.du x hx) (h.r.own.dat x hx), h.r.own.apart⟩, h.r.len, h.r.pls⟩, h.cap, h.kr, h.du⟩
  have hr := h.r.own.row
  rw [h.r.len] at hr ⊢
  exact key (.inl rfl) h.kr hr
theorem DrvP.far2 {F : Nat → TypeId → Prop} (h : DrvP B K w d g M at_ s) (hm : Mod F w w') (hF : ∀ b T, b < w.heap.size → F b T → T = 5 ∧ ¬ K b) : DrvP B K w' d g M at_ s := by
  obtain ⟨⟨a, k, c, cs, h1⟩, hp⟩ := h
  have hm' : Mod (fun b T => b < w.heap.size ∧ F b T) w w' := hm.mono fun b T hb hf => ⟨hb, hf⟩
  exact ⟨⟨a, k, c, cs, h1.far2 hm fun b T hb hf _ => (hF b T hb hf).2⟩, hp.mod hm' fun b T hf => by rw [(hF b T hf.1 hf.2).1]; decide⟩
/-- What Read may write. -/
abbrev RdF (B : Nat) (K : Nat → Prop) (W : Nat) : Nat → TypeId → Prop := fun b T => VF B K b T ∨ (W ≤ b ∧ T = 5)
def lenV : Value → Nat
  | .slice _ n _ => n
  | _ => 0
/-- Read's loop: what is told, and the place. -/
def vReadGo (M : Med) (sz : Nat) (file : Int) (n : Nat) : Nat → Nat → List Byte → Int → List Byte × Int × Int
  | 0, _, out, at_ => (out, 0, at_)
  | fuel + 1, off, out, at_ => if n ≤ out.length then (out, 0, at_) else
    if (vBlock M file ((off / sz : Nat) : Int) at_).2.1 ≠ 0 then ([], (vBlock M file ((off / sz : Nat) : Int) at_).2.1, (vBlock M file ((off / sz : Nat) : Int) at_).2.2) else
    if (vBlock M file ((off / sz : Nat) : Int) at_).1.length < off % sz + min (n - out.length) (sz - off % sz) then ([], 8, (vBlock M file ((off / sz : Nat) : Int) at_).2.2) else
    vReadGo M sz file n fuel (off + min (n - out.length) (sz - off % sz)) (out ++ ((vBlock M file ((off / sz : Nat) : Int) at_).1.drop (off % sz)).take (min (n - out.length) (sz - off % sz))) (vBlock M file ((off / sz : Nat) : Int) at_).2.2
def vRead (s : PS) (M : Med) (at_ : Int) (sz : Nat) (file off n : Int) : List Byte × Int × Int :=
  if s.off then ([], 5, at_) else if file < 1 ∨ off < 0 ∨ n < 0 ∨ 120000 < n then ([], 1, 0) else if n = 0 then ([], 0, 0) else vReadGo M sz file n.toNat (n.toNat + 1) off.toNat [] 0
theorem vBlock_ok {M : Med} {file : Int} {k : Nat} {at_ : Int} (hg : DGood M at_) (h : (vBlock M file k at_).2.1 = 0) : k ≤ M.cells.length := by
  unfold vBlock at h
  split at h
  · rename_i h1; exact absurd h h1
  · rename_i h1
    have h2 : (M.locate file k at_).1 = 0 := Classical.not_not.1 h1
    unfold Med.locate at h2
    split at h2
    · exact absurd h2 (by show ¬ (1 : Int) = 0; decide)
    · split at h2
      · exact absurd h2 (by show ¬ (8 : Int) = 0; decide)
      · rename_i h3
        rcases M.behind_bound file with hb | hb
        · omega
        · exact absurd hb.1 (by omega)

set_option maxRecDepth 100000 in
set_option maxHeartbeats 4000000 in
theorem vol_read (file off n : Int) (sz : Nat) (l : List Byte) (E at' : Int) (w : World) (hv : VolAt w vb d (sz : Int)) (hd : DrvP B K w d g M at_ s) (hB : B ≤ w.heap.size) (hg : DGood M at_) (hsz : 32 ≤ sz ∧ sz ≤ 256) (hf : file ≤ 9223372036854775807) (ho : off ≤ 9223372036854775807) (hr : vRead s M at_ sz file off n = (l, E, at')) :
    Calls Try.prog 16 #[.pointer (some ⟨vb, 0, none⟩), .int .i64 file, .int .i64 off, .int .i64 n] w fun e w' => ∃ a' m c', e = .returned (.tuple #[.slice a' m c', .int .i64 E]) ∧ m = l.length ∧ Own w' w.heap.size 5 1 a' m c' (bvs l) ∧ DrvP B K w' d g M at' s ∧ Mod (VF B K) w w' := by
  obtain ⟨i0, hi, hz0, hz1, hz2⟩ := info_parts info8
  have HV := Lib.hid hv
  have HD := Lib.hid hd
  have HR := Lib.hid hr
  have HG := Lib.hid hg
  clear hv hd hr hg
  go_enter Try.func16, Try.ntmps16
  go_wp2_with fail
  refine (vol_on (K := fun b => K b ∧ b < w.heap.size) (at_ := at_) s.off (if s.off then at_ else 0) w HV.out (HD.out.rek fun b _ hb hk => ⟨hk, hb⟩) HG.out.len rfl rfl).mono ?_
  rintro r w2 ⟨rfl, h2, hm2⟩
  have HD2z := Lib.hid h2
  have HD2 := Lib.hid (h2.rek (K' := K) fun b _ _ hk => hk.1)
  have HM2 : Hid (Mod (VF B K) w w2) := Lib.hid (hm2.mono fun b T _ hf => ⟨hf.1, hf.2.imp id fun h => ⟨h.1.1, h.2⟩⟩)
  have HV2 := Lib.hid (HV.out.vf hm2)
  clear h2 hm2
  cases hso : s.off with
  | true =>
    have hh := HR.out
    unfold vRead at hh
    rw [if_pos hso] at hh
    simp only [Prod.mk.injEq] at hh
    obtain ⟨rfl, rfl, rfl⟩ := hh
    rw [hso] at HD2
    have HD3 : Hid (DrvP B K w2 d g M at_ s) := HD2
    clear HD2 HR
    go_wp2
    go_ret2
    exact ⟨none, 0, 0, rfl, rfl, Own.nil _ _ _ _ _, HD3.out, HM2.out⟩
  | false =>
  rw [hso] at HD2 HD2z
  have HD3 : Hid (DrvP B K w2 d g M 0 s) := HD2
  have HDZ : Hid (DrvP B (fun b => K b ∧ b < w.heap.size) w2 d g M 0 s) := HD2z
  have hh := HR.out
  unfold vRead at hh
  rw [if_neg (by rw [hso]; decide)] at hh
  have HH := Lib.hid hh
  have Hso := Lib.hid hso
  clear HD2 HD2z hso hh HR
  by_cases hbad : file < 1 ∨ off < 0 ∨ n < 0 ∨ 120000 < n
  · have hh := HH.out
    rw [if_pos hbad] at hh
    simp only [Prod.mk.injEq] at hh
    obtain ⟨rfl, rfl, rfl⟩ := hh
    clear HH
    by_cases b1 : file < 1
    · have e1 : decide (file < 1) = true := by simpa using b1
      clear hbad
      go_wp2
      go_ret2
      exact ⟨none, 0, 0, rfl, rfl, Own.nil _ _ _ _ _, HD3.out, HM2.out⟩
    have e1 : decide (file < 1) = false := by simpa using b1
    by_cases b2 : off < 0
    · have e2 : decide (off < 0) = true := by simpa using b2
      clear hbad
      go_wp2
      go_ret2
      exact ⟨none, 0, 0, rfl, rfl, Own.nil _ _ _ _ _, HD3.out, HM2.out⟩
    have e2 : decide (off < 0) = false := by simpa using b2
    by_cases b3 : n < 0
    · have e3 : decide (n < 0) = true := by simpa using b3
      clear hbad
      go_wp2
      go_ret2
      exact ⟨none, 0, 0, rfl, rfl, Own.nil _ _ _ _ _, HD3.out, HM2.out⟩
    have e3 : decide (n < 0) = false := by simpa using b3
    have e4 : decide (n > 120000) = true := by simp; omega
    clear hbad
    go_wp2
    go_ret2
    exact ⟨none, 0, 0, rfl, rfl, Own.nil _ _ _ _ _, HD3.out, HM2.out⟩
  have e1 : decide (file < 1) = false := by simp; omega
  have e2 : decide (off < 0) = false := by simp; omega
  have e3 : decide (n < 0) = false := by simp; omega
  have e4 : decide (n > 120000) = false := by simp; omega
  have hh := HH.out
  rw [if_neg hbad] at hh
  obtain ⟨nn, rfl⟩ := Int.eq_ofNat_of_zero_le (show 0 ≤ n by omega)
  obtain ⟨off0, rfl⟩ := Int.eq_ofNat_of_zero_le (show 0 ≤ off by omega)
  have hnn : nn ≤ 120000 := by omega
  have ho0 : off0 ≤ 9223372036854775807 := by omega
  by_cases h0 : (nn : Int) = 0
  · have hn0 : nn = 0 := by omega
    subst hn0
    rw [if_pos (show ((0 : Nat) : Int) = 0 from rfl)] at hh
    simp only [Prod.mk.injEq] at hh
    obtain ⟨rfl, rfl, rfl⟩ := hh
    clear HH hbad
    go_wp2
    go_ret2
    exact ⟨none, 0, 0, rfl, rfl, Own.nil _ _ _ _ _, HD3.out, HM2.out⟩
  have e5 : ((nn : Int) == 0) = false := by simpa using h0
  rw [if_neg h0, Int.toNat_natCast, Int.toNat_natCast] at hh
  have HGo := Lib.hid hh
  have HG2 : Hid (DGood M 0) := Lib.hid ⟨HG.out.ok, 0, rfl, Nat.zero_le _⟩
  have HD3z : Hid (DrvP B (fun b => K b ∧ b < w.heap.size) w2 d g M 0 s) := HDZ
  clear hh HH hbad h0 HG
  go_wp2_with fail
  go_loopw [2, 10, 11, 12, 13, 14, 15] (fun o ou _ _ _ _ _ wr => ∃ (fuel off m : Nat) (out : List Byte) (aO : Option Addr) (cO : Nat) (pt : Int) (wx : World), wx = wr ∧ o = .int .i64 (off : Int) ∧ off ≤ 9223372036854775807 ∧ ou = .slice aO m cO ∧ m = out.length ∧ m ≤ nn ∧ nn < m + fuel ∧ Own wx w.heap.size 5 1 aO m cO (bvs out) ∧ DrvP B (fun b => K b ∧ b < w.heap.size) wx d g M pt s ∧ DGood M pt ∧ Mod (RdF B K w.heap.size) w wx ∧ vReadGo M sz file nn fuel off out pt = (l, E, at')) (fun _ ou _ _ _ _ _ _ => nn - lenV ou)
  case atStart => exact ⟨nn + 1, off0, 0, [], none, 0, 0, _, rfl, rfl, ho0, rfl, rfl, by omega, by omega, Own.nil _ _ _ _ _, HD3z.out, HG2.out, HM2.out.mono (fun _ _ _ hf => .inl hf), HGo.out⟩
  case round =>
    obtain ⟨fuel, off, m, out, aO, cO, pt, wx, hwx, rfl, hoff, rfl, hm, hmn, hfu, hO, hDx, hGx, hMx, hGoX⟩ := hrel
    subst hwx
    have HO := Lib.hid hO
    have HDx := Lib.hid hDx
    have HGx := Lib.hid hGx
    have HMx := Lib.hid hMx
    have HGoX := Lib.hid hGoX
    have Hm := Lib.hid hm
    have HVx : Hid (VolAt wx vb d (sz : Int)) := Lib.hid (hMx.keep HV.out (fun hf => hf.elim (fun h => VF_no (by decide) h) fun h => absurd h.2 (by decide)))
    have HBx : Hid (B ≤ wx.heap.size) := Lib.hid (Nat.le_trans hB hMx.size)
    clear hO hDx hGx hMx hGoX hm HGo HG2 HD3 HM2 HV2 HD3z HDZ
    by_cases hlt : m < nn
    · obtain ⟨fu, rfl⟩ : ∃ f, fuel = f + 1 := ⟨fuel - 1, by omega⟩
      have hgo := HGoX.out
      unfold vReadGo at hgo
      rw [if_neg (by rw [← Hm.out]; omega), ← Hm.out] at hgo
      obtain ⟨qk, hqk⟩ : ∃ q, q = off / sz := ⟨_, rfl⟩
      obtain ⟨fr, hfr⟩ : ∃ q, q = off % sz := ⟨_, rfl⟩
      obtain ⟨more, hmore⟩ : ∃ q, q = min (nn - m) (sz - fr) := ⟨_, rfl⟩
      rw [← hqk, ← hfr, ← hmore] at hgo
      obtain ⟨⟨bl, Eb, p1⟩, hblk⟩ : ∃ y, y = vBlock M file (qk : Int) pt := ⟨_, rfl⟩
      rw [← hblk] at hgo
      dsimp only at hgo
      have hbg := vBlock_good (file := file) (k := (qk : Int)) HGx.out
      rw [← hblk] at hbg
      have hfrl : fr < sz := by rw [hfr]; exact Nat.mod_lt _ (by omega)
      have hql : qk ≤ off := by rw [hqk]; exact Nat.div_le_self _ _
      have hoq : Eb = 0 → off ≤ 90001 * 256 := fun h0 => by
        have h1 := vBlock_ok (file := file) (k := qk) HGx.out (by rw [← hblk]; exact h0)
        have h2 := HGx.out.len
        have h3 := Nat.div_add_mod off sz
        rw [← hqk, ← hfr] at h3
        have h4 : sz * qk ≤ 256 * 90000 := Nat.mul_le_mul hsz.2 (by omega)
        omega
      have HOQ := Lib.hid hoq
      have HQ : Hid ((off : Int).tdiv (sz : Int) = (qk : Int)) := Lib.hid (by rw [hqk]; rfl)
      have HF : Hid ((off : Int).tmod (sz : Int) = (fr : Int)) := Lib.hid (by rw [hfr]; rfl)
      have HZ : Hid ((sz : Int) ≠ 0) := Lib.hid (by omega)
      have HZN : Hid (¬ sz = 0) := Lib.hid (by omega)
      have HWQ : Hid (IntKind.i64.wrap (qk : Int) = (qk : Int)) := Lib.hid (by rw [IntKind.wrap_i64]; omega)
      have Hgo := Lib.hid hgo
      have HBK := Lib.hid hblk.symm
      have HBG := Lib.hid hbg
      have Hmo := Lib.hid hmore
      have hmo1 : 1 ≤ more ∧ more ≤ nn - m ∧ more ≤ sz - fr ∧ more ≤ 256 := by omega
      obtain ⟨c0, c1⟩ := HVx.out.cells
      have hlv := heap_lt HVx.out
      clear hgo hblk hbg hoq hqk hfr hmore HGoX
      go_wp2_with fail
      refine wp_region_phase (by kernel_rfl) [] (by kernel_rfl) (by kernel_rfl) ?_
      refine stage_last [Sp.eq (.int .i64 (off : Int)), Sp.eq (.pointer (some ⟨vb, 0, none⟩)), Sp.eq (.pointer (some ⟨vb, 0, none⟩)), Sp.eq (.pointer (some ⟨vb, 1, none⟩)), Sp.eq (.int .i64 (sz : Int)), Sp.eq (.int .i64 (qk : Int)), Sp.eq (.int .i64 (off : Int)), Sp.eq (.pointer (some ⟨vb, 0, none⟩)), Sp.eq (.pointer (some ⟨vb, 0, none⟩)), Sp.eq (.pointer (some ⟨vb, 1, none⟩)), Sp.eq (.int .i64 (sz : Int)), Sp.eq (.int .i64 (fr : Int)), Sp.eq (.int .i64 (qk : Int)), Sp.eq (.int .i64 (fr : Int))] ?_ ?_
      · refine stepsG_cons ?_ (stepsG_cons ?_ (stepsG_cons ?_ (stepsG_cons ?_ (stepsG_cons ?_ (stepsG_cons ?_ (stepsG_cons ?_ (stepsG_cons ?_ (stepsG_cons ?_ (stepsG_cons ?_ (stepsG_cons ?_ (stepsG_cons ?_ (stepsG_cons ?_ (stepsG_cons ?_ (stepsG_nil))))))))))))))
        · intro ρ w' E
          have e2 : ρ (.tmp 2) = .int .i64 (off : Int) := E.out 2 rfl
          refine step_plain rfl ?_
          exact op_move (.inl rfl) e2 ⟨Below.refl _ _, rfl⟩
        · intro ρ w' E
          have e0 : ρ (.tmp 0) = .pointer (some ⟨vb, 0, none⟩) := E.out 0 rfl
          refine step_plain rfl ?_
          exact op_move (.inl rfl) e0 ⟨Below.refl _ _, rfl⟩
        · intro ρ w' E
          have e43 : ρ (.tmp 43) = .pointer (some ⟨vb, 0, none⟩) := E.pre 1 rfl rfl
          refine step_plain rfl ?_
          refine op_val (v := .pointer (some ⟨vb, 0, none⟩)) (w' := w') ?_ ⟨Below.refl _ _, rfl⟩
          have hcon := E.con
          clear E
          go_simp
        · intro ρ w' E
          have e44 : ρ (.tmp 44) = .pointer (some ⟨vb, 0, none⟩) := E.pre 2 rfl rfl
          refine step_plain rfl ?_
          refine op_val (v := .pointer (some ⟨vb, 1, none⟩)) (w' := w') ?_ ⟨Below.refl _ _, rfl⟩
          have hcon := E.con
          clear E
          go_simp
        · intro ρ w' E
          have e45 : ρ (.tmp 45) = .pointer (some ⟨vb, 1, none⟩) := E.pre 3 rfl rfl
          refine step_plain rfl ?_
          refine op_val (v := .int .i64 (sz : Int)) (w' := w') ?_ ⟨Below.refl _ _, rfl⟩
          have hk := (World.cell?_of_block (w := wx) (E.below.block _ hlv)).trans c1
          have hcon := E.con
          clear E c1
          go_simp
        · intro ρ w' E
          have e42 : ρ (.tmp 42) = .int .i64 (off : Int) := E.pre 0 rfl rfl
          have e46 : ρ (.tmp 46) = .int .i64 (sz : Int) := E.pre 4 rfl rfl
          refine step_plain rfl ?_
          refine op_val (v := .int .i64 (qk : Int)) (w' := w') ?_ ⟨Below.refl _ _, rfl⟩
          have hq := HQ.out
          have hz := HZ.out
          have hcon := E.con
          clear E c1
          go_simp
          first | done | (intro h9; exact HZN.out h9) | (rw [if_neg HZN.out, HWQ.out]) | (rw [hq]; split; exact absurd (by assumption) HZN.out; simp [HWQ.out])
        · intro ρ w' E
          have e2 : ρ (.tmp 2) = .int .i64 (off : Int) := E.out 2 rfl
          refine step_plain rfl ?_
          exact op_move (.inl rfl) e2 ⟨Below.refl _ _, rfl⟩
        · intro ρ w' E
          have e0 : ρ (.tmp 0) = .pointer (some ⟨vb, 0, none⟩) := E.out 0 rfl
          refine step_plain rfl ?_
          exact op_move (.inl rfl) e0 ⟨Below.refl _ _, rfl⟩
        · intro ρ w' E
          have e49 : ρ (.tmp 49) = .pointer (some ⟨vb, 0, none⟩) := E.pre 7 rfl rfl
          refine step_plain rfl ?_
          refine op_val (v := .pointer (some ⟨vb, 0, none⟩)) (w' := w') ?_ ⟨Below.refl _ _, rfl⟩
          have hcon := E.con
          clear E
          go_simp
        · intro ρ w' E
          have e50 : ρ (.tmp 50) = .pointer (some ⟨vb, 0, none⟩) := E.pre 8 rfl rfl
          refine step_plain rfl ?_
          refine op_val (v := .pointer (some ⟨vb, 1, none⟩)) (w' := w') ?_ ⟨Below.refl _ _, rfl⟩
          have hcon := E.con
          clear E
          go_simp
        · intro ρ w' E
          have e51 : ρ (.tmp 51) = .pointer (some ⟨vb, 1, none⟩) := E.pre 9 rfl rfl
          refine step_plain rfl ?_
          refine op_val (v := .int .i64 (sz : Int)) (w' := w') ?_ ⟨Below.refl _ _, rfl⟩
          have hk := (World.cell?_of_block (w := wx) (E.below.block _ hlv)).trans c1
          have hcon := E.con
          clear E c1
          go_simp
        · intro ρ w' E
          have e48 : ρ (.tmp 48) = .int .i64 (off : Int) := E.pre 6 rfl rfl
          have e52 : ρ (.tmp 52) = .int .i64 (sz : Int) := E.pre 10 rfl rfl
          refine step_plain rfl ?_
          refine op_val (v := .int .i64 (fr : Int)) (w' := w') ?_ ⟨Below.refl _ _, rfl⟩
          have hq := HF.out
          have hz := HZ.out
          have hcon := E.con
          clear E c1
          go_simp
          first | done | (intro h9; exact HZN.out h9) | (rw [if_neg HZN.out, HWQ.out]) | (rw [hq]; split; exact absurd (by assumption) HZN.out; simp [HWQ.out])
        · intro ρ w' E
          have e47 : ρ (.tmp 47) = .int .i64 (qk : Int) := E.pre 5 rfl rfl
          refine step_plain rfl ?_
          exact op_move (.inr rfl) e47 ⟨Below.refl _ _, rfl⟩
        · intro ρ w' E
          have e53 : ρ (.tmp 53) = .int .i64 (fr : Int) := E.pre 11 rfl rfl
          refine step_plain rfl ?_
          exact op_move (.inr rfl) e53 ⟨Below.refl _ _, rfl⟩
      · intro σF wF GF OF HF
        have s11 : σF 11 = .int .i64 (qk : Int) := HF 12 rfl rfl
        have s12 : σF 12 = .int .i64 (fr : Int) := HF 13 rfl rfl
        clear OF
        have HOF := Lib.hid (HO.out.ext GF)
        have HDF := Lib.hid (HDx.out.ext GF)
        have HVF := Lib.hid (HVx.out.ext GF)
        have HMF := Lib.hid (HMx.out.trans (bmod GF _))
        have HBF : Hid (B ≤ wF.heap.size) := Lib.hid (Nat.le_trans HBx.out GF.size)
        clear GF c0 c1 hlv HQ HF HZ HO HDx HVx HMx HBx
        simp only [upd, updL, dstsOf', elemB, List.filterMap_cons, List.filterMap_nil, Nat.reduceAdd, Nat.reduceBEq, Bool.or_false, Bool.false_or, Bool.or_true, Bool.true_or, cond_true, cond_false, Nat.zero_add, s11, s12]
        clear HZN HWQ s11 s12
        go_wp2_with fail
        refine (vol_block file (qk : Int) bl bl.length Eb p1 wF HVF.out HDF.out HBF.out HGx.out Hso.out hf (by omega) rfl HBK.out).mono ?_
        rintro r w8 ⟨a8, c8, rfl, hO8, h8, hm8⟩
        have HD8 := Lib.hid h8
        have HM8 : Hid (Mod (RdF B K w.heap.size) w w8) := Lib.hid (HMF.out.trans (hm8.mono fun b T _ hf => .inl ⟨hf.1, hf.2.imp id fun h => ⟨h.1.1, h.2⟩⟩))
        have HMZ : Hid (Mod (VF B K) w w8) := Lib.hid (HM8.out.mono fun b T hb hf => hf.resolve_right fun h => by omega)
        have HDK := Lib.hid (h8.rek (K' := K) fun b _ _ hk => hk.1)
        have HO8 := Lib.hid hO8
        have HOut8 : Hid (Own w8 w.heap.size 5 1 aO m cO (bvs out)) := Lib.hid (HOF.out.mod hm8 fun b _ _ => VF_no_u8 b)
        have HV8 := Lib.hid (HVF.out.vf hm8)
        obtain ⟨L, hL⟩ : ∃ n, n = bl.length := ⟨_, rfl⟩
        rw [← hL]
        have HL := Lib.hid hL
        clear h8 hm8 hO8 hL HDF HVF HMF HOF HBF
        by_cases hE : Eb = 0
        case neg =>
          have hgo := Hgo.out
          rw [if_pos hE] at hgo
          simp only [Prod.mk.injEq] at hgo
          obtain ⟨rfl, rfl, rfl⟩ := hgo
          have eE : (Eb != 0) = true := by simpa using hE
          clear hE Hgo
          go_wp2
          go_ret2
          exact ⟨none, 0, 0, rfl, rfl, Own.nil _ _ _ _ _, HDK.out, HMZ.out⟩
        subst hE
        have hoff2 := HOQ.out rfl
        have hgo := Hgo.out
        rw [if_neg (by decide)] at hgo
        obtain ⟨c0, c1⟩ := HV8.out.cells
        obtain ⟨rem, hrem⟩ : ∃ r, r = nn - m := ⟨_, rfl⟩
        obtain ⟨rst, hrst⟩ : ∃ r, r = sz - fr := ⟨_, rfl⟩
        have e7 : (nn : Int) - (m : Int) = (rem : Int) := by omega
        have e8 : (sz : Int) - (fr : Int) = (rst : Int) := by omega
        have hw1 : IntKind.i64.wrap (rem : Int) = (rem : Int) := by rw [IntKind.wrap_i64]; omega
        have hw2 : IntKind.i64.wrap (rst : Int) = (rst : Int) := by rw [IntKind.wrap_i64]; omega
        have hmr : more = min rem rst := by rw [Hmo.out, hrem, hrst]
        have Hre := Lib.hid hrem
        have Hrs := Lib.hid hrst
        clear hrem hrst
        rcases Nat.lt_trichotomy rem rst with hA | hA | hA
        · obtain rfl : rem = more := by omega
          have hA1 : (rem : Int) < (rst : Int) := by omega
          have hA2 : ¬ (rst : Int) < (rem : Int) := by omega
          have hA3 : (rem : Int) ≤ (rst : Int) := by omega
          have hA4 : ¬ (rst : Int) ≤ (rem : Int) := by omega
          clear hmr
          have hw3 : IntKind.i64.wrap ((fr : Int) + (rem : Int)) = (fr : Int) + (rem : Int) := by rw [IntKind.wrap_i64]; omega
          by_cases hLs : L < fr + rem
          · have e6 : decide ((L : Int) < (fr : Int) + (rem : Int)) = true := by simp; omega
            rw [if_pos (by rw [← HL.out]; exact hLs)] at hgo
            simp only [Prod.mk.injEq] at hgo
            obtain ⟨rfl, rfl, rfl⟩ := hgo
            clear Hgo HOQ hLs
            go_wp2
            go_ret2
            exact ⟨none, 0, 0, rfl, rfl, Own.nil _ _ _ _ _, HDK.out, HMZ.out⟩
          · have e6 : decide ((L : Int) < (fr : Int) + (rem : Int)) = false := by simp; omega
            rw [if_neg (by rw [← HL.out]; exact hLs)] at hgo
            have Hgo2 := Lib.hid hgo
            have hO8 := HO8.out
            rw [← HL.out] at hO8
            obtain ⟨x8, hx8, hB8, hlx8, _, _⟩ := hO8.at (i := 0) (by omega)
            have hcap8 := hO8.len.1
            subst hx8
            have hsrc : Src w8 (some ⟨x8, fr, none⟩) (bvs ((bl.drop fr).take rem)) := by
              have := Src.sub hO8.src fr rem
              rw [bvs_take, bvs_drop]
              rw [Nat.zero_add] at this
              exact this
            have HSrc := Lib.hid hsrc
            have hbw : w.heap.size ≤ w8.heap.size := HM8.out.size
            have hwo : IntKind.i64.wrap ((off : Int) + (rem : Int)) = (off : Int) + (rem : Int) := by rw [IntKind.wrap_i64]; omega
            have hlenT : ((bl.drop fr).take rem).length = rem := by rw [List.length_take, List.length_drop, ← HL.out]; omega
            have HLT := Lib.hid hlenT
            clear hgo Hgo HOQ hsrc hO8 hlenT
            have t1 : (bvs ((bl.drop fr).take rem)).length = rem * 1 := by rw [bvs_length, HLT.out, Nat.mul_one]
            have t2 : m + rem ≤ maxLen := by unfold maxLen; omega
            have t3 : (m + rem) * 1 ≤ 140737488355328 := by omega
            have T1 := Lib.hid t1
            clear t1
            go_wp2_with (refine wpList_appm rfl (.tmp 81) (.tmp 87) 50 rfl w.heap.size 5 i0 (.int .u8 0) 1 1 Try.underlying50 hi hz0 hz1 hz2 rfl (by decide) aO m cO (bvs out) rfl HOut8.out (some ⟨x8, fr, none⟩) rem (c8 - fr) (bvs ((bl.drop fr).take rem)) (by first | rfl | (simp; done) | (simp; omega) | (go_simp; done) | (go_simp; omega) | (go_simp; simp; omega)) T1.out HSrc.out (bvs_one _) t2 t3 hbw ?_; intro a9 c9 w9 hA9)
            have HO9 : Hid (Own w9 w.heap.size 5 1 a9 (m + rem) c9 (bvs (out ++ (bl.drop fr).take rem))) := Lib.hid (by rw [bvs_append]; exact hA9.own)
            have HM9 := Lib.hid (HM8.out.trans (hA9.mod (RdF B K w.heap.size) fun g _ _ hB => .inr ⟨hB, rfl⟩))
            have HD9 := Lib.hid (HD8.out.far2 (hA9.mod (fun b T => w.heap.size ≤ b ∧ T = 5) fun g _ _ hB => ⟨hB, rfl⟩) fun b T _ hf => ⟨hf.2, fun hk => by have := hk.2; have := hf.1; omega⟩)
            have HL9 : Hid (m + rem = (out ++ (bl.drop fr).take rem).length) := Lib.hid (by rw [List.length_append, HLT.out, ← Hm.out])
            have HGN : Hid (DGood M p1) := Lib.hid HBG.out.1
            clear hA9 c0 c1 hw1 hw2 hw3 hwo e7 e8
            go_wp2_with fail
            go_roundw
            case rel => exact ⟨fu, off + rem, m + rem, _, a9, c9, p1, _, rfl, by go_num, by omega, by first | rfl | (congr 1), HL9.out, by omega, by omega, HO9.out, HD9.out, HGN.out, HM9.out, Hgo2.out⟩
            case measure => simp [lenV]; omega
        · subst hA
          obtain rfl : rem = more := by omega
          clear hmr
          have hw3 : IntKind.i64.wrap ((fr : Int) + (rem : Int)) = (fr : Int) + (rem : Int) := by rw [IntKind.wrap_i64]; omega
          by_cases hLs : L < fr + rem
          · have e6 : decide ((L : Int) < (fr : Int) + (rem : Int)) = true := by simp; omega
            rw [if_pos (by rw [← HL.out]; exact hLs)] at hgo
            simp only [Prod.mk.injEq] at hgo
            obtain ⟨rfl, rfl, rfl⟩ := hgo
            clear Hgo HOQ hLs
            go_wp2
            go_ret2
            exact ⟨none, 0, 0, rfl, rfl, Own.nil _ _ _ _ _, HDK.out, HMZ.out⟩
          · have e6 : decide ((L : Int) < (fr : Int) + (rem : Int)) = false := by simp; omega
            rw [if_neg (by rw [← HL.out]; exact hLs)] at hgo
            have Hgo2 := Lib.hid hgo
            have hO8 := HO8.out
            rw [← HL.out] at hO8
            obtain ⟨x8, hx8, hB8, hlx8, _, _⟩ := hO8.at (i := 0) (by omega)
            have hcap8 := hO8.len.1
            subst hx8
            have hsrc : Src w8 (some ⟨x8, fr, none⟩) (bvs ((bl.drop fr).take rem)) := by
              have := Src.sub hO8.src fr rem
              rw [bvs_take, bvs_drop]
              rw [Nat.zero_add] at this
              exact this
            have HSrc := Lib.hid hsrc
            have hbw : w.heap.size ≤ w8.heap.size := HM8.out.size
            have hwo : IntKind.i64.wrap ((off : Int) + (rem : Int)) = (off : Int) + (rem : Int) := by rw [IntKind.wrap_i64]; omega
            have hlenT : ((bl.drop fr).take rem).length = rem := by rw [List.length_take, List.length_drop, ← HL.out]; omega
            have HLT := Lib.hid hlenT
            clear hgo Hgo HOQ hsrc hO8 hlenT
            have t1 : (bvs ((bl.drop fr).take rem)).length = rem * 1 := by rw [bvs_length, HLT.out, Nat.mul_one]
            have t2 : m + rem ≤ maxLen := by unfold maxLen; omega
            have t3 : (m + rem) * 1 ≤ 140737488355328 := by omega
            have T1 := Lib.hid t1
            clear t1
            go_wp2_with (refine wpList_appm rfl (.tmp 81) (.tmp 87) 50 rfl w.heap.size 5 i0 (.int .u8 0) 1 1 Try.underlying50 hi hz0 hz1 hz2 rfl (by decide) aO m cO (bvs out) rfl HOut8.out (some ⟨x8, fr, none⟩) rem (c8 - fr) (bvs ((bl.drop fr).take rem)) (by first | rfl | (simp; done) | (simp; omega) | (go_simp; done) | (go_simp; omega) | (go_simp; simp; omega)) T1.out HSrc.out (bvs_one _) t2 t3 hbw ?_; intro a9 c9 w9 hA9)
            have HO9 : Hid (Own w9 w.heap.size 5 1 a9 (m + rem) c9 (bvs (out ++ (bl.drop fr).take rem))) := Lib.hid (by rw [bvs_append]; exact hA9.own)
            have HM9 := Lib.hid (HM8.out.trans (hA9.mod (RdF B K w.heap.size) fun g _ _ hB => .inr ⟨hB, rfl⟩))
            have HD9 := Lib.hid (HD8.out.far2 (hA9.mod (fun b T => w.heap.size ≤ b ∧ T = 5) fun g _ _ hB => ⟨hB, rfl⟩) fun b T _ hf => ⟨hf.2, fun hk => by have := hk.2; have := hf.1; omega⟩)
            have HL9 : Hid (m + rem = (out ++ (bl.drop fr).take rem).length) := Lib.hid (by rw [List.length_append, HLT.out, ← Hm.out])
            have HGN : Hid (DGood M p1) := Lib.hid HBG.out.1
            clear hA9 c0 c1 hw1 hw2 hw3 hwo e7 e8
            go_wp2_with fail
            go_roundw
            case rel => exact ⟨fu, off + rem, m + rem, _, a9, c9, p1, _, rfl, by go_num, by omega, by first | rfl | (congr 1), HL9.out, by omega, by omega, HO9.out, HD9.out, HGN.out, HM9.out, Hgo2.out⟩
            case measure => simp [lenV]; omega
        · obtain rfl : rst = more := by omega
          have hA1 : (rst : Int) < (rem : Int) := by omega
          have hA2 : ¬ (rem : Int) < (rst : Int) := by omega
          have hA3 : (rst : Int) ≤ (rem : Int) := by omega
          have hA4 : ¬ (rem : Int) ≤ (rst : Int) := by omega
          clear hmr
          have hw3 : IntKind.i64.wrap ((fr : Int) + (rst : Int)) = (fr : Int) + (rst : Int) := by rw [IntKind.wrap_i64]; omega
          by_cases hLs : L < fr + rst
          · have e6 : decide ((L : Int) < (fr : Int) + (rst : Int)) = true := by simp; omega
            rw [if_pos (by rw [← HL.out]; exact hLs)] at hgo
            simp only [Prod.mk.injEq] at hgo
            obtain ⟨rfl, rfl, rfl⟩ := hgo
            clear Hgo HOQ hLs
            go_wp2
            go_ret2
            exact ⟨none, 0, 0, rfl, rfl, Own.nil _ _ _ _ _, HDK.out, HMZ.out⟩
          · have e6 : decide ((L : Int) < (fr : Int) + (rst : Int)) = false := by simp; omega
            rw [if_neg (by rw [← HL.out]; exact hLs)] at hgo
            have Hgo2 := Lib.hid hgo
            have hO8 := HO8.out
            rw [← HL.out] at hO8
            obtain ⟨x8, hx8, hB8, hlx8, _, _⟩ := hO8.at (i := 0) (by omega)
            have hcap8 := hO8.len.1
            subst hx8
            have hsrc : Src w8 (some ⟨x8, fr, none⟩) (bvs ((bl.drop fr).take rst)) := by
              have := Src.sub hO8.src fr rst
              rw [bvs_take, bvs_drop]
              rw [Nat.zero_add] at this
              exact this
            have HSrc := Lib.hid hsrc
            have hbw : w.heap.size ≤ w8.heap.size := HM8.out.size
            have hwo : IntKind.i64.wrap ((off : Int) + (rst : Int)) = (off : Int) + (rst : Int) := by rw [IntKind.wrap_i64]; omega
            have hlenT : ((bl.drop fr).take rst).length = rst := by rw [List.length_take, List.length_drop, ← HL.out]; omega
            have HLT := Lib.hid hlenT
            clear hgo Hgo HOQ hsrc hO8 hlenT
            have t1 : (bvs ((bl.drop fr).take rst)).length = rst * 1 := by rw [bvs_length, HLT.out, Nat.mul_one]
            have t2 : m + rst ≤ maxLen := by unfold maxLen; omega
            have t3 : (m + rst) * 1 ≤ 140737488355328 := by omega
            have T1 := Lib.hid t1
            clear t1
            go_wp2_with (refine wpList_appm rfl (.tmp 81) (.tmp 87) 50 rfl w.heap.size 5 i0 (.int .u8 0) 1 1 Try.underlying50 hi hz0 hz1 hz2 rfl (by decide) aO m cO (bvs out) rfl HOut8.out (some ⟨x8, fr, none⟩) rst (c8 - fr) (bvs ((bl.drop fr).take rst)) (by first | rfl | (simp; done) | (simp; omega) | (go_simp; done) | (go_simp; omega) | (go_simp; simp; omega)) T1.out HSrc.out (bvs_one _) t2 t3 hbw ?_; intro a9 c9 w9 hA9)
            have HO9 : Hid (Own w9 w.heap.size 5 1 a9 (m + rst) c9 (bvs (out ++ (bl.drop fr).take rst))) := Lib.hid (by rw [bvs_append]; exact hA9.own)
            have HM9 := Lib.hid (HM8.out.trans (hA9.mod (RdF B K w.heap.size) fun g _ _ hB => .inr ⟨hB, rfl⟩))
            have HD9 := Lib.hid (HD8.out.far2 (hA9.mod (fun b T => w.heap.size ≤ b ∧ T = 5) fun g _ _ hB => ⟨hB, rfl⟩) fun b T _ hf => ⟨hf.2, fun hk => by have := hk.2; have := hf.1; omega⟩)
            have HL9 : Hid (m + rst = (out ++ (bl.drop fr).take rst).length) := Lib.hid (by rw [List.length_append, HLT.out, ← Hm.out])
            have HGN : Hid (DGood M p1) := Lib.hid HBG.out.1
            clear hA9 c0 c1 hw1 hw2 hw3 hwo e7 e8
            go_wp2_with fail
            go_roundw
            case rel => exact ⟨fu, off + rst, m + rst, _, a9, c9, p1, _, rfl, by go_num, by omega, by first | rfl | (congr 1), HL9.out, by omega, by omega, HO9.out, HD9.out, HGN.out, HM9.out, Hgo2.out⟩
            case measure => simp [lenV]; omega
    · obtain rfl : nn = m := by omega
      obtain ⟨fu, rfl⟩ : ∃ f, fuel = f + 1 := ⟨fuel - 1, by omega⟩
      have hgo := HGoX.out
      unfold vReadGo at hgo
      rw [if_pos (by rw [← Hm.out]; exact Nat.le_refl _)] at hgo
      simp only [Prod.mk.injEq] at hgo
      obtain ⟨rfl, rfl, rfl⟩ := hgo
      have HDK := Lib.hid (HDx.out.rek (K' := K) fun b _ _ hk => hk.1)
      have HMZ : Hid (Mod (VF B K) w wx) := Lib.hid (HMx.out.mono fun b T hb hf => hf.resolve_right fun h => by omega)
      have HSZ : Hid (w.heap.size ≤ wx.heap.size) := Lib.hid HMx.out.size
      clear HGoX
      go_wp2_with fail
      refine (clone_at aO cO nn out wx HO.out.src Hm.out (by omega)).mono ?_
      rintro r w9 ⟨a9, c9, rfl, ho9, hb9⟩
      have HO9 := Lib.hid (ho9.mono HSZ.out)
      have HD9 := Lib.hid (HDK.out.ext hb9)
      have HM9 := Lib.hid (HMZ.out.trans (bmod hb9 _))
      clear ho9 hb9
      go_wp2
      go_ret2
      exact ⟨a9, nn, c9, rfl, Hm.out, HO9.out, HD9.out, HM9.out⟩
end Go.Proofs.Ytclkkhpnnbkfmaa
