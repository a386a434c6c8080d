/- The walk of DiskReads. -/
import Derived.Test.YtfbbejdbofkpaaaDiskWakes
import Derived.Test.YtfbbejdbofkpaaaInts
namespace Go.Proofs.Ytfbbejdbofkpaaa
open Go.RowKit

def Bsl.cells (x : Bsl) : List Value := [x.val]
theorem flt_bsl (l : List Bsl) : flt Bsl.cells l = l.map Bsl.val := by
  induction l with
  | nil => rfl
  | cons b l ih => rw [flt_cons, ih]; rfl
theorem infoRow : (Try.prog.info? 31).map (fun i => (i.zero, i.size, i.bytes)) = some (some (.slice none 0 0), 1, 24) := by kernel_rfl

/-- A row of byte slices of the law's own; their bytes lie in blocks of K. -/
structure NowR (K : Nat → Prop) (B : Nat) (w : World) (na : Nat) (nl : List Bsl) : Prop where
  row : Own w B 31 1 (some ⟨na, 0, none⟩) 6 6 (nl.map Bsl.val)
  held : ∀ x ∈ nl, Held w K x.a x.c x.l
theorem NowR.lt {K : Nat → Prop} {B : Nat} {w : World} {na : Nat} {nl : List Bsl} (h : NowR K B w na nl) : NowR (fun b => b < w.heap.size) B w na nl := ⟨h.row, fun x hx => (h.held x hx).mono fun _ hb _ => hb⟩
theorem NowR.mono {K K' : Nat → Prop} {B : Nat} {w : World} {na : Nat} {nl : List Bsl} (h : NowR K B w na nl) (hK : ∀ b, K b → K' b) : NowR K' B w na nl := ⟨h.row, fun x hx => (h.held x hx).mono fun b _ => hK b⟩
theorem NowR.mod {K : Nat → Prop} {B : Nat} {w w' : World} {na : Nat} {nl : List Bsl} {F : Nat → TypeId → Prop} (h : NowR K B w na nl) (hm : Mod F w w') (hF : ∀ b T, F b T → T ≠ 31) (hK : ∀ b, K b → ¬ F b 5) : NowR K B w' na nl :=
  ⟨h.row.mod hm fun g _ _ hf => hF _ _ hf rfl, fun x hx => (h.held x hx).mod hm fun b _ => hK b⟩
theorem NowR.ext {K : Nat → Prop} {B : Nat} {w w' : World} {na : Nat} {nl : List Bsl} (h : NowR K B w na nl) (hb : Below w.heap.size w w') : NowR K B w' na nl := h.mod (bmod hb fun _ _ => False) (fun _ _ h => h.elim) fun _ _ h => h
theorem NowR.df {K : Nat → Prop} {B B' : Nat} {w w' : World} {na : Nat} {nl : List Bsl} (h : NowR K B w na nl) (hm : Mod (DF B') w w') : NowR K B w' na nl :=
  h.mod hm (fun b T hf => by rintro rfl; have := hf.2; revert this; decide) fun b _ => DF_no_u8 b
theorem NowR.spoil {K : Nat → Prop} {B : Nat} {w w' : World} {na : Nat} {nl : List Bsl} {a : Option Addr} (h : NowR K B w na nl) (hm : Mod (UF a) w w') (hK : ∀ b, a = some ⟨b, 0, none⟩ → ¬ K b) : NowR K B w' na nl :=
  h.mod hm (UF_no a (by decide)) fun b hb hf => hK b hf.1 hb
/-- The law's own row is written. -/
abbrev NF (na : Nat) : Nat → TypeId → Prop := fun b T => b = na ∧ T = 31
theorem NowR.set {K : Nat → Prop} {B : Nat} {w : World} {na k : Nat} {nl : List Bsl} {x : Bsl} (h : NowR K B w na nl) (hk : k < 6) (hx : Held w K x.a x.c x.l) : NowR K B (w.setCell ⟨na, k, none⟩ x.val) na (nl.set k x) ∧ Mod (NF na) w (w.setCell ⟨na, k, none⟩ x.val) ∧ B ≤ na := by
  obtain ⟨hb, hl, cur, hcur⟩ := h.row.blk (by decide)
  have hm := (Mod.refl (NF na) w).setCell hcur ⟨rfl, rfl⟩ k x.val
  refine ⟨⟨?_, fun y hy => ?_⟩, hm, hb⟩
  · rw [List.map_set]; exact h.row.set k _ hk
  · have hn : ∀ b, b < w.heap.size → K b → ¬ NF na b 5 := fun b _ _ hf => absurd hf.2 (by decide)
    rcases List.mem_or_eq_of_mem_set hy with hy | rfl
    · exact (h.held y hy).mod hm hn
    · exact hx.mod hm hn
theorem NF_no (na : Nat) {T' : TypeId} (hT : T' ≠ 31) : ∀ b T, NF na b T → T ≠ T' := by
  rintro b T ⟨_, rfl⟩ h; exact hT h.symm
theorem DW.nf {K : Nat → Prop} {B na : Nat} {w w' : World} {g pg n : Nat} {d : DS} {p : PS} {m : Nat} (h : DW K B w g pg n d p m) (hm : Mod (NF na) w w') : DW K B w' g pg n d p m :=
  ⟨h.disk.mod hm (fun b T hf => ⟨NF_no na (by decide) b T hf, NF_no na (by decide) b T hf, NF_no na (by decide) b T hf⟩) (fun b _ _ hf => NF_no na (T' := 5) (by decide) b _ hf rfl), h.pow.mod hm (fun b T hf => ⟨NF_no na (by decide) b T hf, NF_no na (by decide) b T hf, NF_no na (by decide) b T hf⟩), h.ok, Nat.le_trans h.base hm.size, h.pend⟩
theorem NF_below {B na : Nat} {w0 w w' : World} (hb : Below B w0 w) (hm : Mod (NF na) w w') (hn : B ≤ na) (hB : B ≤ w.heap.size) : Below B w0 w' := hb.trans (hm.below (fun b T h => by rw [h.1]; exact hn) hB)
theorem Own.a_lt {w : World} {B : Nat} {e : TypeId} {k n c : Nat} {a : Option Addr} {xs : List Value} (h : Own w B e k a n c xs) (hn : n ≠ 0) : ∀ b, a = some ⟨b, 0, none⟩ → B ≤ b ∧ b < w.heap.size := by
  rintro b rfl; have := h.blk hn; exact ⟨this.1, this.2.1⟩

/-- What stands in each sector now. -/
def Cur (d : DS) (ls : List (List Byte)) : Prop := d.ok 6 ∧ ls.length = 6 ∧ ∀ j : Nat, j < 6 → d.get (j : Int) = (ls.getD j [], 0) ∧ (ls.getD j []).length = 256
theorem getD_rep {α : Type} (n j : Nat) (x y : α) (h : j < n) : (List.replicate n x).getD j y = x := by simp [List.getD_eq_getElem?_getD, List.getElem?_replicate, h]
theorem cur_new : Cur (DS.new 0 6) (List.replicate 6 (zb 256)) := by
  refine ⟨DS.new_ok 0 6, by simp, fun j hj => ?_⟩
  have hg : (List.replicate 6 Sec.nought).getD ((j : Int)).toNat Sec.nought = Sec.nought := getD_rep 6 _ _ _ hj
  have hz : (List.replicate 6 (zb 256)).getD j [] = zb 256 := getD_rep 6 _ _ _ hj
  rw [hz]
  refine ⟨?_, zb_length 256⟩
  unfold DS.get DS.inB DS.new
  simp only [List.length_replicate]
  rw [if_pos (by rw [decide_eq_true_eq]; constructor <;> omega), hg]
  rfl
theorem cur_set {d : DS} {ls : List (List Byte)} (h : Cur d ls) {k : Nat} (hk : k < 6) {b : List Byte} (hb : b.length = 256) (pend : List (Nat × List Byte)) (hok : DS.ok { d with pend := pend, now := d.now.set k ⟨b, false⟩ } 6) :
    Cur { d with pend := pend, now := d.now.set k ⟨b, false⟩ } (ls.set k b) := by
  obtain ⟨h0, h1, h2⟩ := h
  refine ⟨hok, by simp [h1], fun j hj => ?_⟩
  have hne : b ≠ [] := by intro h; rw [h] at hb; simp at hb
  have hnl := h0.now
  obtain ⟨g1, g2⟩ := h2 j hj
  unfold DS.get DS.inB at g1 ⊢
  simp only [List.length_set, hnl] at g1 ⊢
  rw [if_pos (by rw [decide_eq_true_eq]; constructor <;> omega)] at g1 ⊢
  simp only [Int.toNat_natCast, List.getD_eq_getElem?_getD, List.getElem?_set, hnl, h1] at g1 g2 ⊢
  by_cases hkj : k = j
  · subst hkj
    simp [hk, Sec.bytes, hne, hb]
  · simp only [if_neg hkj]
    exact ⟨g1, g2⟩
theorem cur_sync {d : DS} {ls : List (List Byte)} (h : Cur d ls) (hok : DS.ok { d with safe := d.now, pend := [] } 6) : Cur { d with safe := d.now, pend := [] } ls := ⟨hok, h.2.1, h.2.2⟩

set_option maxRecDepth 100000 in
set_option maxHeartbeats 8000000 in
theorem diskReads_walk (w : World) (az : Option Addr) (cz : Nat) (zs : List Int) (hz : Src w az (ivs zs)) (hzl : zs.length ≤ 9223372036854775807) (a : Option Addr) (c : Nat) (ps : List Bsl) (hm : Mat w a ps) (hn : ps.length ≤ 9223372036854775807) (ab : Option Addr) (cb : Nat) (bs : List Bool) (hbs : Src w ab (bovs bs)) (hbl : bs.length ≤ 9223372036854775807) :
    Calls Try.prog 3 #[.slice az zs.length cz, .slice a ps.length c, .slice ab bs.length cb] w fun e w' => e = .returned (.bool true) ∧ Below w.heap.size w w' := by
  have Hz := Lib.hid hz
  have Hm := Lib.hid hm
  have Hbs := Lib.hid hbs
  obtain ⟨L, hL⟩ : ∃ L, L = zs.length := ⟨_, rfl⟩
  obtain ⟨M, hM⟩ : ∃ M, M = ps.length := ⟨_, rfl⟩
  obtain ⟨N, hN⟩ : ∃ N, N = bs.length := ⟨_, rfl⟩
  rw [← hL, ← hM, ← hN]
  have HL := Lib.hid hL
  have HM := Lib.hid hM
  have HN := Lib.hid hN
  have hL2 : L ≤ 9223372036854775807 := by omega
  have hM2 : M ≤ 9223372036854775807 := by omega
  have hN2 : N ≤ 9223372036854775807 := by omega
  clear hz hm hbs hL hM hN hzl hn hbl
  by_cases h1 : L ≤ 40
  · by_cases h2 : M ≤ 40
    · by_cases h3 : N ≤ 100
      · obtain ⟨i3, hi3, hr0, hr1, hr2⟩ := info_parts infoRow
        have g1 : ¬ 40 < L := by omega
        have g2 : ¬ 40 < M := by omega
        have g3 : ¬ 100 < N := by omega
        go_enter Try.func3, Try.ntmps3
        go_wp2_with fail
        refine (power_new w).mono ?_
        rintro e w1 ⟨pg, rfl, hp, hb1⟩
        go_wp2_with fail
        refine (disk_new pg PS.new 6 w.heap.size w1 hp (by decide) (by decide)).mono ?_
        rintro e w2 ⟨g, rfl, hd, hb2⟩
        have HD2 := Lib.hid (new_dw hp hb1 hd hb2)
        have hb02 := bthen hb1 hb2 (Nat.le_refl _)
        clear hp hb1 hd hb2
        go_wp2_with (refine wpList_makeF rfl _ _ 23 rfl 31 i3 (.slice none 0 0) Bsl.cells 1 (fun _ => rfl) (by decide) ⟨none, 0, []⟩ rfl Try.underlying23 hi3 hr0 hr1 6 rfl rfl (by rw [hr2]; decide) (by decide) ?_; intro w3 ho3 hb3)
        have HD3 := Lib.hid (HD2.out.ext hb3)
        have hb03 := bthen hb02 hb3 (Nat.le_refl _)
        have hnl0 : (List.replicate 6 (⟨none, 0, []⟩ : Bsl)).length = 6 := by simp
        have HNW3 : Hid (NowR (fun _ => True) w.heap.size w3 w2.heap.size (List.replicate 6 ⟨none, 0, []⟩)) := Lib.hid ⟨by rw [flt_bsl] at ho3; exact ho3.mono hb02.size, fun x hx => by rw [List.eq_of_mem_replicate hx]; exact Held.nil _ _ _⟩
        clear ho3 hb3 hb02 HD2
        generalize w2.heap.size = na at *
        go_wp2_with fail
        go_loopw [11] (fun i wr => ∃ (k : Nat) (nl : List Bsl), k ≤ 6 ∧ i = .int .i64 (k : Int) ∧ nl.length = 6 ∧ NowR (fun _ => True) w.heap.size wr na nl ∧ (nl.map Bsl.l).take k = List.replicate k (zb 256) ∧ DW (fun _ => True) w.heap.size wr g pg 6 (DS.new 0 6) PS.new 0 ∧ Below w.heap.size w wr) (fun i _ => 6 - (intOf i).toNat)
        case atStart => exact ⟨0, _, by omega, rfl, hnl0, HNW3.out, rfl, HD3.out.mono (fun _ _ _ => trivial) (Nat.le_refl _), hb03⟩
        case round =>
          rename_i wr
          obtain ⟨k, nl, hk, rfl, hnl, hN, htk, hD, hbr⟩ := hrel
          have HNr := Lib.hid hN
          have Hnl := Lib.hid hnl
          have Htk := Lib.hid htk
          have HDr := Lib.hid hD
          clear hN hnl htk hD hb03 hnl0
          by_cases hk6 : k < 6
          · go_wp2_with fail
            have hF := fill_any 0#8 wr
            rw [show ((0#8 : Byte).toNat : Int) = 0 from rfl] at hF
            refine hF.mono ?_
            rintro e w4 ⟨a4, c4, rfl, ho4, hb4⟩
            clear hF
            have HN4 := Lib.hid (HNr.out.ext hb4)
            have HD4 := Lib.hid (HDr.out.ext hb4)
            have hb04 := bthen hbr hb4 (Nat.le_refl _)
            obtain ⟨x, hx, _, hlx, hat, hfx⟩ := HN4.out.row.at (i := k) hk6
            simp only [Option.some.injEq, Addr.mk.injEq, and_self, and_true] at hx
            subst hx
            have hkn : k < nl.length := by rw [Hnl.out]; exact hk6
            have hc4 := hat k (by simpa using hkn)
            have hf4 := hfx k
            obtain ⟨hset, hmset, hna⟩ := HN4.out.set (k := k) (x := ⟨a4, c4, fb 0#8 256⟩) hk6 (Held.of ho4 (fb_length _ _).symm fun _ _ => trivial)
            have hval : Bsl.val ⟨a4, c4, fb 0#8 256⟩ = .slice a4 256 c4 := by unfold Bsl.val; rw [fb_length]
            rw [hval] at hset hmset
            have HN5 := Lib.hid hset
            have HD5 := Lib.hid (HD4.out.nf hmset)
            have hb05 := NF_below hb04 hmset hna hb04.size
            clear hat hfx hset hmset hval ho4 hb4
            go_wp2_with fail
            go_roundw
            case rel =>
              refine ⟨k + 1, _, by omega, by go_num, by rw [List.length_set]; exact Hnl.out, HN5.out, ?_, HD5.out, hb05⟩
              rw [List.map_set, take_succ_list _ k (by simpa using hkn), List.take_set_of_le (Nat.le_refl _), Htk.out, List.getElem_set_self, List.replicate_succ']
              rfl
            case measure => simp [intOf]; omega
          · have hk6' : k = 6 := by omega
            have hC : Cur (DS.new 0 6) (nl.map Bsl.l) := by
              have h1 := Htk.out
              rw [hk6', List.take_of_length_le (by rw [List.length_map, Hnl.out]; exact Nat.le_refl 6)] at h1
              rw [h1]; exact cur_new
            have HC := Lib.hid hC
            clear hk6' hC Htk
            go_wp2_with fail
            go_loopw [12] (fun i wx => ∃ (k : Nat) (d : DS) (nl : List Bsl) (wr : World), wr = wx ∧ k ≤ 40 ∧ i = .int .i64 (k : Int) ∧ DW (fun _ => True) w.heap.size wr g pg 6 d PS.new k ∧ NowR (fun _ => True) w.heap.size wr na nl ∧ nl.length = 6 ∧ Cur d (nl.map Bsl.l) ∧ d.life = PS.new.life ∧ Below w.heap.size w wr) (fun i _ => 41 - (intOf i).toNat)
            case atStart => exact ⟨0, _, nl, _, rfl, by omega, rfl, HDr.out, HNr.out, Hnl.out, HC.out, rfl, hbr⟩
            case round =>
              obtain ⟨k, d, nl, wr, hwr, hk, rfl, hD, hN, hnl, hC, hl, hbr⟩ := hrel
              subst hwr
              have HDr := Lib.hid hD
              have HNr := Lib.hid hN
              have Hnl := Lib.hid hnl
              have HC := Lib.hid hC
              have Hl := Lib.hid hl
              clear hD hN hnl hC hl
              by_cases hkL : k < L
              · by_cases hkM : k < M
                · have hkp : k < ps.length := by have := HM.out; omega
                  have hkz : k < zs.length := by have := HL.out; omega
                  obtain ⟨b, o, rfl, hlb, hat⟩ := Hm.out.at hkp
                  obtain ⟨bz, oz, rfl, hlz, hatz⟩ := src_ints_at Hz.out hkz
                  have hc0 := hat k hkp
                  have hcz0 := hatz k hkz
                  have hrow := Hm.out.row _ (List.getElem_mem hkp)
                  generalize ps[k] = q at *
                  generalize zs[k] = z at *
                  have hcell := (World.cell?_of_block (w := w) (a := ⟨b, o + k, none⟩) (hbr.block b hlb)).trans hc0
                  have hcz := (World.cell?_of_block (w := w) (a := ⟨bz, oz + k, none⟩) (hbr.block bz hlz)).trans hcz0
                  have hs := Lib.hid (hrow.1.ext hbr)
                  clear hat hatz hrow
                  by_cases h300 : q.l.length ≤ 300
                  · have h300' : decide ((300 : Int) < (q.l.length : Int)) = false := by simp; omega
                    have htt1 : decide ((k : Int) < (L : Int)) = true := by simp; omega
                    have htt2 : decide ((k : Int) < (M : Int)) = true := by simp; omega
                    have hk40 : k < 40 := by omega
                    obtain ⟨v, hv, ev⟩ := umod z 6 (by omega) (by omega)
                    go_wp2_with fail
                    rw [ev]
                    clear ev
                    refine (sector_any (.slice none 0 0) (.int .i64 0) (.int .i64 0) (.int .i64 0) (.int .i64 0) false q.a q.c q.l.length q.l wr hs.out rfl (by omega) rfl).mono ?_
                    rintro e w3 ⟨a3, c3, rfl, ho3, hb3⟩
                    have HD3 := Lib.hid (HDr.out.lt.ext hb3)
                    have HN3 := Lib.hid (HNr.out.lt.ext hb3)
                    have Ho3 := Lib.hid ho3
                    have hb03 := bthen hbr hb3 (Nat.le_refl _)
                    have h3lt := hb3.size
                    clear hb3 ho3 hcell hcz
                    go_wp2_with fail
                    have Hvn := Lib.hid (show v < 6 by omega)
                    refine (HD3.out.write (by decide) (by decide) (by omega) v a3 c3 256 (pad q.l) (fun w' hm => (Ho3.out.mod hm fun b _ _ => DF_no_u8 b).src) (pad_length q.l).symm (by decide)
                      (write_on (n := 6) (i := v) HD3.out.ok rfl rfl Hl.out Hvn.out (pad_length q.l))).mono ?_
                    rintro e w4 ⟨rfl, hd4, hm4⟩
                    have HD4 := Lib.hid hd4
                    have HN4 := Lib.hid ((HN3.out.df hm4).mono (K' := fun b => b < wr.heap.size ∨ w3.heap.size ≤ b) fun _ h => .inl h)
                    have Ho4 := Lib.hid (Ho3.out.mod hm4 fun b _ _ => DF_no_u8 b)
                    have hb04 := hb03.trans (hm4.below (fun b T h => h.1) hb03.size)
                    have h34 := hm4.size
                    clear hd4 hm4 hb03
                    go_wp2_with fail
                    refine (twin_at a3 c3 256 (pad q.l) w4 Ho4.out.src (pad_length q.l).symm (by decide)).mono ?_
                    rintro e w5 ⟨a5, c5, rfl, ho5, hb5⟩
                    have HD5 := Lib.hid (HD4.out.ext hb5)
                    have HN5 := Lib.hid (HN4.out.ext hb5)
                    have Ho5 := Lib.hid (Ho4.out.ext hb5)
                    have hb05 := bthen hb04 hb5 (Nat.le_refl _)
                    have hvn : v < nl.length := by rw [Hnl.out]; exact Hvn.out
                    have hc5 : w5.cell? ⟨na, v, none⟩ = some (.slice nl[v].a nl[v].l.length nl[v].c) := by
                      obtain ⟨x, hx, _, _, hat, _⟩ := HN5.out.row.at (i := v) Hvn.out
                      simp only [Option.some.injEq, Addr.mk.injEq, and_self, and_true] at hx
                      subst hx
                      have := hat v (by simpa using hvn)
                      simpa [Bsl.val] using this
                    obtain ⟨_, _, cur5, hcur5⟩ := HN5.out.row.blk (by decide)
                    have hf5 := frozen_of_row w5 na v _ _ hcur5
                    obtain ⟨hset, hmset, hna⟩ := HN5.out.set (k := v) (x := ⟨a5, c5, pad q.l⟩) Hvn.out (Held.of ho5 (pad_length _).symm fun b hb => .inr (Nat.le_trans h34 hb))
                    have hval : Bsl.val ⟨a5, c5, pad q.l⟩ = .slice a5 256 c5 := by unfold Bsl.val; rw [pad_length]
                    rw [hval] at hset hmset
                    have HN6 := Lib.hid hset
                    have HD6 := Lib.hid (HD5.out.nf hmset)
                    have Ho6 := Lib.hid (Ho5.out.mod hmset fun b _ _ hf => NF_no na (T' := 5) (by decide) b _ hf rfl)
                    have hb06 := NF_below hb05 hmset hna hb05.size
                    clear hset hmset hval ho5 hb5 hcur5 hb04 hb05
                    go_wp2_with fail
                    clear hc5 hf5
                    refine (spoil_mod wr.heap.size a3 c3 256 (pad q.l) _ Ho6.out (pad_length q.l).symm (by decide)).mono ?_
                    rintro e w7 ⟨rfl, hm7, hb7⟩
                    have hap : ∀ b, a3 = some ⟨b, 0, none⟩ → ¬ (fun b => b < wr.heap.size ∨ w3.heap.size ≤ b) b := fun b hb => by
                      have := Ho3.out.a_lt (by decide) b hb
                      simp only; omega
                    have HD7 := Lib.hid ((HD6.out.spoil hm7 hap).mono (K' := fun _ => True) (m' := k + 1) (fun _ _ _ => trivial) (Nat.le_refl _))
                    have HN7 := Lib.hid ((HN6.out.spoil hm7 hap).mono (K' := fun _ => True) (fun _ _ => trivial))
                    have hb07 := hb06.trans (hb7.mono hbr.size)
                    have hCs := cur_set HC.out Hvn.out (pad_length q.l) (d.pend ++ [(v, pad q.l)]) HD7.out.ok
                    have Hnl2 : Hid ((nl.set v ⟨a5, c5, pad q.l⟩).length = 6) := Lib.hid (by rw [List.length_set]; exact Hnl.out)
                    rw [show (nl.map Bsl.l).set v (pad q.l) = (nl.set v ⟨a5, c5, pad q.l⟩).map Bsl.l by rw [List.map_set]] at hCs
                    have HC7 := Lib.hid hCs
                    have HL7 : Hid (d.life = PS.new.life) := Hl
                    clear hCs hm7 hb7 hap hb06 h34 h3lt
                    generalize nl.set v ⟨a5, c5, pad q.l⟩ = nl2 at *
                    by_cases hkN : k < N
                    · have hkb : k < bs.length := by have := HN.out; omega
                      obtain ⟨bb, ob, rfl, hlbb, hatb⟩ := src_bools_at Hbs.out hkb
                      have hcb0 := hatb k hkb
                      have hcb := (World.cell?_of_block (w := w) (a := ⟨bb, ob + k, none⟩) (hb07.block bb hlbb)).trans hcb0
                      generalize bs[k] = sy at *
                      clear hatb
                      cases sy with
                      | true =>
                        go_wp2_with fail
                        refine (HD7.out.sync (by decide) (by decide) (by omega) (sync_on rfl rfl HL7.out)).mono ?_
                        rintro e w8 ⟨rfl, hd8, hm8⟩
                        have HN8 := Lib.hid (HN7.out.df hm8)
                        have hb08 := hb07.trans (hm8.below (fun b T h => h.1) hb07.size)
                        obtain ⟨DD, HD8, HC8, HL8⟩ : ∃ DD, Hid (DW (fun _ => True) w.heap.size w8 g pg 6 DD PS.new (k + 1)) ∧ Hid (Cur DD (nl2.map Bsl.l)) ∧ Hid (DD.life = PS.new.life) := ⟨_, Lib.hid (hd8.mono (fun _ _ _ => trivial) (Nat.le_refl _)), Lib.hid (cur_sync HC7.out hd8.ok), HL7⟩
                        clear hd8 hm8 hb07 hcb
                        go_wp2_with fail
                        go_loopw [15] (fun i wy => ∃ (j : Nat) (wz : World), wz = wy ∧ j ≤ 6 ∧ i = .int .i64 (j : Int) ∧ DW (fun _ => True) w.heap.size wz g pg 6 DD PS.new (k + 1) ∧ NowR (fun _ => True) w.heap.size wz na nl2 ∧ Below w.heap.size w wz) (fun i _ => 6 - (intOf i).toNat)
                        case atStart => exact ⟨0, _, rfl, by omega, rfl, HD8.out, HN8.out, hb08⟩
                        case round =>
                          obtain ⟨j, wz, hwq, hj, rfl, hD, hN, hbz⟩ := hrel
                          subst hwq
                          have HD9 := Lib.hid hD.lt
                          have HN9 := Lib.hid hN.lt
                          clear hD hN hb08
                          by_cases hj6 : j < 6
                          · obtain ⟨hg1, hg2⟩ := HC8.out.2.2 j hj6
                            have hjn : j < nl2.length := by rw [Hnl2.out]; exact hj6
                            have hge : ((nl2.map Bsl.l).getD j []) = (nl2[j]).l := by simp [List.getD_eq_getElem?_getD, hjn]
                            rw [hge] at hg1 hg2
                            have Hg1 := Lib.hid hg1
                            have hcell : wz.cell? ⟨na, j, none⟩ = some (.slice nl2[j].a nl2[j].l.length nl2[j].c) := by
                              obtain ⟨x, hx, _, _, hat, _⟩ := HN9.out.row.at (i := j) hj6
                              simp only [Option.some.injEq, Addr.mk.injEq, and_self, and_true] at hx
                              subst hx
                              have := hat j (by simpa using hjn)
                              simpa [Bsl.val] using this
                            have hheld := HN9.out.held _ (List.getElem_mem hjn)
                            have hnb := (HN9.out.row.blk (by decide)).2.1
                            generalize nl2[j] = x at *
                            have Hheld := Lib.hid hheld
                            have Hg2 := Lib.hid hg2
                            clear hg1 hge hheld hg2
                            go_wp2_with fail
                            refine (HD9.out.read (by decide) (by decide) (by omega) j ((read_on rfl HL8.out _).trans Hg1.out)).mono ?_
                            rintro e wA ⟨aA, cA, kA, rfl, hkA, hoA, hdA, hmA⟩
                            have HDA := Lib.hid hdA
                            have HoA := Lib.hid hoA
                            have HNA := Lib.hid (HN9.out.df hmA)
                            have HkA := Lib.hid hkA
                            have hbA := hbz.trans (hmA.below (fun b T h => h.1) hbz.size)
                            have hcA : wA.cell? ⟨na, j, none⟩ = some (.slice x.a x.l.length x.c) := by
                              have hb := HN9.out.row.blk (by decide)
                              obtain ⟨_, _, cur, hcur⟩ := hb
                              have h2 := hmA.keep hcur (by intro hf; have := hf.2; revert this; decide)
                              rw [← hcell]
                              exact World.cell?_of_block (w := wz) (h2.trans hcur.symm)
                            have hsx := Lib.hid ((Hheld.out.mod hmA (fun b _ _ => DF_no_u8 b)).src)
                            clear hdA hoA hmA hkA hcell
                            go_wp2_with fail
                            refine (bytes_at aA cA x.l x.a x.c x.l wA kA x.l.length true HoA.out.src hsx.out HkA.out rfl (by rw [HkA.out, Hg2.out]; decide) (by rw [Hg2.out]; decide) (decide_eq_true rfl)).mono ?_
                            rintro e wB ⟨rfl, nq, rfl⟩
                            have hbd := ext_drewN wA nq wA.heap.size
                            have HDB := Lib.hid (HDA.out.ext hbd)
                            have HNB := Lib.hid (HNA.out.ext hbd)
                            have HoB := Lib.hid (HoA.out.ext hbd)
                            have hbB := bthen hbA hbd (Nat.le_refl _)
                            clear hbd hcA hsx
                            go_wp2_with fail
                            refine (spoil_mod wz.heap.size aA cA kA x.l _ HoB.out HkA.out (by rw [HkA.out, Hg2.out]; decide)).mono ?_
                            rintro e wC ⟨rfl, hmC, hbC⟩
                            have hap : ∀ b, aA = some ⟨b, 0, none⟩ → ¬ (fun b => b < wz.heap.size) b := fun b hb => by
                              have := (HoB.out.a_lt (by rw [HkA.out, Hg2.out]; decide) b hb).1
                              simp only; omega
                            have HDC := Lib.hid ((HDB.out.spoil hmC hap).mono (K' := fun _ => True) (fun _ _ _ => trivial) (Nat.le_refl _))
                            have HNC := Lib.hid ((HNB.out.spoil hmC hap).mono (K' := fun _ => True) (fun _ _ => trivial))
                            have hbD := hbB.trans (hbC.mono hbz.size)
                            have hwk : DD.wake PS.new = DD := wake_on HL8.out
                            rw [hwk] at HDC
                            clear hmC hbC hap hbB hbA
                            go_wp2_with fail
                            go_roundw
                            case rel => exact ⟨j + 1, _, rfl, by omega, by go_num, HDC.out, HNC.out, hbD⟩
                            case measure => simp [intOf]; omega
                          · go_wp2_with fail
                            go_roundw
                            case rel => exact ⟨k + 1, DD, nl2, _, rfl, by omega, by go_num, HD9.out.mono (fun _ _ _ => trivial) (Nat.le_refl _), HN9.out.mono fun _ _ => trivial, Hnl2.out, HC8.out, HL8.out, hbz⟩
                            case measure => simp [intOf]; omega
                      | false =>
                        obtain ⟨DD, HD8, HC8, HL8⟩ : ∃ DD, Hid (DW (fun _ => True) w.heap.size _ g pg 6 DD PS.new (k + 1)) ∧ Hid (Cur DD (nl2.map Bsl.l)) ∧ Hid (DD.life = PS.new.life) := ⟨_, Lib.hid (HD7.out.mono (fun _ _ _ => trivial) (Nat.le_refl _)), HC7, HL7⟩
                        have HN8 := HN7
                        have hb08 := hb07
                        clear hb07
                        go_wp2_with fail
                        go_loopw [15] (fun i wy => ∃ (j : Nat) (wz : World), wz = wy ∧ j ≤ 6 ∧ i = .int .i64 (j : Int) ∧ DW (fun _ => True) w.heap.size wz g pg 6 DD PS.new (k + 1) ∧ NowR (fun _ => True) w.heap.size wz na nl2 ∧ Below w.heap.size w wz) (fun i _ => 6 - (intOf i).toNat)
                        case atStart => exact ⟨0, _, rfl, by omega, rfl, HD8.out, HN8.out, hb08⟩
                        case round =>
                          obtain ⟨j, wz, hwq, hj, rfl, hD, hN, hbz⟩ := hrel
                          subst hwq
                          have HD9 := Lib.hid hD.lt
                          have HN9 := Lib.hid hN.lt
                          clear hD hN hb08
                          by_cases hj6 : j < 6
                          · obtain ⟨hg1, hg2⟩ := HC8.out.2.2 j hj6
                            have hjn : j < nl2.length := by rw [Hnl2.out]; exact hj6
                            have hge : ((nl2.map Bsl.l).getD j []) = (nl2[j]).l := by simp [List.getD_eq_getElem?_getD, hjn]
                            rw [hge] at hg1 hg2
                            have Hg1 := Lib.hid hg1
                            have hcell : wz.cell? ⟨na, j, none⟩ = some (.slice nl2[j].a nl2[j].l.length nl2[j].c) := by
                              obtain ⟨x, hx, _, _, hat, _⟩ := HN9.out.row.at (i := j) hj6
                              simp only [Option.some.injEq, Addr.mk.injEq, and_self, and_true] at hx
                              subst hx
                              have := hat j (by simpa using hjn)
                              simpa [Bsl.val] using this
                            have hheld := HN9.out.held _ (List.getElem_mem hjn)
                            have hnb := (HN9.out.row.blk (by decide)).2.1
                            generalize nl2[j] = x at *
                            have Hheld := Lib.hid hheld
                            have Hg2 := Lib.hid hg2
                            clear hg1 hge hheld hg2
                            go_wp2_with fail
                            refine (HD9.out.read (by decide) (by decide) (by omega) j ((read_on rfl HL8.out _).trans Hg1.out)).mono ?_
                            rintro e wA ⟨aA, cA, kA, rfl, hkA, hoA, hdA, hmA⟩
                            have HDA := Lib.hid hdA
                            have HoA := Lib.hid hoA
                            have HNA := Lib.hid (HN9.out.df hmA)
                            have HkA := Lib.hid hkA
                            have hbA := hbz.trans (hmA.below (fun b T h => h.1) hbz.size)
                            have hcA : wA.cell? ⟨na, j, none⟩ = some (.slice x.a x.l.length x.c) := by
                              have hb := HN9.out.row.blk (by decide)
                              obtain ⟨_, _, cur, hcur⟩ := hb
                              have h2 := hmA.keep hcur (by intro hf; have := hf.2; revert this; decide)
                              rw [← hcell]
                              exact World.cell?_of_block (w := wz) (h2.trans hcur.symm)
                            have hsx := Lib.hid ((Hheld.out.mod hmA (fun b _ _ => DF_no_u8 b)).src)
                            clear hdA hoA hmA hkA hcell
                            go_wp2_with fail
                            refine (bytes_at aA cA x.l x.a x.c x.l wA kA x.l.length true HoA.out.src hsx.out HkA.out rfl (by rw [HkA.out, Hg2.out]; decide) (by rw [Hg2.out]; decide) (decide_eq_true rfl)).mono ?_
                            rintro e wB ⟨rfl, nq, rfl⟩
                            have hbd := ext_drewN wA nq wA.heap.size
                            have HDB := Lib.hid (HDA.out.ext hbd)
                            have HNB := Lib.hid (HNA.out.ext hbd)
                            have HoB := Lib.hid (HoA.out.ext hbd)
                            have hbB := bthen hbA hbd (Nat.le_refl _)
                            clear hbd hcA hsx
                            go_wp2_with fail
                            refine (spoil_mod wz.heap.size aA cA kA x.l _ HoB.out HkA.out (by rw [HkA.out, Hg2.out]; decide)).mono ?_
                            rintro e wC ⟨rfl, hmC, hbC⟩
                            have hap : ∀ b, aA = some ⟨b, 0, none⟩ → ¬ (fun b => b < wz.heap.size) b := fun b hb => by
                              have := (HoB.out.a_lt (by rw [HkA.out, Hg2.out]; decide) b hb).1
                              simp only; omega
                            have HDC := Lib.hid ((HDB.out.spoil hmC hap).mono (K' := fun _ => True) (fun _ _ _ => trivial) (Nat.le_refl _))
                            have HNC := Lib.hid ((HNB.out.spoil hmC hap).mono (K' := fun _ => True) (fun _ _ => trivial))
                            have hbD := hbB.trans (hbC.mono hbz.size)
                            have hwk : DD.wake PS.new = DD := wake_on HL8.out
                            rw [hwk] at HDC
                            clear hmC hbC hap hbB hbA
                            go_wp2_with fail
                            go_roundw
                            case rel => exact ⟨j + 1, _, rfl, by omega, by go_num, HDC.out, HNC.out, hbD⟩
                            case measure => simp [intOf]; omega
                          · go_wp2_with fail
                            go_roundw
                            case rel => exact ⟨k + 1, DD, nl2, _, rfl, by omega, by go_num, HD9.out.mono (fun _ _ _ => trivial) (Nat.le_refl _), HN9.out.mono fun _ _ => trivial, Hnl2.out, HC8.out, HL8.out, hbz⟩
                            case measure => simp [intOf]; omega
                    · obtain ⟨DD, HD8, HC8, HL8⟩ : ∃ DD, Hid (DW (fun _ => True) w.heap.size _ g pg 6 DD PS.new (k + 1)) ∧ Hid (Cur DD (nl2.map Bsl.l)) ∧ Hid (DD.life = PS.new.life) := ⟨_, Lib.hid (HD7.out.mono (fun _ _ _ => trivial) (Nat.le_refl _)), HC7, HL7⟩
                      have HN8 := HN7
                      have hb08 := hb07
                      clear hb07
                      go_wp2_with fail
                      go_loopw [15] (fun i wy => ∃ (j : Nat) (wz : World), wz = wy ∧ j ≤ 6 ∧ i = .int .i64 (j : Int) ∧ DW (fun _ => True) w.heap.size wz g pg 6 DD PS.new (k + 1) ∧ NowR (fun _ => True) w.heap.size wz na nl2 ∧ Below w.heap.size w wz) (fun i _ => 6 - (intOf i).toNat)
                      case atStart => exact ⟨0, _, rfl, by omega, rfl, HD8.out, HN8.out, hb08⟩
                      case round =>
                        obtain ⟨j, wz, hwq, hj, rfl, hD, hN, hbz⟩ := hrel
                        subst hwq
                        have HD9 := Lib.hid hD.lt
                        have HN9 := Lib.hid hN.lt
                        clear hD hN hb08
                        by_cases hj6 : j < 6
                        · obtain ⟨hg1, hg2⟩ := HC8.out.2.2 j hj6
                          have hjn : j < nl2.length := by rw [Hnl2.out]; exact hj6
                          have hge : ((nl2.map Bsl.l).getD j []) = (nl2[j]).l := by simp [List.getD_eq_getElem?_getD, hjn]
                          rw [hge] at hg1 hg2
                          have Hg1 := Lib.hid hg1
                          have hcell : wz.cell? ⟨na, j, none⟩ = some (.slice nl2[j].a nl2[j].l.length nl2[j].c) := by
                            obtain ⟨x, hx, _, _, hat, _⟩ := HN9.out.row.at (i := j) hj6
                            simp only [Option.some.injEq, Addr.mk.injEq, and_self, and_true] at hx
                            subst hx
                            have := hat j (by simpa using hjn)
                            simpa [Bsl.val] using this
                          have hheld := HN9.out.held _ (List.getElem_mem hjn)
                          have hnb := (HN9.out.row.blk (by decide)).2.1
                          generalize nl2[j] = x at *
                          have Hheld := Lib.hid hheld
                          have Hg2 := Lib.hid hg2
                          clear hg1 hge hheld hg2
                          go_wp2_with fail
                          refine (HD9.out.read (by decide) (by decide) (by omega) j ((read_on rfl HL8.out _).trans Hg1.out)).mono ?_
                          rintro e wA ⟨aA, cA, kA, rfl, hkA, hoA, hdA, hmA⟩
                          have HDA := Lib.hid hdA
                          have HoA := Lib.hid hoA
                          have HNA := Lib.hid (HN9.out.df hmA)
                          have HkA := Lib.hid hkA
                          have hbA := hbz.trans (hmA.below (fun b T h => h.1) hbz.size)
                          have hcA : wA.cell? ⟨na, j, none⟩ = some (.slice x.a x.l.length x.c) := by
                            have hb := HN9.out.row.blk (by decide)
                            obtain ⟨_, _, cur, hcur⟩ := hb
                            have h2 := hmA.keep hcur (by intro hf; have := hf.2; revert this; decide)
                            rw [← hcell]
                            exact World.cell?_of_block (w := wz) (h2.trans hcur.symm)
                          have hsx := Lib.hid ((Hheld.out.mod hmA (fun b _ _ => DF_no_u8 b)).src)
                          clear hdA hoA hmA hkA hcell
                          go_wp2_with fail
                          refine (bytes_at aA cA x.l x.a x.c x.l wA kA x.l.length true HoA.out.src hsx.out HkA.out rfl (by rw [HkA.out, Hg2.out]; decide) (by rw [Hg2.out]; decide) (decide_eq_true rfl)).mono ?_
                          rintro e wB ⟨rfl, nq, rfl⟩
                          have hbd := ext_drewN wA nq wA.heap.size
                          have HDB := Lib.hid (HDA.out.ext hbd)
                          have HNB := Lib.hid (HNA.out.ext hbd)
                          have HoB := Lib.hid (HoA.out.ext hbd)
                          have hbB := bthen hbA hbd (Nat.le_refl _)
                          clear hbd hcA hsx
                          go_wp2_with fail
                          refine (spoil_mod wz.heap.size aA cA kA x.l _ HoB.out HkA.out (by rw [HkA.out, Hg2.out]; decide)).mono ?_
                          rintro e wC ⟨rfl, hmC, hbC⟩
                          have hap : ∀ b, aA = some ⟨b, 0, none⟩ → ¬ (fun b => b < wz.heap.size) b := fun b hb => by
                            have := (HoB.out.a_lt (by rw [HkA.out, Hg2.out]; decide) b hb).1
                            simp only; omega
                          have HDC := Lib.hid ((HDB.out.spoil hmC hap).mono (K' := fun _ => True) (fun _ _ _ => trivial) (Nat.le_refl _))
                          have HNC := Lib.hid ((HNB.out.spoil hmC hap).mono (K' := fun _ => True) (fun _ _ => trivial))
                          have hbD := hbB.trans (hbC.mono hbz.size)
                          have hwk : DD.wake PS.new = DD := wake_on HL8.out
                          rw [hwk] at HDC
                          clear hmC hbC hap hbB hbA
                          go_wp2_with fail
                          go_roundw
                          case rel => exact ⟨j + 1, _, rfl, by omega, by go_num, HDC.out, HNC.out, hbD⟩
                          case measure => simp [intOf]; omega
                        · go_wp2_with fail
                          go_roundw
                          case rel => exact ⟨k + 1, DD, nl2, _, rfl, by omega, by go_num, HD9.out.mono (fun _ _ _ => trivial) (Nat.le_refl _), HN9.out.mono fun _ _ => trivial, Hnl2.out, HC8.out, HL8.out, hbz⟩
                          case measure => simp [intOf]; omega
                  · have h300' : 300 < q.l.length := by omega
                    go_wp2
                    go_ret
                    exact ⟨rfl, hbr⟩
                · go_wp2_with fail
                  refine (wakes09_any wr).mono ?_
                  rintro e w3 ⟨rfl, hb3⟩
                  go_wp2
                  go_ret
                  exact ⟨rfl, bthen hbr hb3 (Nat.le_refl _)⟩
              · go_wp2_with fail
                refine (wakes09_any wr).mono ?_
                rintro e w3 ⟨rfl, hb3⟩
                go_wp2
                go_ret
                exact ⟨rfl, bthen hbr hb3 (Nat.le_refl _)⟩
      · have g3 : 100 < N := by omega
        go_enter Try.func3, Try.ntmps3
        go_wp2
        go_ret
        exact ⟨rfl, Below.refl _ _⟩
    · have g2 : 40 < M := by omega
      go_enter Try.func3, Try.ntmps3
      go_wp2
      go_ret
      exact ⟨rfl, Below.refl _ _⟩
  · have g1 : 40 < L := by omega
    go_enter Try.func3, Try.ntmps3
    go_wp2
    go_ret
    exact ⟨rfl, Below.refl _ _⟩
end Go.Proofs.Ytfbbejdbofkpaaa
