/- The law BinBack, walked. -/
import Derived.Test.YtobgiapfehffcaaBinWakes
import Derived.Test.YtobgiapfehffcaaBinItems
import Derived.Test.YtobgiapfehffcaaInts
namespace Go.Proofs.Ytobgiapfehffcaa
open Go.RowKit

set_option maxRecDepth 100000 in
set_option maxHeartbeats 8000000 in
theorem binBack_walk (w : World) (an : Option Addr) (cn : Nat) (zs : List Int) (hz : Src w an (ivs zs)) (hzl : zs.length ≤ 9223372036854775807) (a : Option Addr) (c : Nat) (ps : List Bsl) (hm : Mat w a ps) (hn : ps.length ≤ 9223372036854775807) (size : Int) (ws : (Lit.int .i64 size).wf = true) :
    Calls Try.prog 11 #[.slice an zs.length cn, .slice a ps.length c, .int .i64 size] w fun e w' => e = .returned (.bool true) ∧ Below w.heap.size w w' := by
  by_cases h50 : zs.length ≤ 50 ∧ ps.length ≤ 50
  · obtain ⟨z50, p50⟩ := h50
    obtain ⟨k0, hk0, ek⟩ := umod size 7 (by omega) (by omega)
    go_enter Try.func11, Try.ntmps11
    go_wp2_with fail
    rw [ek]
    clear ek ws
    obtain ⟨s, hs⟩ : ∃ s, s = 1 + k0 := ⟨_, rfl⟩
    have es : (1 + (k0 : Int)) = (s : Int) := by omega
    rw [es]
    have hs1 : 1 ≤ s := by omega
    have hs7 : s ≤ 7 := by omega
    clear es hs hk0
    go_loopw [7, 9] (fun v i wr => ∃ (k : Nat) (wz : World) (a' : Option Addr) (c' : Nat), wz = wr ∧ (k ≤ zs.length ∨ k ≤ ps.length) ∧ i = .int .i64 k ∧ v = .slice a' (encN s zs ps k).length c' ∧ Src wz a' (bvs (encN s zs ps k)) ∧ (encN s zs ps k).length ≤ c' ∧ (encN s zs ps k).length ≤ k * 2011 ∧ (∀ p ∈ ps.take k, p.l.length ≤ 2000) ∧ Below w.heap.size w wz) (fun _ i _ => 50 - (intOf i).toNat)
    case atStart => exact ⟨0, _, none, 0, rfl, by omega, rfl, rfl, Src.nil _ _, by simp [encN], by simp [encN], by simp, Below.refl _ _⟩
    case round =>
      obtain ⟨k, wr, a1, c1, rfl, hk, rfl, rfl, hs0, hlc, hle, hall, hb⟩ := hrel
      have Hall := Lib.hid hall
      clear hall
      have henc : Hid (encN s zs ps (k + 1) = encN s zs ps k ++ item s zs ps k) := Lib.hid rfl
      have hm2 := hm.ext hb
      have hz2 := hz.ext hb
      by_cases hkz : k < zs.length
      · obtain ⟨bn, on, rfl, hnb, hatn⟩ := src_ints_at hz2 hkz
        have hcn := hatn k hkz
        obtain ⟨eA, hA⟩ := Am_eq zs[k] s hs7
        have EA := Lib.hid eA
        clear eA hatn
        by_cases hkp : k < ps.length
        · have hrow := hm2.row _ (List.getElem_mem hkp)
          have Htk := Lib.hid (take_succ_list ps k hkp)
          have Hit := Lib.hid (item_both (s := s) hkz hkp)
          obtain ⟨b, o, rfl, hlb, hat⟩ := hm2.at hkp
          have hc := hat k hkp
          clear hat
          generalize hpp : ps[k] = p at *
          clear hpp
          obtain ⟨pa, pc, l⟩ := p
          obtain ⟨hsrc, hl⟩ := hrow
          simp only at hc hsrc hl
          generalize encN s zs ps k = E at *
          generalize item s zs ps k = I at *
          generalize hZ : zs[k] = z at *
          clear hZ
          generalize Am z s = A at *
          by_cases hl2 : l.length ≤ 2000
          · go_wp2_with fail
            rw [EA.out]
            refine (put_ok a1 c1 E.length E A s _ _ wr hs0 rfl rfl rfl (by omega) hs1 hs7 hA).mono ?_
            rintro e w1 ⟨a2, c2, rfl, ho, hb1⟩
            have hs2 := ho.src
            have hlc2 := ho.len
            have hc1 : w1.cell? ⟨b, o + k, none⟩ = some (.slice pa l.length pc) := (World.cell?_of_block (w := wr) (a := ⟨b, o + k, none⟩) (hb1.block b hlb)).trans hc
            have hsrc1 := hsrc.ext hb1
            clear ho
            go_wp2_with fail
            refine (putpart_ok a2 pa (E.length + s) l.length c2 pc (E ++ be A s) l w1 hs2 hsrc1 (by rw [List.length_append, be_length]) rfl (by omega) (by omega)).mono ?_
            rintro e w2 ⟨a3, c3, rfl, ho3, hb2⟩
            have hs3 := ho3.src
            have hlc3 := ho3.len
            clear ho3
            go_wp2_with fail
            go_roundw
            case rel =>
              have hE : encN s zs ps (k + 1) = E ++ be A s ++ be l.length 4 ++ l := by rw [henc.out, Hit.out, enc1]; simp only [List.append_assoc]
              have hEl : (encN s zs ps (k + 1)).length = E.length + s + 4 + l.length := by rw [hE]; simp [be_length] <;> omega
              refine ⟨k + 1, _, a3, c3, rfl, by omega, by go_num, by rw [hEl], by rw [hE]; exact hs3, by rw [hEl]; omega, by rw [hEl]; omega, ?_, bthen hb (bthen hb1 hb2 (Nat.le_refl _)) (Nat.le_refl _)⟩
              intro p hp
              rw [Htk.out] at hp
              rcases List.mem_append.1 hp with h | h
              · exact Hall.out p h
              · simp at h; subst h; exact hl2
            case measure => simp [intOf] <;> omega
          · go_wp2_with fail
            rw [EA.out]
            refine (put_ok a1 c1 E.length E A s _ _ wr hs0 rfl rfl rfl (by omega) hs1 hs7 hA).mono ?_
            rintro e w1 ⟨a2, c2, rfl, ho, hb1⟩
            have hc1 : w1.cell? ⟨b, o + k, none⟩ = some (.slice pa l.length pc) := (World.cell?_of_block (w := wr) (a := ⟨b, o + k, none⟩) (hb1.block b hlb)).trans hc
            clear ho
            go_wp2
            go_ret
            exact ⟨rfl, bthen hb hb1 (Nat.le_refl _)⟩
        · have Hit := Lib.hid (item_num (s := s) hkz hkp)
          have Htk : Hid (ps.take (k + 1) = ps.take k) := Lib.hid (by rw [List.take_of_length_le (by omega), List.take_of_length_le (by omega)])
          generalize encN s zs ps k = E at *
          generalize item s zs ps k = I at *
          generalize hZ : zs[k] = z at *
          clear hZ
          generalize Am z s = A at *
          go_wp2_with fail
          rw [EA.out]
          refine (put_ok a1 c1 E.length E A s _ _ wr hs0 rfl rfl rfl (by omega) hs1 hs7 hA).mono ?_
          rintro e w1 ⟨a2, c2, rfl, ho, hb1⟩
          have hs2 := ho.src
          have hlc2 := ho.len
          clear ho
          go_wp2_with fail
          go_roundw
          case rel =>
            have hE : encN s zs ps (k + 1) = E ++ be A s := by rw [henc.out, Hit.out]
            have hEl : (encN s zs ps (k + 1)).length = E.length + s := by rw [hE]; simp [be_length] <;> omega
            exact ⟨k + 1, _, a2, c2, rfl, by omega, by go_num, by rw [hEl], by rw [hE]; exact hs2, by rw [hEl]; omega, by rw [hEl]; omega, by rw [Htk.out]; exact Hall.out, bthen hb hb1 (Nat.le_refl _)⟩
          case measure => simp [intOf] <;> omega
      · by_cases hkp : k < ps.length
        · have hrow := hm2.row _ (List.getElem_mem hkp)
          have Htk := Lib.hid (take_succ_list ps k hkp)
          have Hit := Lib.hid (item_part (s := s) hkz hkp)
          obtain ⟨b, o, rfl, hlb, hat⟩ := hm2.at hkp
          have hc := hat k hkp
          clear hat
          generalize hpp : ps[k] = p at *
          clear hpp
          obtain ⟨pa, pc, l⟩ := p
          obtain ⟨hsrc, hl⟩ := hrow
          simp only at hc hsrc hl
          generalize encN s zs ps k = E at *
          generalize item s zs ps k = I at *
          by_cases hl2 : l.length ≤ 2000
          · go_wp2_with fail
            refine (putpart_ok a1 pa E.length l.length c1 pc E l wr hs0 hsrc rfl rfl (by omega) (by omega)).mono ?_
            rintro e w2 ⟨a3, c3, rfl, ho3, hb2⟩
            have hs3 := ho3.src
            have hlc3 := ho3.len
            clear ho3
            go_wp2_with fail
            go_roundw
            case rel =>
              have hE : encN s zs ps (k + 1) = E ++ be l.length 4 ++ l := by rw [henc.out, Hit.out, enc1]; simp only [List.append_assoc]
              have hEl : (encN s zs ps (k + 1)).length = E.length + 4 + l.length := by rw [hE]; simp [be_length] <;> omega
              refine ⟨k + 1, _, a3, c3, rfl, by omega, by go_num, by rw [hEl], by rw [hE]; exact hs3, by rw [hEl]; omega, by rw [hEl]; omega, ?_, bthen hb hb2 (Nat.le_refl _)⟩
              intro p hp
              rw [Htk.out] at hp
              rcases List.mem_append.1 hp with h | h
              · exact Hall.out p h
              · simp at h; subst h; exact hl2
            case measure => simp [intOf] <;> omega
          · go_wp2
            go_ret
            exact ⟨rfl, hb⟩
        · have hall : ∀ p ∈ ps, p.l.length ≤ 2000 := by
            have := Hall.out
            rwa [List.take_of_length_le (by omega)] at this
          have Hall2 := Lib.hid hall
          have Hsp := Lib.hid (fun j h => encN_split (s := s) (zs := zs) (ps := ps) k j h)
          clear hall Hall henc
          have hT : Hid (encN s zs ps k = encN s zs ps k) := Lib.hid rfl
          obtain ⟨T, hTe⟩ : ∃ T, encN s zs ps k = T := ⟨_, rfl⟩
          have HTe := Lib.hid hTe
          rw [hTe] at hs0 hlc hle
          have hsp : ∀ j, j < k → ∃ R, T = encN s zs ps j ++ item s zs ps j ++ R := fun j h => by rw [← hTe]; exact Hsp.out j h
          have Hsp := Lib.hid hsp
          rw [hTe]
          clear hsp hTe hT
          have hkk : k * 2011 ≤ 100550 := by omega
          go_wp2_with fail
          go_loopw [10, 11] (fun v i wx => ∃ (j : Nat) (wz : World), wz = wx ∧ j ≤ k ∧ i = .int .i64 j ∧ v = .int .i64 ((encN s zs ps j).length : Int) ∧ Below wr.heap.size wr wz) (fun _ i _ => k - (intOf i).toNat)
          case atStart => exact ⟨0, _, rfl, by omega, rfl, by simp [encN], Below.refl _ _⟩
          case round =>
            obtain ⟨j, wx, rfl, hj, rfl, rfl, hb2⟩ := hrel
            by_cases hjk : j < k
            · obtain ⟨R, hR⟩ := Hsp.out j hjk
              have hsT := hs0.ext hb2
              have hnx : Hid (encN s zs ps (j + 1) = encN s zs ps j ++ item s zs ps j) := Lib.hid rfl
              have hm3 := hm2.ext hb2
              have hz3 := hz2.ext hb2
              by_cases hkz : j < zs.length
              · obtain ⟨bn, on, rfl, hnb, hatn⟩ := src_ints_at hz3 hkz
                have hcn := hatn j hkz
                obtain ⟨eA, hA⟩ := Am_eq zs[j] s hs7
                clear hatn
                by_cases hkp : j < ps.length
                · have hrow := hm3.row _ (List.getElem_mem hkp)
                  have hl2 := Hall2.out _ (List.getElem_mem hkp)
                  have Hit := Lib.hid (item_both (s := s) hkz hkp)
                  obtain ⟨b, o, rfl, hlb, hat⟩ := hm3.at hkp
                  have hc := hat j hkp
                  clear hat
                  generalize hpp : ps[j] = p at *
                  clear hpp
                  obtain ⟨pa, pc, l⟩ := p
                  obtain ⟨hsrc, hl⟩ := hrow
                  simp only at hc hsrc hl hl2
                  generalize encN s zs ps j = E at *
                  generalize item s zs ps j = I at *
                  generalize hZ : zs[j] = z at *
                  clear hZ
                  generalize Am z s = A at *
                  have hR1 : T = E ++ be A s ++ (enc1 l ++ R) := by rw [hR, Hit.out]; simp only [List.append_assoc]
                  have hR2 : T = (E ++ be A s) ++ enc1 l ++ R := by rw [hR1]; simp only [List.append_assoc]
                  have hTl : T.length = E.length + s + (4 + l.length) + R.length := by rw [hR2]; simp [be_length, enc1_length] <;> omega
                  have hg1 : numOf ((T.drop E.length).take s) = A := by rw [hR1]; exact mid_num E _ A s hA
                  have hEl : (E ++ be A s).length = E.length + s := by simp [be_length] <;> omega
                  have hg2 : lenAt T (E.length + s) = l.length := by rw [hR2, ← hEl]; exact mid_len _ l R (by omega)
                  have hg3 : (T.drop (E.length + s + 4)).take l.length = l := by rw [hR2, ← hEl]; exact mid_data _ l R
                  have HC1 := Lib.hid (get_ok a1 c1 T.length T E.length s _ _ wx hsT rfl rfl rfl (by omega) hlc hs1 hs7 (by omega))
                  have HC2 := Lib.hid (getpart_ok a1 c1 T.length T (E.length + s) _ wx hsT rfl rfl (by omega) hlc (by omega) (by rw [hg2]; omega) (by rw [hg2]; omega))
                  rw [hg1] at HC1
                  rw [hg2, hg3] at HC2
                  have hEs : E.length + s + 4 ≤ 200000 := by omega
                  clear hg1 hg2 hg3 hR1 hR2 hR hTl hEl
                  go_wp2_with fail
                  refine HC1.out.mono ?_
                  rintro e w1 ⟨rfl, rfl⟩
                  go_wp2_with fail
                  refine HC2.out.mono ?_
                  rintro e w2 ⟨a2, c2, rfl, ho2, hb3⟩
                  have hc1 : w2.cell? ⟨b, o + j, none⟩ = some (.slice pa l.length pc) := (World.cell?_of_block (w := wx) (a := ⟨b, o + j, none⟩) (hb3.block b hlb)).trans hc
                  have hsrc1 := hsrc.ext hb3
                  have ho2s := ho2.src
                  clear ho2
                  go_wp2_with fail
                  refine (bytes_at a2 c2 l pa pc l w2 _ _ true ho2s hsrc1 rfl rfl (by omega) (by omega) (by simp)).mono ?_
                  rintro e w3 ⟨rfl, nn, rfl⟩
                  go_wp2_with fail
                  go_roundw
                  case rel =>
                    have hE : (encN s zs ps (j + 1)).length = E.length + s + 4 + l.length := by rw [hnx.out, Hit.out]; simp [be_length, enc1_length] <;> omega
                    exact ⟨j + 1, _, rfl, by omega, by go_num, by rw [hE]; go_num, below_drewN (bthen hb2 hb3 (Nat.le_refl _)) nn⟩
                  case measure => simp [intOf] <;> omega
                · have Hit := Lib.hid (item_num (s := s) hkz hkp)
                  generalize encN s zs ps j = E at *
                  generalize item s zs ps j = I at *
                  generalize hZ : zs[j] = z at *
                  clear hZ
                  generalize Am z s = A at *
                  have hR1 : T = E ++ be A s ++ R := by rw [hR, Hit.out]
                  have hTl : T.length = E.length + s + R.length := by rw [hR1]; simp [be_length] <;> omega
                  have hg1 : numOf ((T.drop E.length).take s) = A := by rw [hR1]; exact mid_num E _ A s hA
                  have HC1 := Lib.hid (get_ok a1 c1 T.length T E.length s _ _ wx hsT rfl rfl rfl (by omega) hlc hs1 hs7 (by omega))
                  rw [hg1] at HC1
                  have hEs : E.length + s ≤ 200000 := by omega
                  clear hg1 hR1 hR hTl
                  go_wp2_with fail
                  refine HC1.out.mono ?_
                  rintro e w1 ⟨rfl, rfl⟩
                  go_wp2_with fail
                  go_roundw
                  case rel =>
                    have hE : (encN s zs ps (j + 1)).length = E.length + s := by rw [hnx.out, Hit.out]; simp [be_length] <;> omega
                    exact ⟨j + 1, _, rfl, by omega, by go_num, by rw [hE]; go_num, hb2⟩
                  case measure => simp [intOf] <;> omega
              · have hkp : j < ps.length := by omega
                have hrow := hm3.row _ (List.getElem_mem hkp)
                have hl2 := Hall2.out _ (List.getElem_mem hkp)
                have Hit := Lib.hid (item_part (s := s) hkz hkp)
                obtain ⟨b, o, rfl, hlb, hat⟩ := hm3.at hkp
                have hc := hat j hkp
                clear hat
                generalize hpp : ps[j] = p at *
                clear hpp
                obtain ⟨pa, pc, l⟩ := p
                obtain ⟨hsrc, hl⟩ := hrow
                simp only at hc hsrc hl hl2
                generalize encN s zs ps j = E at *
                generalize item s zs ps j = I at *
                have hR2 : T = E ++ enc1 l ++ R := by rw [hR, Hit.out]
                have hTl : T.length = E.length + (4 + l.length) + R.length := by rw [hR2]; simp [enc1_length] <;> omega
                have hg2 : lenAt T E.length = l.length := by rw [hR2]; exact mid_len _ l R (by omega)
                have hg3 : (T.drop (E.length + 4)).take l.length = l := by rw [hR2]; exact mid_data _ l R
                have HC2 := Lib.hid (getpart_ok a1 c1 T.length T E.length _ wx hsT rfl rfl (by omega) hlc (by omega) (by rw [hg2]; omega) (by rw [hg2]; omega))
                rw [hg2, hg3] at HC2
                have hEs : E.length + 4 ≤ 200000 := by omega
                clear hg2 hg3 hR2 hR hTl
                go_wp2_with fail
                refine HC2.out.mono ?_
                rintro e w2 ⟨a2, c2, rfl, ho2, hb3⟩
                have hc1 : w2.cell? ⟨b, o + j, none⟩ = some (.slice pa l.length pc) := (World.cell?_of_block (w := wx) (a := ⟨b, o + j, none⟩) (hb3.block b hlb)).trans hc
                have hsrc1 := hsrc.ext hb3
                have ho2s := ho2.src
                clear ho2
                go_wp2_with fail
                refine (bytes_at a2 c2 l pa pc l w2 _ _ true ho2s hsrc1 rfl rfl (by omega) (by omega) (by simp)).mono ?_
                rintro e w3 ⟨rfl, nn, rfl⟩
                go_wp2_with fail
                go_roundw
                case rel =>
                  have hE : (encN s zs ps (j + 1)).length = E.length + 4 + l.length := by rw [hnx.out, Hit.out]; simp [enc1_length] <;> omega
                  exact ⟨j + 1, _, rfl, by omega, by go_num, by rw [hE]; go_num, below_drewN (bthen hb2 hb3 (Nat.le_refl _)) nn⟩
                case measure => simp [intOf] <;> omega
            · obtain rfl : j = k := by omega
              rw [HTe.out]
              go_wp2_with fail
              refine (wakes01_any _).mono ?_
              rintro e w6 ⟨rfl, hb6⟩
              go_wp2
              go_ret
              exact ⟨rfl, bthen hb (bthen hb2 hb6 (Nat.le_refl _)) (Nat.le_refl _)⟩
  · rcases (show 50 < zs.length ∨ (zs.length ≤ 50 ∧ 50 < ps.length) by omega) with h | ⟨h, h'⟩
    all_goals
      clear h50
      go_enter Try.func11, Try.ntmps11
      go_wp2
      go_ret
      exact ⟨rfl, Below.refl _ _⟩
end Go.Proofs.Ytobgiapfehffcaa
