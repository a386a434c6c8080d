/- The law BinParts, walked. -/
import Derived.Test.YtobgiapfehffcaaBinWakes
import Derived.Test.YtobgiapfehffcaaBinEnc
namespace Go.Proofs.Ytobgiapfehffcaa
open Go.RowKit

set_option maxRecDepth 100000 in
set_option maxHeartbeats 4000000 in
theorem binParts_walk (w : World) (a : Option Addr) (c : Nat) (ps : List Bsl) (hm : Mat w a ps) (hn : ps.length ≤ 9223372036854775807) (cut : Int) (hcut : (Lit.int .i64 cut).wf = true) :
    Calls Try.prog 13 #[.slice a ps.length c, .int .i64 cut] w fun e w' => e = .returned (.bool true) ∧ Below w.heap.size w w' := by
  by_cases h20 : ps.length ≤ 20
  · go_enter Try.func13, Try.ntmps13
    go_wp2_with fail
    go_loopw [5, 6] (fun v i wr => ∃ (k : Nat) (a' : Option Addr) (c' : Nat), k ≤ ps.length ∧ i = .int .i64 k ∧ v = .slice a' (enc (ps.take k)).length c' ∧ Src wr a' (bvs (enc (ps.take k))) ∧ (enc (ps.take k)).length ≤ c' ∧ (∀ p ∈ ps.take k, p.l.length ≤ 2000) ∧ Below w.heap.size w wr) (fun _ i _ => ps.length - (intOf i).toNat)
    case atStart => exact ⟨0, none, 0, by omega, rfl, rfl, Src.nil _ _, by simp [enc], by simp, Below.refl _ _⟩
    case round =>
      rename_i wr
      obtain ⟨k, a1, c1, hk, rfl, rfl, hs, hlc, hall, hb⟩ := hrel
      have hle := enc_le ps k 2000 hk hall
      have Hall := Lib.hid hall
      clear hall
      by_cases hlt : k < ps.length
      · have hm2 := hm.ext hb
        have hrow := hm2.row _ (List.getElem_mem hlt)
        have Htk := Lib.hid (take_succ_list ps k hlt)
        obtain ⟨b, o, rfl, hlb, hat⟩ := hm2.at hlt
        have hc := hat k hlt
        clear hat
        generalize hpp : ps[k] = p at *
        clear hpp
        obtain ⟨pa, pc, l⟩ := p
        obtain ⟨hsrc, hl⟩ := hrow
        simp only at hc hsrc hl
        have Henc : Hid (enc (ps.take (k + 1)) = enc (ps.take k) ++ enc1 l) := Lib.hid (by rw [Htk.out, enc_snoc])
        by_cases hl2 : l.length ≤ 2000
        · have hkk : k * (2000 + 4) ≤ 40080 := by omega
          generalize enc (ps.take k) = E at *
          go_wp2_with fail
          refine (putpart_ok a1 pa E.length l.length c1 pc E l wr hs hsrc rfl rfl (by omega) (by omega)).mono ?_
          rintro e w1 ⟨a2, c2, rfl, ho, hb1⟩
          have hs2 := ho.src
          have hlc2 := ho.len
          have hc1 : w1.cell? ⟨b, o + k, none⟩ = some (.slice pa l.length pc) := (World.cell?_of_block (w := wr) (a := ⟨b, o + k, none⟩) (hb1.block b hlb)).trans hc
          clear ho
          go_wp2_with fail
          go_roundw
          case rel =>
            refine ⟨k + 1, a2, c2, by omega, by go_num, ?_, ?_, ?_, ?_, bthen hb hb1 (Nat.le_refl _)⟩
            · rw [Henc.out, List.length_append, enc1_length, Nat.add_assoc]
            · rw [Henc.out, enc1, ← List.append_assoc]; exact hs2
            · rw [Henc.out, List.length_append, enc1_length]; omega
            · intro p hp
              rw [Htk.out] at hp
              rcases List.mem_append.1 hp with h | h
              · exact Hall.out p h
              · simp at h; subst h; exact hl2
          case measure => simp [intOf] <;> omega
        · go_wp2
          go_ret
          exact ⟨rfl, hb⟩
      · obtain rfl : k = ps.length := by omega
        have hall := Hall.out
        rw [List.take_length] at hs hlc hall hle ⊢
        have Hall2 := Lib.hid hall
        clear hall Hall
        have hEl : (enc ps).length ≤ 40080 := by omega
        obtain ⟨K, hK, ek⟩ := umod cut ((enc ps).length + 1) (by omega) (by omega)
        have hsp := fun k h => enc_split ps k h
        have Hsp := Lib.hid hsp
        clear hsp hle
        have HE : Hid (enc (ps.take ps.length) = enc ps) := Lib.hid (by rw [List.take_length])
        generalize enc ps = E at *
        go_wp2_with fail
        rw [ek]
        clear ek hcut
        have hK1 : K ≤ E.length := by omega
        have hK2 : K ≤ c1 := by omega
        have hsK : Src wr a1 (bvs (E.take K)) := by rw [bvs_take]; exact hs.take K
        go_loopw [10, 11] (fun v i wx => ∃ (j : Nat) (wz : World), wz = wx ∧ j ≤ ps.length ∧ i = .int .i64 j ∧ v = .int .i64 ((enc (ps.take j)).length : Int) ∧ (enc (ps.take j)).length ≤ K ∧ Below wr.heap.size wr wz) (fun _ i _ => ps.length - (intOf i).toNat)
        case atStart => exact ⟨0, _, rfl, by omega, rfl, by simp [enc], by simp [enc], Below.refl _ _⟩
        case round =>
          obtain ⟨j, wx, rfl, hj, rfl, rfl, hAK, hbx⟩ := hrel
          by_cases hlt : j < ps.length
          · have hmx := (hm.ext hb).ext hbx
            have hrow := hmx.row _ (List.getElem_mem hlt)
            have hl2 := Hall2.out _ (List.getElem_mem hlt)
            have Htk := Lib.hid (take_succ_list ps j hlt)
            have hE := Hsp.out j hlt
            obtain ⟨b, o, rfl, hlb, hat⟩ := hmx.at hlt
            have hc := hat j hlt
            clear hat
            generalize hpp : ps[j] = p at *
            clear hpp
            obtain ⟨pa, pc, l⟩ := p
            obtain ⟨hsrc, hl⟩ := hrow
            simp only at hc hsrc hl hl2 hE
            have Henc : Hid (enc (ps.take (j + 1)) = enc (ps.take j) ++ enc1 l) := Lib.hid (by rw [Htk.out, enc_snoc])
            generalize enc (ps.take j) = A at *
            generalize enc (ps.drop (j + 1)) = R at *
            have hsKx := hsK.ext hbx
            have hTl : (E.take K).length = K := by simp; omega
            have hbw := bthen hb hbx (Nat.le_refl _)
            by_cases hgo : A.length + 4 + l.length ≤ K
            · have hla : lenAt (E.take K) A.length = l.length := by rw [hE]; exact part_len A l R K (by omega) (by omega)
              have hda : ((E.take K).drop (A.length + 4)).take l.length = l := by rw [hE]; exact part_data A l R K hgo
              have HG := getpart_ok a1 c1 K (E.take K) A.length _ wx hsKx hTl.symm rfl (by omega) (by omega) (by omega) (by rw [hla]; omega) (by rw [hla]; omega)
              rw [hla, hda] at HG
              have HG := Lib.hid HG
              clear hla hda hE hTl
              go_wp2_with fail
              refine HG.out.mono ?_
              rintro e w5 ⟨a5, c5, rfl, ho5, hb5⟩
              have hs5 := ho5.src
              have hsr5 := hsrc.ext hb5
              have hcell5 := (hb5.block b hlb)
              have hc5 : w5.cell? ⟨b, o + j, none⟩ = some (.slice pa l.length pc) := (World.cell?_of_block (w := wx) (a := ⟨b, o + j, none⟩) hcell5).trans hc
              clear HG ho5 hcell5
              go_wp2_with fail
              refine (bytes_at a5 c5 l pa pc l w5 _ _ true hs5 hsr5 rfl rfl (by omega) (by omega) (by simp)).mono ?_
              rintro e w6 ⟨rfl, nn, rfl⟩
              go_wp2_with fail
              go_roundw
              case rel => exact ⟨j + 1, _, rfl, by omega, by go_num, by rw [Henc.out, List.length_append, enc1_length]; go_num, by rw [Henc.out, List.length_append, enc1_length]; omega, below_drewN (bthen hbx hb5 (Nat.le_refl _)) nn⟩
              case measure => simp [intOf] <;> omega
            · have HG : Hid (Calls Try.prog 33 #[.slice a1 K c1, .int .i64 ((A.length : Nat) : Int)] wx fun e w' => e = .returned (.tuple #[.slice none 0 0, .int .i64 0, .int .i64 3]) ∧ wx = w') := by
                by_cases h4 : A.length + 4 ≤ K
                · have hla : lenAt (E.take K) A.length = l.length := by rw [hE]; exact part_len A l R K (by omega) (by omega)
                  exact Lib.hid (getpart_bad a1 c1 K (E.take K) A.length _ wx hsKx hTl.symm rfl (by omega) (by omega) h4 (by rw [hla]; omega))
                · exact Lib.hid (getpart_few a1 K c1 _ wx (by omega) (by omega) (by omega) (by omega))
              clear hE hTl
              go_wp2_with fail
              refine HG.out.mono ?_
              rintro e w5 ⟨rfl, rfl⟩
              go_wp2_with fail
              refine (wakes01_any _).mono ?_
              rintro e w6 ⟨rfl, hb6⟩
              go_wp2
              go_ret
              exact ⟨rfl, bthen hbw hb6 (Nat.le_refl _)⟩
          · obtain rfl : j = ps.length := by omega
            rw [HE.out] at hAK ⊢
            have hKE : K = E.length := by omega
            have hbw := bthen hb hbx (Nat.le_refl _)
            clear hKE
            go_wp2_with fail
            refine (getpart_few a1 E.length c1 _ wx (by omega) (by omega) (by omega) (by omega)).mono ?_
            rintro e w5 ⟨rfl, rfl⟩
            go_wp2_with fail
            refine (wakes01_any _).mono ?_
            rintro e w6 ⟨rfl, hb6⟩
            go_wp2
            go_ret
            exact ⟨rfl, bthen hbw hb6 (Nat.le_refl _)⟩
  · go_enter Try.func13, Try.ntmps13
    go_wp2
    go_ret
    exact ⟨rfl, Below.refl _ _⟩
end Go.Proofs.Ytobgiapfehffcaa
