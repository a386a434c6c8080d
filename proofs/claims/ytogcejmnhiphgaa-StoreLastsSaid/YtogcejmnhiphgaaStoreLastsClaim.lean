/- The law StoreLasts holds of the program: for every input it returns true and leaves its arguments as they were. Conditions: none. -/
import Derived.Test.YtogcejmnhiphgaaStoreLasts
import Derived.Test.YtogcejmnhiphgaaRows
import Derived.Test.YtogcejmnhiphgaaLaw
import Derived.Test.YtogcejmnhiphgaaLawSaves
namespace Go.Proofs.Ytogcejmnhiphgaa.storeLasts
open Go.ChangeShapes Go.WideShapes Go.ChangeAt Go.RowKit
set_option linter.unusedVariables false

theorem own : ownKnob Try.prog.godebug = none := by kernel_rfl
theorem laidOut : laidOutB Try.prog = true := by kernel_rfl
theorem readable : (Try.f11.params.toList.all fun t => Try.prog.readableRec t && decide (t < Try.prog.types.size)) = true := by kernel_rfl

set_option maxRecDepth 100000 in
theorem lifted (os : Os) (started : os.Started) (H : Type) (enc : TypeId × Value → H) :
    ReturnsInHanded {} Try.checked os 11 .any (Rows.storeLastsSpec.pre6 enc Try.prog Try.f11 Rows.storeLastsRow.domain false) (Rows.storeLastsSpec.post enc Try.prog Try.f11 false true false false) := by
  refine returnsInHanded_of_change (C := Try.checked) own started (by kernel_rfl) Try.func11
    (ChangeSpec.witness6 (enc := enc) (C := Try.checked) false ⟨#[], #[.slice none 0 0], []⟩ 8 (by kernel_rfl) (by kernel_rfl) (by kernel_rfl) (by kernel_rfl)) ?_
  intro W base args ds gs before hval0 hW hcnd _
  have hval : ∀ (j : Nat) t v, Try.f11.params[j]? = some t → args[j]? = some v → Value.okWide Try.prog W .any base t v := hval0
  have hW' := hW
  obtain ⟨p, q, hA0, hV, rfl, hfz, hnd⟩ := hW
  have hA : DataW.TrodAll enc Try.prog W 0 (fun _ => true) true Try.f11.params.toList args.toList ds p := hA0
  rw [Try.params11] at hA hval
  obtain ⟨v0, vs0, d0, ds0, p0, q0, hargs, rfl, rfl, h0, r0⟩ := trodAll_cons hA
  obtain ⟨rfl, rfl, rfl⟩ := trodAll_nil r0
  obtain rfl : args = #[v0] := by cases args; simp_all
  obtain ⟨x0, n0, m0, rfl⟩ := okWide_slice Try.underlying74 (hval 0 74 v0 rfl rfl)
  obtain ⟨fu0, hf0⟩ := h0
  obtain ⟨a0, c0, l0, e0, s0, o0, b0, k0⟩ := open_flt SaveV.cells (SaveV.ok W) SaveV.len (by decide) Try.underlying74 (by kernel_rfl) (fun n cs y h => save_dec Try.underlying78 (by kernel_rfl) (by kernel_rfl) Try.underlying34 Try.underlying3 Try.underlying3 Try.underlying67 Try.underlying3 Try.underlying26 Try.underlying5 (by kernel_rfl) Try.underlying4 (by kernel_rfl) Try.underlying3 (by kernel_rfl) h) hf0
  obtain ⟨rfl, rfl, rfl⟩ := Value.slice.inj e0
  refine (storeLasts_walk W x0 m0 l0 ⟨s0, o0⟩ b0).mono fun e W' ⟨he, hb⟩ => ?_
  exact ⟨_, he, law_post laidOut hW' rfl rfl rfl rfl rfl Try.underlying4 readable hb⟩

theorem over : Rows.storeLastsRow.holds Try.pinned (OpenSpec.ofChange Rows.storeLastsSpec) :=
  OpenClaim.holds_of_wide 11 Try.f11 rfl rfl rfl rfl rfl rfl rfl ⟨rfl, rfl, rfl, rfl, rfl⟩ rfl rfl rfl rfl rfl (by kernel_rfl) Try.func11 (by kernel_rfl)
    (of_decide_eq_true (by kernel_rfl)) (by unfold Func.isWrapper; first | (rw [if_pos (by decide +kernel)]; kernel_rfl) | (rw [if_neg (by decide +kernel)]; exact ⟨rfl, rfl⟩))
    (fun os started H enc _ => lifted os started H enc)

end Go.Proofs.Ytogcejmnhiphgaa.storeLasts
namespace Go.Proofs.Ytogcejmnhiphgaa
/-- The statement. -/
theorem storeLasts_holds : Rows.StoreLastsSaid := storeLasts.over
end Go.Proofs.Ytogcejmnhiphgaa
