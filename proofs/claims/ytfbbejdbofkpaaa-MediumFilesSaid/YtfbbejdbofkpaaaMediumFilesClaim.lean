/- The law MediumFiles holds of the program: for every input it returns true and leaves its arguments as they were. Conditions: none. -/
import Derived.Test.YtfbbejdbofkpaaaMediumFiles
import Derived.Test.YtfbbejdbofkpaaaRows
import Derived.Test.YtfbbejdbofkpaaaLaw
import Derived.Test.YtfbbejdbofkpaaaLawMed
namespace Go.Proofs.Ytfbbejdbofkpaaa.mediumFiles
open Go.ChangeShapes Go.WideShapes Go.ChangeAt Go.RowKit
set_option linter.unusedVariables false

theorem own : ownKnob Try.prog.godebug = none := by kernel_rfl
theorem laidOut : laidOutB Try.prog = true := by kernel_rfl
theorem readable : (Try.f7.params.toList.all fun t => Try.prog.readableRec t && decide (t < Try.prog.types.size)) = true := by kernel_rfl

set_option maxRecDepth 100000 in
theorem lifted (os : Os) (started : os.Started) (H : Type) (enc : TypeId × Value → H) :
    ReturnsInHanded {} Try.checked os 7 .any (Rows.mediumFilesSpec.pre6 enc Try.prog Try.f7 Rows.mediumFilesRow.domain false) (Rows.mediumFilesSpec.post enc Try.prog Try.f7 false true false false) := by
  refine returnsInHanded_of_change (C := Try.checked) own started (by kernel_rfl) Try.func7
    (ChangeSpec.witness6 (enc := enc) (C := Try.checked) false ⟨#[], #[.agg #[.int .i64 0, .slice none 0 0]], []⟩ 8 (by kernel_rfl) (by kernel_rfl) (by kernel_rfl) (by kernel_rfl)) ?_
  intro W base args ds gs before hval0 hW hcnd _
  have hval : ∀ (j : Nat) t v, Try.f7.params[j]? = some t → args[j]? = some v → Value.okWide Try.prog W .any base t v := hval0
  have hW' := hW
  obtain ⟨p, q, hA0, hV, rfl, hfz, hnd⟩ := hW
  have hA : DataW.TrodAll enc Try.prog W 0 (fun _ => true) true Try.f7.params.toList args.toList ds p := hA0
  rw [Try.params7] at hA hval
  obtain ⟨v0, vs0, d0, ds0, p0, q0, hargs, rfl, rfl, h0, r0⟩ := trodAll_cons hA
  obtain ⟨rfl, rfl, rfl⟩ := trodAll_nil r0
  obtain rfl : args = #[v0] := by cases args; simp_all
  obtain ⟨q0, a0, c0, l0, rfl, s0, b0, k0, w0⟩ := open_med Try.underlying60 (by kernel_rfl) (by kernel_rfl) Try.underlying3 Try.underlying58 Try.underlying77 (by kernel_rfl) (by kernel_rfl) Try.underlying3 Try.underlying31 Try.underlying4 Try.underlying5 (by kernel_rfl) (hval 0 60 v0 rfl rfl) h0
  refine (mediumFiles_walk W q0 a0 c0 l0 s0 b0 k0).mono fun e W' ⟨he, hb⟩ => ?_
  exact ⟨_, he, law_post laidOut hW' rfl rfl rfl rfl rfl Try.underlying4 readable hb⟩

theorem over : Rows.mediumFilesRow.holds Try.pinned (OpenSpec.ofChange Rows.mediumFilesSpec) :=
  OpenClaim.holds_of_wide 7 Try.f7 rfl rfl rfl rfl rfl rfl rfl ⟨rfl, rfl, rfl, rfl, rfl⟩ rfl rfl rfl rfl rfl (by kernel_rfl) Try.func7 (by kernel_rfl)
    (of_decide_eq_true (by kernel_rfl)) (by unfold Func.isWrapper; first | (rw [if_pos (by decide +kernel)]; kernel_rfl) | (rw [if_neg (by decide +kernel)]; exact ⟨rfl, rfl⟩))
    (fun os started H enc _ => lifted os started H enc)

end Go.Proofs.Ytfbbejdbofkpaaa.mediumFiles
namespace Go.Proofs.Ytfbbejdbofkpaaa
/-- The statement. -/
theorem mediumFiles_holds : Rows.MediumFilesSaid := mediumFiles.over
end Go.Proofs.Ytfbbejdbofkpaaa
