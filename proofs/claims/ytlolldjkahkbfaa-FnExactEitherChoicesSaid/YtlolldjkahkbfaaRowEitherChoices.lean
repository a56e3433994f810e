/- The row of the law FnExactEitherChoices: it returns true for all arguments, which read behind the call as before; no conditions. -/
import Derived.Test.YtlolldjkahkbfaaRunEitherChoices
set_option linter.unusedVariables false
namespace Go.Proofs.Ytlolldjkahkbfaa.fnExactEitherChoices
open Go.ChangeShapes Go.WideShapes Go.ChangeAt Go.RowKit Aw
set_option maxRecDepth 100000

theorem closed0 : (Rows.fnExactEitherChoicesRow.inPlace == Try.pinned.checked.prog.inPlace 7) = true := by kernel_rfl
theorem closed1 : (Rows.fnExactEitherChoicesRow.unfollowed == Try.pinned.checked.prog.unfollowed 7) = true := by kernel_rfl
theorem closed2 : (Rows.fnExactEitherChoicesRow.recurses == Try.pinned.checked.prog.recurses 7) = true := by kernel_rfl
theorem closed3 : (Rows.fnExactEitherChoicesRow.named == Try.pinned.checked.prog.varsNamed 7) = true := by kernel_rfl
theorem closed : joinedFacts Try.pinned.checked.prog 7 Try.f7 Rows.fnExactEitherChoicesSpec Rows.fnExactEitherChoicesRow = true := by
  unfold joinedFacts
  rw [closed0, closed1, closed2, closed3]
  kernel_rfl
theorem over : Rows.fnExactEitherChoicesRow.holds Try.pinned (OpenSpec.ofChange Rows.fnExactEitherChoicesSpec) :=
  OpenClaim.holds_of_wide 7 Try.f7 rfl rfl rfl rfl rfl rfl rfl ⟨rfl, rfl, rfl, rfl, rfl⟩ rfl rfl rfl rfl rfl (by kernel_rfl) Try.func7 closed
    (of_decide_eq_true (by kernel_rfl)) (by unfold Func.isWrapper; first | (rw [if_pos (by decide +kernel)]; kernel_rfl) | (rw [if_neg (by decide +kernel)]; exact ⟨rfl, rfl⟩))
    (fun os started H enc _ => lifted os started H enc)
theorem proved : Rows.FnExactEitherChoicesSaid := over
#print axioms proved
end Go.Proofs.Ytlolldjkahkbfaa.fnExactEitherChoices
namespace Go.Proofs.Ytlolldjkahkbfaa
/-- The row, under a short name, for the claim. -/
theorem fnExactEitherChoices_holds : Rows.FnExactEitherChoicesSaid := fnExactEitherChoices.proved
end Go.Proofs.Ytlolldjkahkbfaa
