/- The row of the law FnExactChoicesTake: it returns true for all arguments, which read behind the call as before; no conditions. -/
import Derived.Test.YtegjfjckijmgcaaRunChoicesTake
set_option linter.unusedVariables false
namespace Go.Proofs.Ytegjfjckijmgcaa.fnExactChoicesTake
open Go.ChangeShapes Go.WideShapes Go.ChangeAt Go.RowKit Aw
set_option maxRecDepth 100000

theorem closed0 : (Rows.fnExactChoicesTakeRow.inPlace == Try.pinned.checked.prog.inPlace 13) = true := by kernel_rfl
theorem closed1 : (Rows.fnExactChoicesTakeRow.unfollowed == Try.pinned.checked.prog.unfollowed 13) = true := by kernel_rfl
theorem closed2 : (Rows.fnExactChoicesTakeRow.recurses == Try.pinned.checked.prog.recurses 13) = true := by kernel_rfl
theorem closed3 : (Rows.fnExactChoicesTakeRow.named == Try.pinned.checked.prog.varsNamed 13) = true := by kernel_rfl
theorem closed : joinedFacts Try.pinned.checked.prog 13 Try.f13 Rows.fnExactChoicesTakeSpec Rows.fnExactChoicesTakeRow = true := by
  unfold joinedFacts
  rw [closed0, closed1, closed2, closed3]
  kernel_rfl
theorem over : Rows.fnExactChoicesTakeRow.holds Try.pinned (OpenSpec.ofChange Rows.fnExactChoicesTakeSpec) :=
  OpenClaim.holds_of_wide 13 Try.f13 rfl rfl rfl rfl rfl rfl rfl ⟨rfl, rfl, rfl, rfl, rfl⟩ rfl rfl rfl rfl rfl (by kernel_rfl) Try.func13 closed
    (of_decide_eq_true (by kernel_rfl)) (by unfold Func.isWrapper; first | (rw [if_pos (by decide +kernel)]; kernel_rfl) | (rw [if_neg (by decide +kernel)]; exact ⟨rfl, rfl⟩))
    (fun os started H enc _ => lifted os started H enc)
theorem proved : Rows.FnExactChoicesTakeSaid := over
#print axioms proved
end Go.Proofs.Ytegjfjckijmgcaa.fnExactChoicesTake
namespace Go.Proofs.Ytegjfjckijmgcaa
/-- The row, under a short name, for the claim. -/
theorem fnExactChoicesTake_holds : Rows.FnExactChoicesTakeSaid := fnExactChoicesTake.proved
end Go.Proofs.Ytegjfjckijmgcaa
