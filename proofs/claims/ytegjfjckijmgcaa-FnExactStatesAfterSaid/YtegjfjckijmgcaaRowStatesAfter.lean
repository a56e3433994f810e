/- The row of the law FnExactStatesAfter: it returns true for all arguments, which read behind the call as before; no conditions. -/
import Derived.Test.YtegjfjckijmgcaaRunStatesAfter
set_option linter.unusedVariables false
namespace Go.Proofs.Ytegjfjckijmgcaa.fnExactStatesAfter
open Go.ChangeShapes Go.WideShapes Go.ChangeAt Go.RowKit Aw
set_option maxRecDepth 100000

theorem closed0 : (Rows.fnExactStatesAfterRow.inPlace == Try.pinned.checked.prog.inPlace 14) = true := by kernel_rfl
theorem closed1 : (Rows.fnExactStatesAfterRow.unfollowed == Try.pinned.checked.prog.unfollowed 14) = true := by kernel_rfl
theorem closed2 : (Rows.fnExactStatesAfterRow.recurses == Try.pinned.checked.prog.recurses 14) = true := by kernel_rfl
theorem closed3 : (Rows.fnExactStatesAfterRow.named == Try.pinned.checked.prog.varsNamed 14) = true := by kernel_rfl
theorem closed : joinedFacts Try.pinned.checked.prog 14 Try.f14 Rows.fnExactStatesAfterSpec Rows.fnExactStatesAfterRow = true := by
  unfold joinedFacts
  rw [closed0, closed1, closed2, closed3]
  kernel_rfl
theorem over : Rows.fnExactStatesAfterRow.holds Try.pinned (OpenSpec.ofChange Rows.fnExactStatesAfterSpec) :=
  OpenClaim.holds_of_wide 14 Try.f14 rfl rfl rfl rfl rfl rfl rfl ⟨rfl, rfl, rfl, rfl, rfl⟩ rfl rfl rfl rfl rfl (by kernel_rfl) Try.func14 closed
    (of_decide_eq_true (by kernel_rfl)) (by unfold Func.isWrapper; first | (rw [if_pos (by decide +kernel)]; kernel_rfl) | (rw [if_neg (by decide +kernel)]; exact ⟨rfl, rfl⟩))
    (fun os started H enc _ => lifted os started H enc)
theorem proved : Rows.FnExactStatesAfterSaid := over
#print axioms proved
end Go.Proofs.Ytegjfjckijmgcaa.fnExactStatesAfter
namespace Go.Proofs.Ytegjfjckijmgcaa
/-- The row, under a short name, for the claim. -/
theorem fnExactStatesAfter_holds : Rows.FnExactStatesAfterSaid := fnExactStatesAfter.proved
end Go.Proofs.Ytegjfjckijmgcaa
