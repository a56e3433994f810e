/- The row of the law FnExactUndoTreeEdit: it returns true for all arguments, which read behind the call as before; no conditions. -/
import Derived.Test.YtlahdcofclkjjaaRunUndoTreeEdit
set_option linter.unusedVariables false
namespace Go.Proofs.Ytlahdcofclkjjaa.fnExactUndoTreeEdit
open Go.ChangeShapes Go.WideShapes Go.ChangeAt Go.RowKit Aw
set_option maxRecDepth 100000

theorem closed0 : (Rows.fnExactUndoTreeEditRow.inPlace == Try.pinned.checked.prog.inPlace 5) = true := by kernel_rfl
theorem closed1 : (Rows.fnExactUndoTreeEditRow.unfollowed == Try.pinned.checked.prog.unfollowed 5) = true := by kernel_rfl
theorem closed2 : (Rows.fnExactUndoTreeEditRow.recurses == Try.pinned.checked.prog.recurses 5) = true := by kernel_rfl
theorem closed3 : (Rows.fnExactUndoTreeEditRow.named == Try.pinned.checked.prog.varsNamed 5) = true := by kernel_rfl
theorem closed : joinedFacts Try.pinned.checked.prog 5 Try.f5 Rows.fnExactUndoTreeEditSpec Rows.fnExactUndoTreeEditRow = true := by
  unfold joinedFacts
  rw [closed0, closed1, closed2, closed3]
  kernel_rfl
theorem over : Rows.fnExactUndoTreeEditRow.holds Try.pinned (OpenSpec.ofChange Rows.fnExactUndoTreeEditSpec) :=
  OpenClaim.holds_of_wide 5 Try.f5 rfl rfl rfl rfl rfl rfl rfl ⟨rfl, rfl, rfl, rfl, rfl⟩ rfl rfl rfl rfl rfl (by kernel_rfl) Try.func5 closed
    (of_decide_eq_true (by kernel_rfl)) (by unfold Func.isWrapper; first | (rw [if_pos (by decide +kernel)]; kernel_rfl) | (rw [if_neg (by decide +kernel)]; exact ⟨rfl, rfl⟩))
    (fun os started H enc _ => lifted os started H enc)
theorem proved : Rows.FnExactUndoTreeEditSaid := over
#print axioms proved
end Go.Proofs.Ytlahdcofclkjjaa.fnExactUndoTreeEdit
namespace Go.Proofs.Ytlahdcofclkjjaa
/-- The row, under a short name, for the claim. -/
theorem fnExactUndoTreeEdit_holds : Rows.FnExactUndoTreeEditSaid := fnExactUndoTreeEdit.proved
end Go.Proofs.Ytlahdcofclkjjaa
