/- The row of the law FnExactRunOf: it returns true for all arguments, which read behind the call as before; no conditions. -/
import Derived.Test.YtegjfjckijmgcaaRunRunOf
set_option linter.unusedVariables false
namespace Go.Proofs.Ytegjfjckijmgcaa.fnExactRunOf
open Go.ChangeShapes Go.WideShapes Go.ChangeAt Go.RowKit Aw
set_option maxRecDepth 100000

theorem closed0 : (Rows.fnExactRunOfRow.inPlace == Try.pinned.checked.prog.inPlace 4) = true := by kernel_rfl
theorem closed1 : (Rows.fnExactRunOfRow.unfollowed == Try.pinned.checked.prog.unfollowed 4) = true := by kernel_rfl
theorem closed2 : (Rows.fnExactRunOfRow.recurses == Try.pinned.checked.prog.recurses 4) = true := by kernel_rfl
theorem closed3 : (Rows.fnExactRunOfRow.named == Try.pinned.checked.prog.varsNamed 4) = true := by kernel_rfl
theorem closed : joinedFacts Try.pinned.checked.prog 4 Try.f4 Rows.fnExactRunOfSpec Rows.fnExactRunOfRow = true := by
  unfold joinedFacts
  rw [closed0, closed1, closed2, closed3]
  kernel_rfl
theorem over : Rows.fnExactRunOfRow.holds Try.pinned (OpenSpec.ofChange Rows.fnExactRunOfSpec) :=
  OpenClaim.holds_of_wide 4 Try.f4 rfl rfl rfl rfl rfl rfl rfl ⟨rfl, rfl, rfl, rfl, rfl⟩ rfl rfl rfl rfl rfl (by kernel_rfl) Try.func4 closed
    (of_decide_eq_true (by kernel_rfl)) (by unfold Func.isWrapper; first | (rw [if_pos (by decide +kernel)]; kernel_rfl) | (rw [if_neg (by decide +kernel)]; exact ⟨rfl, rfl⟩))
    (fun os started H enc _ => lifted os started H enc)
theorem proved : Rows.FnExactRunOfSaid := over
#print axioms proved
end Go.Proofs.Ytegjfjckijmgcaa.fnExactRunOf
namespace Go.Proofs.Ytegjfjckijmgcaa
/-- The row, under a short name, for the claim. -/
theorem fnExactRunOf_holds : Rows.FnExactRunOfSaid := fnExactRunOf.proved
end Go.Proofs.Ytegjfjckijmgcaa
