/- The row of the law FnExactCheckerOfAlgebra: it returns true for all arguments, which read behind the call as before; no conditions. -/
import Derived.Test.YtegjfjckijmgcaaRunCheckerOfAlgebra
set_option linter.unusedVariables false
namespace Go.Proofs.Ytegjfjckijmgcaa.fnExactCheckerOfAlgebra
open Go.ChangeShapes Go.WideShapes Go.ChangeAt Go.RowKit Aw
set_option maxRecDepth 100000

theorem closed0 : (Rows.fnExactCheckerOfAlgebraRow.inPlace == Try.pinned.checked.prog.inPlace 10) = true := by kernel_rfl
theorem closed1 : (Rows.fnExactCheckerOfAlgebraRow.unfollowed == Try.pinned.checked.prog.unfollowed 10) = true := by kernel_rfl
theorem closed2 : (Rows.fnExactCheckerOfAlgebraRow.recurses == Try.pinned.checked.prog.recurses 10) = true := by kernel_rfl
theorem closed3 : (Rows.fnExactCheckerOfAlgebraRow.named == Try.pinned.checked.prog.varsNamed 10) = true := by kernel_rfl
theorem closed : joinedFacts Try.pinned.checked.prog 10 Try.f10 Rows.fnExactCheckerOfAlgebraSpec Rows.fnExactCheckerOfAlgebraRow = true := by
  unfold joinedFacts
  rw [closed0, closed1, closed2, closed3]
  kernel_rfl
theorem over : Rows.fnExactCheckerOfAlgebraRow.holds Try.pinned (OpenSpec.ofChange Rows.fnExactCheckerOfAlgebraSpec) :=
  OpenClaim.holds_of_wide 10 Try.f10 rfl rfl rfl rfl rfl rfl rfl ⟨rfl, rfl, rfl, rfl, rfl⟩ rfl rfl rfl rfl rfl (by kernel_rfl) Try.func10 closed
    (of_decide_eq_true (by kernel_rfl)) (by unfold Func.isWrapper; first | (rw [if_pos (by decide +kernel)]; kernel_rfl) | (rw [if_neg (by decide +kernel)]; exact ⟨rfl, rfl⟩))
    (fun os started H enc _ => lifted os started H enc)
theorem proved : Rows.FnExactCheckerOfAlgebraSaid := over
#print axioms proved
end Go.Proofs.Ytegjfjckijmgcaa.fnExactCheckerOfAlgebra
namespace Go.Proofs.Ytegjfjckijmgcaa
/-- The row, under a short name, for the claim. -/
theorem fnExactCheckerOfAlgebra_holds : Rows.FnExactCheckerOfAlgebraSaid := fnExactCheckerOfAlgebra.proved
end Go.Proofs.Ytegjfjckijmgcaa
