/- The row of the law FnExactStacksOf: it returns true for all arguments, which read behind the call as before; no conditions. -/
import Derived.Test.YtegjfjckijmgcaaRunStacksOf
set_option linter.unusedVariables false
namespace Go.Proofs.Ytegjfjckijmgcaa.fnExactStacksOf
open Go.ChangeShapes Go.WideShapes Go.ChangeAt Go.RowKit Aw
set_option maxRecDepth 100000

theorem closed0 : (Rows.fnExactStacksOfRow.inPlace == Try.pinned.checked.prog.inPlace 5) = true := by kernel_rfl
theorem closed1 : (Rows.fnExactStacksOfRow.unfollowed == Try.pinned.checked.prog.unfollowed 5) = true := by kernel_rfl
theorem closed2 : (Rows.fnExactStacksOfRow.recurses == Try.pinned.checked.prog.recurses 5) = true := by kernel_rfl
theorem closed3 : (Rows.fnExactStacksOfRow.named == Try.pinned.checked.prog.varsNamed 5) = true := by kernel_rfl
theorem closed : joinedFacts Try.pinned.checked.prog 5 Try.f5 Rows.fnExactStacksOfSpec Rows.fnExactStacksOfRow = true := by
  unfold joinedFacts
  rw [closed0, closed1, closed2, closed3]
  kernel_rfl
theorem over : Rows.fnExactStacksOfRow.holds Try.pinned (OpenSpec.ofChange Rows.fnExactStacksOfSpec) :=
  OpenClaim.holds_of_wide 5 Try.f5 rfl rfl rfl rfl rfl rfl rfl ⟨rfl, rfl, rfl, rfl, rfl⟩ rfl rfl rfl rfl rfl (by kernel_rfl) Try.func5 closed
    (of_decide_eq_true (by kernel_rfl)) (by unfold Func.isWrapper; first | (rw [if_pos (by decide +kernel)]; kernel_rfl) | (rw [if_neg (by decide +kernel)]; exact ⟨rfl, rfl⟩))
    (fun os started H enc _ => lifted os started H enc)
theorem proved : Rows.FnExactStacksOfSaid := over
#print axioms proved
end Go.Proofs.Ytegjfjckijmgcaa.fnExactStacksOf
namespace Go.Proofs.Ytegjfjckijmgcaa
/-- The row, under a short name, for the claim. -/
theorem fnExactStacksOf_holds : Rows.FnExactStacksOfSaid := fnExactStacksOf.proved
end Go.Proofs.Ytegjfjckijmgcaa
