/- The row of the law FnExactChoicesAt: it returns true for all arguments, which read behind the call as before; no conditions. -/
import Derived.Test.YtegjfjckijmgcaaRunChoicesAt
set_option linter.unusedVariables false
namespace Go.Proofs.Ytegjfjckijmgcaa.fnExactChoicesAt
open Go.ChangeShapes Go.WideShapes Go.ChangeAt Go.RowKit Aw
set_option maxRecDepth 100000

theorem closed0 : (Rows.fnExactChoicesAtRow.inPlace == Try.pinned.checked.prog.inPlace 7) = true := by kernel_rfl
theorem closed1 : (Rows.fnExactChoicesAtRow.unfollowed == Try.pinned.checked.prog.unfollowed 7) = true := by kernel_rfl
theorem closed2 : (Rows.fnExactChoicesAtRow.recurses == Try.pinned.checked.prog.recurses 7) = true := by kernel_rfl
theorem closed3 : (Rows.fnExactChoicesAtRow.named == Try.pinned.checked.prog.varsNamed 7) = true := by kernel_rfl
theorem closed : joinedFacts Try.pinned.checked.prog 7 Try.f7 Rows.fnExactChoicesAtSpec Rows.fnExactChoicesAtRow = true := by
  unfold joinedFacts
  rw [closed0, closed1, closed2, closed3]
  kernel_rfl
theorem over : Rows.fnExactChoicesAtRow.holds Try.pinned (OpenSpec.ofChange Rows.fnExactChoicesAtSpec) :=
  OpenClaim.holds_of_wide 7 Try.f7 rfl rfl rfl rfl rfl rfl rfl ⟨rfl, rfl, rfl, rfl, rfl⟩ rfl rfl rfl rfl rfl (by kernel_rfl) Try.func7 closed
    (of_decide_eq_true (by kernel_rfl)) (by unfold Func.isWrapper; first | (rw [if_pos (by decide +kernel)]; kernel_rfl) | (rw [if_neg (by decide +kernel)]; exact ⟨rfl, rfl⟩))
    (fun os started H enc _ => lifted os started H enc)
theorem proved : Rows.FnExactChoicesAtSaid := over
#print axioms proved
end Go.Proofs.Ytegjfjckijmgcaa.fnExactChoicesAt
namespace Go.Proofs.Ytegjfjckijmgcaa
/-- The row, under a short name, for the claim. -/
theorem fnExactChoicesAt_holds : Rows.FnExactChoicesAtSaid := fnExactChoicesAt.proved
end Go.Proofs.Ytegjfjckijmgcaa
