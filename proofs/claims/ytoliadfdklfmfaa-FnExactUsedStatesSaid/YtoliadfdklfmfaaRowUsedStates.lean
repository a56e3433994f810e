/- The row of the law FnExactUsedStates: it returns true for all arguments, which read behind the call as before; no conditions. -/
import Derived.Test.YtoliadfdklfmfaaRunUsedStates
set_option linter.unusedVariables false
namespace Go.Proofs.Ytoliadfdklfmfaa.fnExactUsedStates
open Go.ChangeShapes Go.WideShapes Go.ChangeAt Go.RowKit Aw
set_option maxRecDepth 100000

theorem closed0 : (Rows.fnExactUsedStatesRow.inPlace == Try.pinned.checked.prog.inPlace 4) = true := by kernel_rfl
theorem closed1 : (Rows.fnExactUsedStatesRow.unfollowed == Try.pinned.checked.prog.unfollowed 4) = true := by kernel_rfl
theorem closed2 : (Rows.fnExactUsedStatesRow.recurses == Try.pinned.checked.prog.recurses 4) = true := by kernel_rfl
theorem closed3 : (Rows.fnExactUsedStatesRow.named == Try.pinned.checked.prog.varsNamed 4) = true := by kernel_rfl
theorem closed : joinedFacts Try.pinned.checked.prog 4 Try.f4 Rows.fnExactUsedStatesSpec Rows.fnExactUsedStatesRow = true := by
  unfold joinedFacts
  rw [closed0, closed1, closed2, closed3]
  kernel_rfl
theorem over : Rows.fnExactUsedStatesRow.holds Try.pinned (OpenSpec.ofChange Rows.fnExactUsedStatesSpec) :=
  OpenClaim.holds_of_wide 4 Try.f4 rfl rfl rfl rfl rfl rfl rfl ⟨rfl, rfl, rfl, rfl, rfl⟩ rfl rfl rfl rfl rfl (by kernel_rfl) Try.func4 closed
    (of_decide_eq_true (by kernel_rfl)) (by unfold Func.isWrapper; first | (rw [if_pos (by decide +kernel)]; kernel_rfl) | (rw [if_neg (by decide +kernel)]; exact ⟨rfl, rfl⟩))
    (fun os started H enc _ => lifted os started H enc)
theorem proved : Rows.FnExactUsedStatesSaid := over
#print axioms proved
end Go.Proofs.Ytoliadfdklfmfaa.fnExactUsedStates
namespace Go.Proofs.Ytoliadfdklfmfaa
/-- The row, under a short name, for the claim. -/
theorem fnExactUsedStates_holds : Rows.FnExactUsedStatesSaid := fnExactUsedStates.proved
end Go.Proofs.Ytoliadfdklfmfaa
