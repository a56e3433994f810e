/- The row of the law FnExactTrimChecker: it returns true for all arguments, which read behind the call as before; no conditions. -/
import Derived.Test.YtoliadfdklfmfaaRunTrimChecker
set_option linter.unusedVariables false
namespace Go.Proofs.Ytoliadfdklfmfaa.fnExactTrimChecker
open Go.ChangeShapes Go.WideShapes Go.ChangeAt Go.RowKit Aw
set_option maxRecDepth 100000

theorem closed0 : (Rows.fnExactTrimCheckerRow.inPlace == Try.pinned.checked.prog.inPlace 5) = true := by kernel_rfl
theorem closed1 : (Rows.fnExactTrimCheckerRow.unfollowed == Try.pinned.checked.prog.unfollowed 5) = true := by kernel_rfl
theorem closed2 : (Rows.fnExactTrimCheckerRow.recurses == Try.pinned.checked.prog.recurses 5) = true := by kernel_rfl
theorem closed3 : (Rows.fnExactTrimCheckerRow.named == Try.pinned.checked.prog.varsNamed 5) = true := by kernel_rfl
theorem closed : joinedFacts Try.pinned.checked.prog 5 Try.f5 Rows.fnExactTrimCheckerSpec Rows.fnExactTrimCheckerRow = true := by
  unfold joinedFacts
  rw [closed0, closed1, closed2, closed3]
  kernel_rfl
theorem over : Rows.fnExactTrimCheckerRow.holds Try.pinned (OpenSpec.ofChange Rows.fnExactTrimCheckerSpec) :=
  OpenClaim.holds_of_wide 5 Try.f5 rfl rfl rfl rfl rfl rfl rfl ⟨rfl, rfl, rfl, rfl, rfl⟩ rfl rfl rfl rfl rfl (by kernel_rfl) Try.func5 closed
    (of_decide_eq_true (by kernel_rfl)) (by unfold Func.isWrapper; first | (rw [if_pos (by decide +kernel)]; kernel_rfl) | (rw [if_neg (by decide +kernel)]; exact ⟨rfl, rfl⟩))
    (fun os started H enc _ => lifted os started H enc)
theorem proved : Rows.FnExactTrimCheckerSaid := over
#print axioms proved
end Go.Proofs.Ytoliadfdklfmfaa.fnExactTrimChecker
namespace Go.Proofs.Ytoliadfdklfmfaa
/-- The row, under a short name, for the claim. -/
theorem fnExactTrimChecker_holds : Rows.FnExactTrimCheckerSaid := fnExactTrimChecker.proved
end Go.Proofs.Ytoliadfdklfmfaa
