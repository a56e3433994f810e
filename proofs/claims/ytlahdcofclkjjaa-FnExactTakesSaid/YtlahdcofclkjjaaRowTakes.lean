/- The row of the law FnExactTakes: it returns true for all arguments, which read behind the call as before; no conditions. -/
import Derived.Test.YtlahdcofclkjjaaRunTakes
set_option linter.unusedVariables false
namespace Go.Proofs.Ytlahdcofclkjjaa.fnExactTakes
open Go.ChangeShapes Go.WideShapes Go.ChangeAt Go.RowKit Aw
set_option maxRecDepth 100000

theorem closed0 : (Rows.fnExactTakesRow.inPlace == Try.pinned.checked.prog.inPlace 11) = true := by kernel_rfl
theorem closed1 : (Rows.fnExactTakesRow.unfollowed == Try.pinned.checked.prog.unfollowed 11) = true := by kernel_rfl
theorem closed2 : (Rows.fnExactTakesRow.recurses == Try.pinned.checked.prog.recurses 11) = true := by kernel_rfl
theorem closed3 : (Rows.fnExactTakesRow.named == Try.pinned.checked.prog.varsNamed 11) = true := by kernel_rfl
theorem closed : joinedFacts Try.pinned.checked.prog 11 Try.f11 Rows.fnExactTakesSpec Rows.fnExactTakesRow = true := by
  unfold joinedFacts
  rw [closed0, closed1, closed2, closed3]
  kernel_rfl
theorem over : Rows.fnExactTakesRow.holds Try.pinned (OpenSpec.ofChange Rows.fnExactTakesSpec) :=
  OpenClaim.holds_of_wide 11 Try.f11 rfl rfl rfl rfl rfl rfl rfl ⟨rfl, rfl, rfl, rfl, rfl⟩ rfl rfl rfl rfl rfl (by kernel_rfl) Try.func11 closed
    (of_decide_eq_true (by kernel_rfl)) (by unfold Func.isWrapper; first | (rw [if_pos (by decide +kernel)]; kernel_rfl) | (rw [if_neg (by decide +kernel)]; exact ⟨rfl, rfl⟩))
    (fun os started H enc _ => lifted os started H enc)
theorem proved : Rows.FnExactTakesSaid := over
#print axioms proved
end Go.Proofs.Ytlahdcofclkjjaa.fnExactTakes
namespace Go.Proofs.Ytlahdcofclkjjaa
/-- The row, under a short name, for the claim. -/
theorem fnExactTakes_holds : Rows.FnExactTakesSaid := fnExactTakes.proved
end Go.Proofs.Ytlahdcofclkjjaa
