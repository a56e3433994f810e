/- The row of the law FnExactGoOn: it returns true for all arguments, which read behind the call as before; no conditions. -/
import Derived.Test.YtegjfjckijmgcaaRunGoOn
set_option linter.unusedVariables false
namespace Go.Proofs.Ytegjfjckijmgcaa.fnExactGoOn
open Go.ChangeShapes Go.WideShapes Go.ChangeAt Go.RowKit Aw
set_option maxRecDepth 100000

theorem closed0 : (Rows.fnExactGoOnRow.inPlace == Try.pinned.checked.prog.inPlace 6) = true := by kernel_rfl
theorem closed1 : (Rows.fnExactGoOnRow.unfollowed == Try.pinned.checked.prog.unfollowed 6) = true := by kernel_rfl
theorem closed2 : (Rows.fnExactGoOnRow.recurses == Try.pinned.checked.prog.recurses 6) = true := by kernel_rfl
theorem closed3 : (Rows.fnExactGoOnRow.named == Try.pinned.checked.prog.varsNamed 6) = true := by kernel_rfl
theorem closed : joinedFacts Try.pinned.checked.prog 6 Try.f6 Rows.fnExactGoOnSpec Rows.fnExactGoOnRow = true := by
  unfold joinedFacts
  rw [closed0, closed1, closed2, closed3]
  kernel_rfl
theorem over : Rows.fnExactGoOnRow.holds Try.pinned (OpenSpec.ofChange Rows.fnExactGoOnSpec) :=
  OpenClaim.holds_of_wide 6 Try.f6 rfl rfl rfl rfl rfl rfl rfl ⟨rfl, rfl, rfl, rfl, rfl⟩ rfl rfl rfl rfl rfl (by kernel_rfl) Try.func6 closed
    (of_decide_eq_true (by kernel_rfl)) (by unfold Func.isWrapper; first | (rw [if_pos (by decide +kernel)]; kernel_rfl) | (rw [if_neg (by decide +kernel)]; exact ⟨rfl, rfl⟩))
    (fun os started H enc _ => lifted os started H enc)
theorem proved : Rows.FnExactGoOnSaid := over
#print axioms proved
end Go.Proofs.Ytegjfjckijmgcaa.fnExactGoOn
namespace Go.Proofs.Ytegjfjckijmgcaa
/-- The row, under a short name, for the claim. -/
theorem fnExactGoOn_holds : Rows.FnExactGoOnSaid := fnExactGoOn.proved
end Go.Proofs.Ytegjfjckijmgcaa
