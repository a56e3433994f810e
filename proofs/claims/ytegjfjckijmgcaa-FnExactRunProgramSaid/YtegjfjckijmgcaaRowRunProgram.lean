/- The row of the law FnExactRunProgram: it returns true for all arguments, which read behind the call as before; no conditions. -/
import Derived.Test.YtegjfjckijmgcaaRunRunProgram
set_option linter.unusedVariables false
namespace Go.Proofs.Ytegjfjckijmgcaa.fnExactRunProgram
open Go.ChangeShapes Go.WideShapes Go.ChangeAt Go.RowKit Aw
set_option maxRecDepth 100000

theorem closed0 : (Rows.fnExactRunProgramRow.inPlace == Try.pinned.checked.prog.inPlace 8) = true := by kernel_rfl
theorem closed1 : (Rows.fnExactRunProgramRow.unfollowed == Try.pinned.checked.prog.unfollowed 8) = true := by kernel_rfl
theorem closed2 : (Rows.fnExactRunProgramRow.recurses == Try.pinned.checked.prog.recurses 8) = true := by kernel_rfl
theorem closed3 : (Rows.fnExactRunProgramRow.named == Try.pinned.checked.prog.varsNamed 8) = true := by kernel_rfl
theorem closed : joinedFacts Try.pinned.checked.prog 8 Try.f8 Rows.fnExactRunProgramSpec Rows.fnExactRunProgramRow = true := by
  unfold joinedFacts
  rw [closed0, closed1, closed2, closed3]
  kernel_rfl
theorem over : Rows.fnExactRunProgramRow.holds Try.pinned (OpenSpec.ofChange Rows.fnExactRunProgramSpec) :=
  OpenClaim.holds_of_wide 8 Try.f8 rfl rfl rfl rfl rfl rfl rfl ⟨rfl, rfl, rfl, rfl, rfl⟩ rfl rfl rfl rfl rfl (by kernel_rfl) Try.func8 closed
    (of_decide_eq_true (by kernel_rfl)) (by unfold Func.isWrapper; first | (rw [if_pos (by decide +kernel)]; kernel_rfl) | (rw [if_neg (by decide +kernel)]; exact ⟨rfl, rfl⟩))
    (fun os started H enc _ => lifted os started H enc)
theorem proved : Rows.FnExactRunProgramSaid := over
#print axioms proved
end Go.Proofs.Ytegjfjckijmgcaa.fnExactRunProgram
namespace Go.Proofs.Ytegjfjckijmgcaa
/-- The row, under a short name, for the claim. -/
theorem fnExactRunProgram_holds : Rows.FnExactRunProgramSaid := fnExactRunProgram.proved
end Go.Proofs.Ytegjfjckijmgcaa
