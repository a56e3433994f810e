/- The row of the law FnExactTellsApart: it returns true for all arguments, which read behind the call as before; no conditions. -/
import Derived.Test.YtegjfjckijmgcaaRunTellsApart
set_option linter.unusedVariables false
namespace Go.Proofs.Ytegjfjckijmgcaa.fnExactTellsApart
open Go.ChangeShapes Go.WideShapes Go.ChangeAt Go.RowKit Aw
set_option maxRecDepth 100000

theorem closed0 : (Rows.fnExactTellsApartRow.inPlace == Try.pinned.checked.prog.inPlace 3) = true := by kernel_rfl
theorem closed1 : (Rows.fnExactTellsApartRow.unfollowed == Try.pinned.checked.prog.unfollowed 3) = true := by kernel_rfl
theorem closed2 : (Rows.fnExactTellsApartRow.recurses == Try.pinned.checked.prog.recurses 3) = true := by kernel_rfl
theorem closed3 : (Rows.fnExactTellsApartRow.named == Try.pinned.checked.prog.varsNamed 3) = true := by kernel_rfl
theorem closed : joinedFacts Try.pinned.checked.prog 3 Try.f3 Rows.fnExactTellsApartSpec Rows.fnExactTellsApartRow = true := by
  unfold joinedFacts
  rw [closed0, closed1, closed2, closed3]
  kernel_rfl
theorem over : Rows.fnExactTellsApartRow.holds Try.pinned (OpenSpec.ofChange Rows.fnExactTellsApartSpec) :=
  OpenClaim.holds_of_wide 3 Try.f3 rfl rfl rfl rfl rfl rfl rfl ⟨rfl, rfl, rfl, rfl, rfl⟩ rfl rfl rfl rfl rfl (by kernel_rfl) Try.func3 closed
    (of_decide_eq_true (by kernel_rfl)) (by unfold Func.isWrapper; first | (rw [if_pos (by decide +kernel)]; kernel_rfl) | (rw [if_neg (by decide +kernel)]; exact ⟨rfl, rfl⟩))
    (fun os started H enc _ => lifted os started H enc)
theorem proved : Rows.FnExactTellsApartSaid := over
#print axioms proved
end Go.Proofs.Ytegjfjckijmgcaa.fnExactTellsApart
namespace Go.Proofs.Ytegjfjckijmgcaa
/-- The row, under a short name, for the claim. -/
theorem fnExactTellsApart_holds : Rows.FnExactTellsApartSaid := fnExactTellsApart.proved
end Go.Proofs.Ytegjfjckijmgcaa
