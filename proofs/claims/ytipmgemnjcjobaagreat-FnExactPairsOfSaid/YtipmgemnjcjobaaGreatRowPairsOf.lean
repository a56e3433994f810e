/- The row of the law FnExactPairsOf: it returns true for all arguments, which read behind the call as before; no conditions. -/
import Derived.Test.YtipmgemnjcjobaaGreatRunPairsOf
set_option linter.unusedVariables false
namespace Go.Proofs.YtipmgemnjcjobaaGreat.fnExactPairsOf
open Go.ChangeShapes Go.WideShapes Go.ChangeAt Go.RowKit Aw
set_option maxRecDepth 100000

theorem closed0 : (Rows.fnExactPairsOfRow.inPlace == Tryz.pinned.checked.prog.inPlace 3) = true := by kernel_rfl
theorem closed1 : (Rows.fnExactPairsOfRow.unfollowed == Tryz.pinned.checked.prog.unfollowed 3) = true := by kernel_rfl
theorem closed2 : (Rows.fnExactPairsOfRow.recurses == Tryz.pinned.checked.prog.recurses 3) = true := by kernel_rfl
theorem closed3 : (Rows.fnExactPairsOfRow.named == Tryz.pinned.checked.prog.varsNamed 3) = true := by kernel_rfl
theorem closed : joinedFacts Tryz.pinned.checked.prog 3 Tryz.f3 Rows.fnExactPairsOfSpec Rows.fnExactPairsOfRow = true := by
  unfold joinedFacts
  rw [closed0, closed1, closed2, closed3]
  kernel_rfl
theorem over : Rows.fnExactPairsOfRow.holds Tryz.pinned (OpenSpec.ofChange Rows.fnExactPairsOfSpec) :=
  OpenClaim.holds_of_wide 3 Tryz.f3 rfl rfl rfl rfl rfl rfl rfl ⟨rfl, rfl, rfl, rfl, rfl⟩ rfl rfl rfl rfl rfl (by kernel_rfl) Tryz.func3 closed
    (of_decide_eq_true (by kernel_rfl)) (by unfold Func.isWrapper; first | (rw [if_pos (by decide +kernel)]; kernel_rfl) | (rw [if_neg (by decide +kernel)]; exact ⟨rfl, rfl⟩))
    (fun os started H enc _ => lifted os started H enc)
theorem proved : Rows.FnExactPairsOfSaid := over
#print axioms proved
end Go.Proofs.YtipmgemnjcjobaaGreat.fnExactPairsOf
namespace Go.Proofs.YtipmgemnjcjobaaGreat
/-- The row, under a short name, for the claim. -/
theorem fnExactPairsOf_holds : Rows.FnExactPairsOfSaid := fnExactPairsOf.proved
end Go.Proofs.YtipmgemnjcjobaaGreat
