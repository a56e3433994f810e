/- The row of the law FnExactComposeRewriters: it returns true for all arguments, which read behind the call as before; no conditions. -/
import Derived.Test.YtjfpmpbdbpgofaaRunComposeRewriters
set_option linter.unusedVariables false
namespace Go.Proofs.Ytjfpmpbdbpgofaa.fnExactComposeRewriters
open Go.ChangeShapes Go.WideShapes Go.ChangeAt Go.RowKit Aw
set_option maxRecDepth 100000

theorem closed0 : (Rows.fnExactComposeRewritersRow.inPlace == Try.pinned.checked.prog.inPlace 8) = true := by kernel_rfl
theorem closed1 : (Rows.fnExactComposeRewritersRow.unfollowed == Try.pinned.checked.prog.unfollowed 8) = true := by kernel_rfl
theorem closed2 : (Rows.fnExactComposeRewritersRow.recurses == Try.pinned.checked.prog.recurses 8) = true := by kernel_rfl
theorem closed3 : (Rows.fnExactComposeRewritersRow.named == Try.pinned.checked.prog.varsNamed 8) = true := by kernel_rfl
theorem closed : joinedFacts Try.pinned.checked.prog 8 Try.f8 Rows.fnExactComposeRewritersSpec Rows.fnExactComposeRewritersRow = true := by
  unfold joinedFacts
  rw [closed0, closed1, closed2, closed3]
  kernel_rfl
theorem over : Rows.fnExactComposeRewritersRow.holds Try.pinned (OpenSpec.ofChange Rows.fnExactComposeRewritersSpec) :=
  OpenClaim.holds_of_wide 8 Try.f8 rfl rfl rfl rfl rfl rfl rfl ⟨rfl, rfl, rfl, rfl, rfl⟩ rfl rfl rfl rfl rfl (by kernel_rfl) Try.func8 closed
    (of_decide_eq_true (by kernel_rfl)) (by unfold Func.isWrapper; first | (rw [if_pos (by decide +kernel)]; kernel_rfl) | (rw [if_neg (by decide +kernel)]; exact ⟨rfl, rfl⟩))
    (fun os started H enc _ => lifted os started H enc)
theorem proved : Rows.FnExactComposeRewritersSaid := over
#print axioms proved
end Go.Proofs.Ytjfpmpbdbpgofaa.fnExactComposeRewriters
namespace Go.Proofs.Ytjfpmpbdbpgofaa
/-- The row, under a short name, for the claim. -/
theorem fnExactComposeRewriters_holds : Rows.FnExactComposeRewritersSaid := fnExactComposeRewriters.proved
end Go.Proofs.Ytjfpmpbdbpgofaa
