/- The row of the law FnExactRenameRewriter: it returns true for all arguments, which read behind the call as before; no conditions. -/
import Derived.Test.YtegjfjckijmgcaaRunRenameRewriter
set_option linter.unusedVariables false
namespace Go.Proofs.Ytegjfjckijmgcaa.fnExactRenameRewriter
open Go.ChangeShapes Go.WideShapes Go.ChangeAt Go.RowKit Aw
set_option maxRecDepth 100000

theorem closed0 : (Rows.fnExactRenameRewriterRow.inPlace == Try.pinned.checked.prog.inPlace 9) = true := by kernel_rfl
theorem closed1 : (Rows.fnExactRenameRewriterRow.unfollowed == Try.pinned.checked.prog.unfollowed 9) = true := by kernel_rfl
theorem closed2 : (Rows.fnExactRenameRewriterRow.recurses == Try.pinned.checked.prog.recurses 9) = true := by kernel_rfl
theorem closed3 : (Rows.fnExactRenameRewriterRow.named == Try.pinned.checked.prog.varsNamed 9) = true := by kernel_rfl
theorem closed : joinedFacts Try.pinned.checked.prog 9 Try.f9 Rows.fnExactRenameRewriterSpec Rows.fnExactRenameRewriterRow = true := by
  unfold joinedFacts
  rw [closed0, closed1, closed2, closed3]
  kernel_rfl
theorem over : Rows.fnExactRenameRewriterRow.holds Try.pinned (OpenSpec.ofChange Rows.fnExactRenameRewriterSpec) :=
  OpenClaim.holds_of_wide 9 Try.f9 rfl rfl rfl rfl rfl rfl rfl ⟨rfl, rfl, rfl, rfl, rfl⟩ rfl rfl rfl rfl rfl (by kernel_rfl) Try.func9 closed
    (of_decide_eq_true (by kernel_rfl)) (by unfold Func.isWrapper; first | (rw [if_pos (by decide +kernel)]; kernel_rfl) | (rw [if_neg (by decide +kernel)]; exact ⟨rfl, rfl⟩))
    (fun os started H enc _ => lifted os started H enc)
theorem proved : Rows.FnExactRenameRewriterSaid := over
#print axioms proved
end Go.Proofs.Ytegjfjckijmgcaa.fnExactRenameRewriter
namespace Go.Proofs.Ytegjfjckijmgcaa
/-- The row, under a short name, for the claim. -/
theorem fnExactRenameRewriter_holds : Rows.FnExactRenameRewriterSaid := fnExactRenameRewriter.proved
end Go.Proofs.Ytegjfjckijmgcaa
