/- The row of the law FnExactSameRewriter: it returns true for all arguments, which read behind the call as before; no conditions. -/
import Derived.Test.YtpjadhjjeafffaaRunSameRewriter
set_option linter.unusedVariables false
namespace Go.Proofs.Ytpjadhjjeafffaa.fnExactSameRewriter
open Go.ChangeShapes Go.WideShapes Go.ChangeAt Go.RowKit Aw
set_option maxRecDepth 100000

theorem closed0 : (Rows.fnExactSameRewriterRow.inPlace == Try.pinned.checked.prog.inPlace 12) = true := by kernel_rfl
theorem closed1 : (Rows.fnExactSameRewriterRow.unfollowed == Try.pinned.checked.prog.unfollowed 12) = true := by kernel_rfl
theorem closed2 : (Rows.fnExactSameRewriterRow.recurses == Try.pinned.checked.prog.recurses 12) = true := by kernel_rfl
theorem closed3 : (Rows.fnExactSameRewriterRow.named == Try.pinned.checked.prog.varsNamed 12) = true := by kernel_rfl
theorem closed : joinedFacts Try.pinned.checked.prog 12 Try.f12 Rows.fnExactSameRewriterSpec Rows.fnExactSameRewriterRow = true := by
  unfold joinedFacts
  rw [closed0, closed1, closed2, closed3]
  kernel_rfl
theorem over : Rows.fnExactSameRewriterRow.holds Try.pinned (OpenSpec.ofChange Rows.fnExactSameRewriterSpec) :=
  OpenClaim.holds_of_wide 12 Try.f12 rfl rfl rfl rfl rfl rfl rfl ⟨rfl, rfl, rfl, rfl, rfl⟩ rfl rfl rfl rfl rfl (by kernel_rfl) Try.func12 closed
    (of_decide_eq_true (by kernel_rfl)) (by unfold Func.isWrapper; first | (rw [if_pos (by decide +kernel)]; kernel_rfl) | (rw [if_neg (by decide +kernel)]; exact ⟨rfl, rfl⟩))
    (fun os started H enc _ => lifted os started H enc)
theorem proved : Rows.FnExactSameRewriterSaid := over
#print axioms proved
end Go.Proofs.Ytpjadhjjeafffaa.fnExactSameRewriter
namespace Go.Proofs.Ytpjadhjjeafffaa
/-- The row, under a short name, for the claim. -/
theorem fnExactSameRewriter_holds : Rows.FnExactSameRewriterSaid := fnExactSameRewriter.proved
end Go.Proofs.Ytpjadhjjeafffaa
