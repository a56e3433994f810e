/- The row of the law FnExactThinRewriter: it returns true for all arguments, which read behind the call as before; no conditions. -/
import Derived.Test.YtpjadhjjeafffaaRunThinRewriter
set_option linter.unusedVariables false
namespace Go.Proofs.Ytpjadhjjeafffaa.fnExactThinRewriter
open Go.ChangeShapes Go.WideShapes Go.ChangeAt Go.RowKit Aw
set_option maxRecDepth 100000

theorem closed0 : (Rows.fnExactThinRewriterRow.inPlace == Try.pinned.checked.prog.inPlace 10) = true := by kernel_rfl
theorem closed1 : (Rows.fnExactThinRewriterRow.unfollowed == Try.pinned.checked.prog.unfollowed 10) = true := by kernel_rfl
theorem closed2 : (Rows.fnExactThinRewriterRow.recurses == Try.pinned.checked.prog.recurses 10) = true := by kernel_rfl
theorem closed3 : (Rows.fnExactThinRewriterRow.named == Try.pinned.checked.prog.varsNamed 10) = true := by kernel_rfl
theorem closed : joinedFacts Try.pinned.checked.prog 10 Try.f10 Rows.fnExactThinRewriterSpec Rows.fnExactThinRewriterRow = true := by
  unfold joinedFacts
  rw [closed0, closed1, closed2, closed3]
  kernel_rfl
theorem over : Rows.fnExactThinRewriterRow.holds Try.pinned (OpenSpec.ofChange Rows.fnExactThinRewriterSpec) :=
  OpenClaim.holds_of_wide 10 Try.f10 rfl rfl rfl rfl rfl rfl rfl ⟨rfl, rfl, rfl, rfl, rfl⟩ rfl rfl rfl rfl rfl (by kernel_rfl) Try.func10 closed
    (of_decide_eq_true (by kernel_rfl)) (by unfold Func.isWrapper; first | (rw [if_pos (by decide +kernel)]; kernel_rfl) | (rw [if_neg (by decide +kernel)]; exact ⟨rfl, rfl⟩))
    (fun os started H enc _ => lifted os started H enc)
theorem proved : Rows.FnExactThinRewriterSaid := over
#print axioms proved
end Go.Proofs.Ytpjadhjjeafffaa.fnExactThinRewriter
namespace Go.Proofs.Ytpjadhjjeafffaa
/-- The row, under a short name, for the claim. -/
theorem fnExactThinRewriter_holds : Rows.FnExactThinRewriterSaid := fnExactThinRewriter.proved
end Go.Proofs.Ytpjadhjjeafffaa
