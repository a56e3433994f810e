/- The row of the law FnExactRewriteOn: it returns true for all arguments, which read behind the call as before; no conditions. -/
import Derived.Test.YtjfpmpbdbpgofaaRunRewriteOn
set_option linter.unusedVariables false
namespace Go.Proofs.Ytjfpmpbdbpgofaa.fnExactRewriteOn
open Go.ChangeShapes Go.WideShapes Go.ChangeAt Go.RowKit Aw
set_option maxRecDepth 100000

theorem closed0 : (Rows.fnExactRewriteOnRow.inPlace == Try.pinned.checked.prog.inPlace 6) = true := by kernel_rfl
theorem closed1 : (Rows.fnExactRewriteOnRow.unfollowed == Try.pinned.checked.prog.unfollowed 6) = true := by kernel_rfl
theorem closed2 : (Rows.fnExactRewriteOnRow.recurses == Try.pinned.checked.prog.recurses 6) = true := by kernel_rfl
theorem closed3 : (Rows.fnExactRewriteOnRow.named == Try.pinned.checked.prog.varsNamed 6) = true := by kernel_rfl
theorem closed : joinedFacts Try.pinned.checked.prog 6 Try.f6 Rows.fnExactRewriteOnSpec Rows.fnExactRewriteOnRow = true := by
  unfold joinedFacts
  rw [closed0, closed1, closed2, closed3]
  kernel_rfl
theorem over : Rows.fnExactRewriteOnRow.holds Try.pinned (OpenSpec.ofChange Rows.fnExactRewriteOnSpec) :=
  OpenClaim.holds_of_wide 6 Try.f6 rfl rfl rfl rfl rfl rfl rfl ⟨rfl, rfl, rfl, rfl, rfl⟩ rfl rfl rfl rfl rfl (by kernel_rfl) Try.func6 closed
    (of_decide_eq_true (by kernel_rfl)) (by unfold Func.isWrapper; first | (rw [if_pos (by decide +kernel)]; kernel_rfl) | (rw [if_neg (by decide +kernel)]; exact ⟨rfl, rfl⟩))
    (fun os started H enc _ => lifted os started H enc)
theorem proved : Rows.FnExactRewriteOnSaid := over
#print axioms proved
end Go.Proofs.Ytjfpmpbdbpgofaa.fnExactRewriteOn
namespace Go.Proofs.Ytjfpmpbdbpgofaa
/-- The row, under a short name, for the claim. -/
theorem fnExactRewriteOn_holds : Rows.FnExactRewriteOnSaid := fnExactRewriteOn.proved
end Go.Proofs.Ytjfpmpbdbpgofaa
