/- The law FnExactFixRewriter returns true, and leaves memory below it as it was. It has no arguments and no conditions: it is run over abstract objects, and the run is checked by the kernel. -/
import Derived.Test.YtpjadhjjeafffaaFnsExactFixRewriter0
import Derived.Test.YtpjadhjjeafffaaRows
import Derived.WalkKit
import Derived.ProofKit
import Derived.OpenShut
import Derived.ShutString
import Derived.ChangeOld
import Derived.Below
import Derived.SizedLaws
set_option linter.unusedVariables false
namespace Go.Proofs.Ytpjadhjjeafffaa.fnExactFixRewriter
open Go.ChangeShapes Go.WideShapes Go.ChangeAt Go.RowKit Aw OfExactFixRewriter
set_option maxRecDepth 100000

theorem own : ownKnob Try.prog.godebug = none := by kernel_rfl

theorem runs : isT (evF fns rtB 1000 7 [] []) = true := by decide +kernel

theorem lifted (os : Os) (started : os.Started) (H : Type) (enc : TypeId × Value → H) :
    ReturnsInHanded {} Try.checked os 7 .any (Rows.fnExactFixRewriterSpec.pre6 enc Try.prog Try.f7 Rows.fnExactFixRewriterRow.domain false) (Rows.fnExactFixRewriterSpec.post enc Try.prog Try.f7 false true false false) := by
  refine returnsInHanded_of_change_sized (C := Try.checked) own started (by kernel_rfl) Try.func7
    (ChangeSpec.witness6 (enc := enc) (C := Try.checked) false ⟨#[], #[], []⟩ 8 (by kernel_rfl) (by kernel_rfl) (by kernel_rfl) (by kernel_rfl)) ?_
  intro W base args ds gs before hval0 hW hcnd hsz0 _
  have hW' := hW
  obtain ⟨p, q, hA0, hV, rfl, hfz, hnd⟩ := hW
  have hA : DataW.TrodAll enc Try.prog W 0 (fun _ => true) true Try.f7.params.toList args.toList ds p := hA0
  rw [Try.params7] at hA
  obtain ⟨rfl, rfl, rfl⟩ := trodAll_none hA
  obtain ⟨rfl, rfl⟩ := trodVars_none hV
  clear hA0 hval0 hsz0
  refine (calls_of_isT (by kernel_rfl) fnsOk runs W).mono fun e W' ⟨he, bel⟩ => ?_
  subst he
  exact ⟨_, rfl, _, _, _, [], _, [], hW', trodAll_mk1 (shut_bool Try.underlying4 _), trodAll_mk0, rfl, bel.frame _, fun h => by cases h⟩

theorem over : Rows.fnExactFixRewriterRow.holds Try.pinned (OpenSpec.ofChange Rows.fnExactFixRewriterSpec) :=
  OpenClaim.holds_of_wide 7 Try.f7 rfl rfl rfl rfl rfl rfl rfl ⟨rfl, rfl, rfl, rfl, rfl⟩ rfl rfl rfl rfl rfl (by kernel_rfl) Try.func7 (by kernel_rfl)
    (of_decide_eq_true (by kernel_rfl)) (by unfold Func.isWrapper; first | (rw [if_pos (by decide +kernel)]; kernel_rfl) | (rw [if_neg (by decide +kernel)]; exact ⟨rfl, rfl⟩))
    (fun os started H enc _ => lifted os started H enc)
theorem proved : Rows.FnExactFixRewriterSaid := over
#print axioms proved
end Go.Proofs.Ytpjadhjjeafffaa.fnExactFixRewriter
namespace Go.Proofs.Ytpjadhjjeafffaa
/-- The row, under a short name, for the claim. -/
theorem fnExactFixRewriter_holds : Rows.FnExactFixRewriterSaid := fnExactFixRewriter.proved
end Go.Proofs.Ytpjadhjjeafffaa
