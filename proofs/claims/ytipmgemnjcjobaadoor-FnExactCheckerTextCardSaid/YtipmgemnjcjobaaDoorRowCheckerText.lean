/- The row of the law FnExactCheckerText: it returns true for all arguments, which read behind the call as before; no conditions. -/
import Derived.Test.YtipmgemnjcjobaaDoorRunCheckerText
import Derived.Test.YtipmgemnjcjobaaDoorTie
import Derived.Test.YtipmgemnjcjobaaDoorCards
import Derived.SevenTiedAt
set_option linter.unusedVariables false
namespace Go.Proofs.YtipmgemnjcjobaaDoor.fnExactCheckerText
open Go.ChangeShapes Go.WideShapes Go.ChangeAt Go.RowKit Aw
set_option maxRecDepth 100000

theorem closed0 : (Rows.fnExactCheckerTextRow.inPlace == Tryd.pinned.checked.prog.inPlace 5) = true := by kernel_rfl
theorem closed1 : (Rows.fnExactCheckerTextRow.unfollowed == Tryd.pinned.checked.prog.unfollowed 5) = true := by kernel_rfl
theorem closed2 : (Rows.fnExactCheckerTextRow.recurses == Tryd.pinned.checked.prog.recurses 5) = true := by kernel_rfl
theorem closed3 : (Rows.fnExactCheckerTextRow.named == Tryd.pinned.checked.prog.varsNamed 5) = true := by kernel_rfl
theorem closed : joinedFacts Tryd.pinned.checked.prog 5 Tryd.f5 Rows.fnExactCheckerTextSpec Rows.fnExactCheckerTextRow = true := by
  unfold joinedFacts
  rw [closed0, closed1, closed2, closed3]
  kernel_rfl
theorem over : Rows.fnExactCheckerTextRow.holds Tryd.pinned (OpenSpec.ofChange Rows.fnExactCheckerTextSpec) :=
  OpenClaim.holds_of_wide 5 Tryd.f5 rfl rfl rfl rfl rfl rfl rfl ⟨rfl, rfl, rfl, rfl, rfl⟩ rfl rfl rfl rfl rfl (by kernel_rfl) Tryd.func5 closed
    (of_decide_eq_true (by kernel_rfl)) (by unfold Func.isWrapper; first | (rw [if_pos (by decide +kernel)]; kernel_rfl) | (rw [if_neg (by decide +kernel)]; exact ⟨rfl, rfl⟩))
    (fun os started H enc _ => lifted os started H enc)
theorem proved : Rows.FnExactCheckerTextCardSaid :=
  Claim7.holds_tied_plain_at .later [] [.data, .data, .data] true (true, "046dfa9c3dfc9b3a510a544a5fb8972d83d0921e6782400a0d2d5e6669c70234") false
    over (fun _ h => by cases h) (by kernel_rfl) (fun _ h => by cases h) fnExactCheckerText_row_tie rfl ⟨rfl, rfl⟩ (by kernel_rfl) rfl
    (fun f fn hf hfn => by
      obtain rfl : f = 5 := ((Option.some.inj ((show Tryd.prog.funcNamed Rows.fnExactCheckerTextRow.func = some 5 by kernel_rfl).symm.trans hf)).symm)
      obtain rfl : fn = Tryd.f5 := (Option.some.inj (Tryd.func5.symm.trans hfn)).symm
      exact ⟨by kernel_rfl, fun j t ht => by
        rw [Tryd.params5] at ht
        have h3 : t = 45 := by
          match j, ht with
          | 0, ht => simp at ht; simp [ht]
          | j + 1, ht => simp at ht
        rcases h3 with rfl
        · exact (show Tryd.prog.wantsStandIn 45 = false by kernel_rfl)⟩)
    (by kernel_rfl)
#print axioms proved
end Go.Proofs.YtipmgemnjcjobaaDoor.fnExactCheckerText
namespace Go.Proofs.YtipmgemnjcjobaaDoor
/-- The card, under a short name, for the claim. -/
theorem fnExactCheckerText_holds : Rows.FnExactCheckerTextCardSaid := fnExactCheckerText.proved
end Go.Proofs.YtipmgemnjcjobaaDoor
