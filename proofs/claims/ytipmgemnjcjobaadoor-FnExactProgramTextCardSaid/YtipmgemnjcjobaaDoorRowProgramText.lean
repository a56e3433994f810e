/- The row of the law FnExactProgramText: it returns true for all arguments, which read behind the call as before; no conditions. -/
import Derived.Test.YtipmgemnjcjobaaDoorRunProgramText
import Derived.Test.YtipmgemnjcjobaaDoorTie
import Derived.Test.YtipmgemnjcjobaaDoorCards
import Derived.SevenTiedAt
set_option linter.unusedVariables false
namespace Go.Proofs.YtipmgemnjcjobaaDoor.fnExactProgramText
open Go.ChangeShapes Go.WideShapes Go.ChangeAt Go.RowKit Aw
set_option maxRecDepth 100000

theorem closed0 : (Rows.fnExactProgramTextRow.inPlace == Tryd.pinned.checked.prog.inPlace 4) = true := by kernel_rfl
theorem closed1 : (Rows.fnExactProgramTextRow.unfollowed == Tryd.pinned.checked.prog.unfollowed 4) = true := by kernel_rfl
theorem closed2 : (Rows.fnExactProgramTextRow.recurses == Tryd.pinned.checked.prog.recurses 4) = true := by kernel_rfl
theorem closed3 : (Rows.fnExactProgramTextRow.named == Tryd.pinned.checked.prog.varsNamed 4) = true := by kernel_rfl
theorem closed : joinedFacts Tryd.pinned.checked.prog 4 Tryd.f4 Rows.fnExactProgramTextSpec Rows.fnExactProgramTextRow = true := by
  unfold joinedFacts
  rw [closed0, closed1, closed2, closed3]
  kernel_rfl
theorem over : Rows.fnExactProgramTextRow.holds Tryd.pinned (OpenSpec.ofChange Rows.fnExactProgramTextSpec) :=
  OpenClaim.holds_of_wide 4 Tryd.f4 rfl rfl rfl rfl rfl rfl rfl ⟨rfl, rfl, rfl, rfl, rfl⟩ rfl rfl rfl rfl rfl (by kernel_rfl) Tryd.func4 closed
    (of_decide_eq_true (by kernel_rfl)) (by unfold Func.isWrapper; first | (rw [if_pos (by decide +kernel)]; kernel_rfl) | (rw [if_neg (by decide +kernel)]; exact ⟨rfl, rfl⟩))
    (fun os started H enc _ => lifted os started H enc)
theorem proved : Rows.FnExactProgramTextCardSaid :=
  Claim7.holds_tied_plain_at .later [] [.data, .data, .data] true (true, "046dfa9c3dfc9b3a510a544a5fb8972d83d0921e6782400a0d2d5e6669c70234") false
    over (fun _ h => by cases h) (by kernel_rfl) (fun _ h => by cases h) fnExactProgramText_row_tie rfl ⟨rfl, rfl⟩ (by kernel_rfl) rfl
    (fun f fn hf hfn => by
      obtain rfl : f = 4 := ((Option.some.inj ((show Tryd.prog.funcNamed Rows.fnExactProgramTextRow.func = some 4 by kernel_rfl).symm.trans hf)).symm)
      obtain rfl : fn = Tryd.f4 := (Option.some.inj (Tryd.func4.symm.trans hfn)).symm
      exact ⟨by kernel_rfl, fun j t ht => by
        rw [Tryd.params4] at ht
        have h3 : t = 31 := by
          match j, ht with
          | 0, ht => simp at ht; simp [ht]
          | j + 1, ht => simp at ht
        rcases h3 with rfl
        · exact (show Tryd.prog.wantsStandIn 31 = false by kernel_rfl)⟩)
    (by kernel_rfl)
#print axioms proved
end Go.Proofs.YtipmgemnjcjobaaDoor.fnExactProgramText
namespace Go.Proofs.YtipmgemnjcjobaaDoor
/-- The card, under a short name, for the claim. -/
theorem fnExactProgramText_holds : Rows.FnExactProgramTextCardSaid := fnExactProgramText.proved
end Go.Proofs.YtipmgemnjcjobaaDoor
