/-
  DERIVED. GIVEN WITH THE SEED: THE CARDS: each row of YtipmgemnjcjobaaDoorRows.lean that lists a variable, with what it lists TIED to the program's text (the seventh form; the later family's looks); each row that meets fmt, with fmt's text TOLD by the authors' own Lean function (tested against real Go, not proved from fmt's source: count such statements apart). THE CARD IS WHAT COUNTS. Prove the row's statement (the work); the ties are given (YtipmgemnjcjobaaDoorTie.lean); close each card by the builder's one call (the guide's Derived/Test/ToyasCard.lean, 'card_holds'). Laid BY PROGRAM, IN A SANDBOX (cutbox-door.mjs). By AI agents, Wed Nov 11 2026. No macro, syntax, notation, axiom, sorry.
-/
import Derived.Test.YtipmgemnjcjobaaDoorRows
import GoSem.ClaimSeven
namespace Go.Proofs.YtipmgemnjcjobaaDoor
namespace Rows

/-- THE TIED CARD OF 'laws.FnExactTreeEditText'. -/
def fnExactTreeEditTextCard : Claim7 := { stood := { row := fnExactTreeEditTextRow, standIns := [], harness := (true, "046dfa9c3dfc9b3a510a544a5fb8972d83d0921e6782400a0d2d5e6669c70234"), looks := false }, kinds := [], alts := [], laidByText := true, laidKinds := [.data, .data, .data], laidTests := true, laidLooks := .later }
def FnExactTreeEditTextCardSaid : Prop := Claim7.holds Tryd.pinned (.plain (OpenSpec.ofChange fnExactTreeEditTextSpec)) fnExactTreeEditTextCard

/-- THE TIED CARD OF 'laws.FnExactProgramText'. -/
def fnExactProgramTextCard : Claim7 := { stood := { row := fnExactProgramTextRow, standIns := [], harness := (true, "046dfa9c3dfc9b3a510a544a5fb8972d83d0921e6782400a0d2d5e6669c70234"), looks := false }, kinds := [], alts := [], laidByText := true, laidKinds := [.data, .data, .data], laidTests := true, laidLooks := .later }
def FnExactProgramTextCardSaid : Prop := Claim7.holds Tryd.pinned (.plain (OpenSpec.ofChange fnExactProgramTextSpec)) fnExactProgramTextCard

/-- THE TIED CARD OF 'laws.FnExactCheckerText'. -/
def fnExactCheckerTextCard : Claim7 := { stood := { row := fnExactCheckerTextRow, standIns := [], harness := (true, "046dfa9c3dfc9b3a510a544a5fb8972d83d0921e6782400a0d2d5e6669c70234"), looks := false }, kinds := [], alts := [], laidByText := true, laidKinds := [.data, .data, .data], laidTests := true, laidLooks := .later }
def FnExactCheckerTextCardSaid : Prop := Claim7.holds Tryd.pinned (.plain (OpenSpec.ofChange fnExactCheckerTextSpec)) fnExactCheckerTextCard

/-- THE SECOND FORM's CARD OF 'laws.FnExactTreeEditText'. -/
def fnExactTreeEditTextUptoCard : Claim7 := { stood := { row := fnExactTreeEditTextUptoRow, standIns := [], harness := (true, "046dfa9c3dfc9b3a510a544a5fb8972d83d0921e6782400a0d2d5e6669c70234"), looks := false }, kinds := [], alts := [], laidByText := true, laidKinds := [.data, .data, .data], laidTests := true, laidLooks := .later }
def FnExactTreeEditTextUptoCardSaid : Prop := Claim7.holds Tryd.pinned (.plain (OpenSpec.upto fnExactTreeEditTextSpec)) fnExactTreeEditTextUptoCard

/-- THE SECOND FORM's CARD OF 'laws.FnExactProgramText'. -/
def fnExactProgramTextUptoCard : Claim7 := { stood := { row := fnExactProgramTextUptoRow, standIns := [], harness := (true, "046dfa9c3dfc9b3a510a544a5fb8972d83d0921e6782400a0d2d5e6669c70234"), looks := false }, kinds := [], alts := [], laidByText := true, laidKinds := [.data, .data, .data], laidTests := true, laidLooks := .later }
def FnExactProgramTextUptoCardSaid : Prop := Claim7.holds Tryd.pinned (.plain (OpenSpec.upto fnExactProgramTextSpec)) fnExactProgramTextUptoCard

/-- THE SECOND FORM's CARD OF 'laws.FnExactCheckerText'. -/
def fnExactCheckerTextUptoCard : Claim7 := { stood := { row := fnExactCheckerTextUptoRow, standIns := [], harness := (true, "046dfa9c3dfc9b3a510a544a5fb8972d83d0921e6782400a0d2d5e6669c70234"), looks := false }, kinds := [], alts := [], laidByText := true, laidKinds := [.data, .data, .data], laidTests := true, laidLooks := .later }
def FnExactCheckerTextUptoCardSaid : Prop := Claim7.holds Tryd.pinned (.plain (OpenSpec.upto fnExactCheckerTextSpec)) fnExactCheckerTextUptoCard
end Rows
end Go.Proofs.YtipmgemnjcjobaaDoor
