/- The table of all functions; printed by a program (gen2.py). -/
import Derived.Test.YtegjfjckijmgcaaAw30
import Derived.Test.YtegjfjckijmgcaaG0
import Derived.Test.YtegjfjckijmgcaaSp
set_option linter.unusedVariables false
set_option maxRecDepth 100000
namespace Go.Proofs.Ytegjfjckijmgcaa
open Aw
def tbl : List (FnE Try.prog) := [⟨i_laws_eqInt64S, fa_laws_eqInt64S, cf_laws_eqInt64S⟩,
  ⟨i_laws_markInt64S, fa_laws_markInt64S, cf_laws_markInt64S⟩,
  ⟨i_laws_heldInt64S, fa_laws_heldInt64S, cf_laws_heldInt64S⟩,
  ⟨i_laws_toInt64S, fa_laws_toInt64S, cf_laws_toInt64S⟩,
  ⟨i_laws_szLink, fa_laws_szLink, cf_laws_szLink⟩,
  ⟨i_laws_szLinkS, fa_laws_szLinkS, cf_laws_szLinkS⟩,
  ⟨i_laws_szModule, fa_laws_szModule, cf_laws_szModule⟩,
  ⟨i_laws_szModuleS, fa_laws_szModuleS, cf_laws_szModuleS⟩,
  ⟨i_laws_szProgram, fa_laws_szProgram, cf_laws_szProgram⟩,
  ⟨i_spec_l00In, fa_spec_l00In, cf_spec_l00In⟩,
  ⟨i_spec_l07Exit, fa_spec_l07Exit, cf_spec_l07Exit⟩,
  ⟨i_spec_l07Can, fa_spec_l07Can, cf_spec_l07Can⟩,
  ⟨i_spec_l01Call, fa_spec_l01Call, cf_spec_l01Call⟩,
  ⟨i_spec_l01Return, fa_spec_l01Return, cf_spec_l01Return⟩,
  ⟨i_spec_l06Brackets, fa_spec_l06Brackets, cf_spec_l06Brackets⟩,
  ⟨i_spec_l07Inner, fa_spec_l07Inner, cf_spec_l07Inner⟩,
  ⟨i_spec_l07Ok, fa_spec_l07Ok, cf_spec_l07Ok⟩,
  ⟨i_spec_l07Make, fa_spec_l07Make, cf_spec_l07Make⟩,
  ⟨i_spec_l07Run, fa_spec_l07Run, cf_spec_l07Run⟩,
  ⟨i_spec_ChoicesAt, fa_spec_ChoicesAt, cf_spec_ChoicesAt⟩,
  ⟨i_laws_toLink, fa_laws_toLink, cf_laws_toLink⟩,
  ⟨i_laws_toLinkS, fa_laws_toLinkS, cf_laws_toLinkS⟩,
  ⟨i_laws_toModule, fa_laws_toModule, cf_laws_toModule⟩,
  ⟨i_laws_toModuleS, fa_laws_toModuleS, cf_laws_toModuleS⟩,
  ⟨i_laws_toProgram, fa_laws_toProgram, cf_laws_toProgram⟩,
  ⟨i_impl_Program_exit, fa_impl_Program_exit, cf_impl_Program_exit⟩,
  ⟨i_impl_Program_choices, fa_impl_Program_choices, cf_impl_Program_choices⟩,
  ⟨i_impl_within, fa_impl_within, cf_impl_within⟩,
  ⟨i_impl_size_impl_Module, fa_impl_size_impl_Module, cf_impl_size_impl_Module⟩,
  ⟨i_slices_IndexFunc_L_impl_Module, fa_slices_IndexFunc_L_impl_Module, cf_slices_IndexFunc_L_impl_Module⟩,
  ⟨i_slices_ContainsFunc_L_impl_Module, fa_slices_ContainsFunc_L_impl_Module, cf_slices_ContainsFunc_L_impl_Module⟩,
  ⟨i_slices_IndexFunc_L_impl_Link, fa_slices_IndexFunc_L_impl_Link, cf_slices_IndexFunc_L_impl_Link⟩,
  ⟨i_slices_ContainsFunc_L_impl_Link, fa_slices_ContainsFunc_L_impl_Link, cf_slices_ContainsFunc_L_impl_Link⟩,
  ⟨i_impl_isCall, fa_impl_isCall, cf_impl_isCall⟩,
  ⟨i_impl_isReturn, fa_impl_isReturn, cf_impl_isReturn⟩,
  ⟨i_impl_isBrackets, fa_impl_isBrackets, cf_impl_isBrackets⟩,
  ⟨i_impl_isLetter, fa_impl_isLetter, cf_impl_isLetter⟩,
  ⟨i_impl_ValidProgram_1_1, fa_impl_ValidProgram_1_1, cf_impl_ValidProgram_1_1⟩,
  ⟨i_impl_ValidProgram_1, fa_impl_ValidProgram_1, cf_impl_ValidProgram_1⟩,
  ⟨i_impl_ValidProgram, fa_impl_ValidProgram, cf_impl_ValidProgram⟩,
  ⟨i_slices_Index_L_int64, fa_slices_Index_L_int64, cf_slices_Index_L_int64⟩,
  ⟨i_slices_Contains_L_int64, fa_slices_Contains_L_int64, cf_slices_Contains_L_int64⟩,
  ⟨i_impl_Link_isCallLink, fa_impl_Link_isCallLink, cf_impl_Link_isCallLink⟩,
  ⟨i_slices_Clip_L_L_int64, fa_slices_Clip_L_L_int64, cf_slices_Clip_L_L_int64⟩,
  ⟨i_impl_Program_choose, fa_impl_Program_choose, cf_impl_Program_choose⟩,
  ⟨i_impl_Program_run, fa_impl_Program_run, cf_impl_Program_run⟩,
  ⟨i_impl_ChoicesAt, fa_impl_ChoicesAt, cf_impl_ChoicesAt⟩,
  ⟨i_laws_eqLink, fa_laws_eqLink, cf_laws_eqLink⟩,
  ⟨i_laws_eqLinkS, fa_laws_eqLinkS, cf_laws_eqLinkS⟩,
  ⟨i_laws_eqModule, fa_laws_eqModule, cf_laws_eqModule⟩,
  ⟨i_laws_eqModuleS, fa_laws_eqModuleS, cf_laws_eqModuleS⟩,
  ⟨i_laws_eqProgram, fa_laws_eqProgram, cf_laws_eqProgram⟩,
  ⟨i_laws_markText, fa_laws_markText, cf_laws_markText⟩,
  ⟨i_laws_markLinkS, fa_laws_markLinkS, cf_laws_markLinkS⟩,
  ⟨i_laws_markModuleS, fa_laws_markModuleS, cf_laws_markModuleS⟩,
  ⟨i_laws_markProgram, fa_laws_markProgram, cf_laws_markProgram⟩,
  ⟨i_laws_FnExactChoicesAt, fa_laws_FnExactChoicesAt, cf_laws_FnExactChoicesAt⟩,
  ⟨i_spec_l00Own, fa_spec_l00Own, cf_spec_l00Own⟩,
  ⟨i_spec_RunProgram, fa_spec_RunProgram, cf_spec_RunProgram⟩,
  ⟨i_slices_Clone_L_int64, fs_slices_Clone_L_int64, ok_slices_Clone_L_int64⟩,
  ⟨i_impl_RunProgram, fa_impl_RunProgram, cf_impl_RunProgram⟩,
  ⟨i_laws_eqInt64SS, fa_laws_eqInt64SS, cf_laws_eqInt64SS⟩,
  ⟨i_laws_eqPlace, fa_laws_eqPlace, cf_laws_eqPlace⟩,
  ⟨i_laws_markInt64SS, fa_laws_markInt64SS, cf_laws_markInt64SS⟩,
  ⟨i_laws_markPlace, fa_laws_markPlace, cf_laws_markPlace⟩,
  ⟨i_laws_heldInt64SS, fa_laws_heldInt64SS, cf_laws_heldInt64SS⟩,
  ⟨i_laws_heldPlace, fa_laws_heldPlace, cf_laws_heldPlace⟩,
  ⟨i_laws_FnExactRunProgram, fa_laws_FnExactRunProgram, cf_laws_FnExactRunProgram⟩]
def fns : Fns := fnsOf tbl
theorem fnsOk : FnsOk Try.prog fns := fnsOf_ok tbl
theorem n_laws_eqInt64S : fns i_laws_eqInt64S = some fa_laws_eqInt64S := rfl
@[simp] theorem c_laws_eqInt64S (args : List PV) (σ : List AObj) : callM fns (ev fns) i_laws_eqInt64S args σ = callT fns [(.lst 1 .any), (.lst 1 .any)] i_laws_eqInt64S args σ := callM_ty n_laws_eqInt64S rfl
theorem n_laws_markInt64S : fns i_laws_markInt64S = some fa_laws_markInt64S := rfl
@[simp] theorem c_laws_markInt64S (args : List PV) (σ : List AObj) : callM fns (ev fns) i_laws_markInt64S args σ = ev fns i_laws_markInt64S args σ := by simp [callM, n_laws_markInt64S, fa_laws_markInt64S]
theorem n_laws_heldInt64S : fns i_laws_heldInt64S = some fa_laws_heldInt64S := rfl
@[simp] theorem c_laws_heldInt64S (args : List PV) (σ : List AObj) : callM fns (ev fns) i_laws_heldInt64S args σ = callT fns [(.lst 1 .any), .any] i_laws_heldInt64S args σ := callM_ty n_laws_heldInt64S rfl
theorem n_laws_toInt64S : fns i_laws_toInt64S = some fa_laws_toInt64S := rfl
@[simp] theorem c_laws_toInt64S (args : List PV) (σ : List AObj) : callM fns (ev fns) i_laws_toInt64S args σ = callN fns i_laws_toInt64S args σ := callM_np n_laws_toInt64S rfl rfl
theorem n_laws_szLink : fns i_laws_szLink = some fa_laws_szLink := rfl
@[simp] theorem c_laws_szLink (args : List PV) (σ : List AObj) : callM fns (ev fns) i_laws_szLink args σ = callN fns i_laws_szLink args σ := callM_np n_laws_szLink rfl rfl
theorem n_laws_szLinkS : fns i_laws_szLinkS = some fa_laws_szLinkS := rfl
@[simp] theorem c_laws_szLinkS (args : List PV) (σ : List AObj) : callM fns (ev fns) i_laws_szLinkS args σ = callN fns i_laws_szLinkS args σ := callM_np n_laws_szLinkS rfl rfl
theorem n_laws_szModule : fns i_laws_szModule = some fa_laws_szModule := rfl
@[simp] theorem c_laws_szModule (args : List PV) (σ : List AObj) : callM fns (ev fns) i_laws_szModule args σ = callN fns i_laws_szModule args σ := callM_np n_laws_szModule rfl rfl
theorem n_laws_szModuleS : fns i_laws_szModuleS = some fa_laws_szModuleS := rfl
@[simp] theorem c_laws_szModuleS (args : List PV) (σ : List AObj) : callM fns (ev fns) i_laws_szModuleS args σ = callN fns i_laws_szModuleS args σ := callM_np n_laws_szModuleS rfl rfl
theorem n_laws_szProgram : fns i_laws_szProgram = some fa_laws_szProgram := rfl
@[simp] theorem c_laws_szProgram (args : List PV) (σ : List AObj) : callM fns (ev fns) i_laws_szProgram args σ = callN fns i_laws_szProgram args σ := callM_np n_laws_szProgram rfl rfl
theorem n_spec_l00In : fns i_spec_l00In = some fa_spec_l00In := rfl
@[simp] theorem c_spec_l00In (args : List PV) (σ : List AObj) : callM fns (ev fns) i_spec_l00In args σ = callN fns i_spec_l00In args σ := callM_np n_spec_l00In rfl rfl
theorem n_spec_l07Exit : fns i_spec_l07Exit = some fa_spec_l07Exit := rfl
@[simp] theorem c_spec_l07Exit (args : List PV) (σ : List AObj) : callM fns (ev fns) i_spec_l07Exit args σ = callN fns i_spec_l07Exit args σ := callM_np n_spec_l07Exit rfl rfl
theorem n_spec_l07Can : fns i_spec_l07Can = some fa_spec_l07Can := rfl
@[simp] theorem c_spec_l07Can (args : List PV) (σ : List AObj) : callM fns (ev fns) i_spec_l07Can args σ = callN fns i_spec_l07Can args σ := callM_np n_spec_l07Can rfl rfl
theorem n_spec_l01Call : fns i_spec_l01Call = some fa_spec_l01Call := rfl
@[simp] theorem c_spec_l01Call (args : List PV) (σ : List AObj) : callM fns (ev fns) i_spec_l01Call args σ = callN fns i_spec_l01Call args σ := callM_np n_spec_l01Call rfl rfl
theorem n_spec_l01Return : fns i_spec_l01Return = some fa_spec_l01Return := rfl
@[simp] theorem c_spec_l01Return (args : List PV) (σ : List AObj) : callM fns (ev fns) i_spec_l01Return args σ = callN fns i_spec_l01Return args σ := callM_np n_spec_l01Return rfl rfl
theorem n_spec_l06Brackets : fns i_spec_l06Brackets = some fa_spec_l06Brackets := rfl
@[simp] theorem c_spec_l06Brackets (args : List PV) (σ : List AObj) : callM fns (ev fns) i_spec_l06Brackets args σ = callN fns i_spec_l06Brackets args σ := callM_np n_spec_l06Brackets rfl rfl
theorem n_spec_l07Inner : fns i_spec_l07Inner = some fa_spec_l07Inner := rfl
@[simp] theorem c_spec_l07Inner (args : List PV) (σ : List AObj) : callM fns (ev fns) i_spec_l07Inner args σ = callN fns i_spec_l07Inner args σ := callM_np n_spec_l07Inner rfl rfl
theorem n_spec_l07Ok : fns i_spec_l07Ok = some fa_spec_l07Ok := rfl
@[simp] theorem c_spec_l07Ok (args : List PV) (σ : List AObj) : callM fns (ev fns) i_spec_l07Ok args σ = callN fns i_spec_l07Ok args σ := callM_np n_spec_l07Ok rfl rfl
theorem n_spec_l07Make : fns i_spec_l07Make = some fa_spec_l07Make := rfl
@[simp] theorem c_spec_l07Make (args : List PV) (σ : List AObj) : callM fns (ev fns) i_spec_l07Make args σ = ev fns i_spec_l07Make args σ := by simp [callM, n_spec_l07Make, fa_spec_l07Make]
theorem n_spec_l07Run : fns i_spec_l07Run = some fa_spec_l07Run := rfl
@[simp] theorem c_spec_l07Run (args : List PV) (σ : List AObj) : callM fns (ev fns) i_spec_l07Run args σ = callN fns i_spec_l07Run args σ := callM_np n_spec_l07Run rfl rfl
theorem n_spec_ChoicesAt : fns i_spec_ChoicesAt = some fa_spec_ChoicesAt := rfl
@[simp] theorem c_spec_ChoicesAt (args : List PV) (σ : List AObj) : callM fns (ev fns) i_spec_ChoicesAt args σ = callT fns [(.agg [(.lst 2 (.agg [.any, (.lst 4 .any)]))]), (.lst 1 .any)] i_spec_ChoicesAt args σ := callM_ty n_spec_ChoicesAt rfl
theorem n_laws_toLink : fns i_laws_toLink = some fa_laws_toLink := rfl
@[simp] theorem c_laws_toLink (args : List PV) (σ : List AObj) : callM fns (ev fns) i_laws_toLink args σ = callN fns i_laws_toLink args σ := callM_np n_laws_toLink rfl rfl
theorem n_laws_toLinkS : fns i_laws_toLinkS = some fa_laws_toLinkS := rfl
@[simp] theorem c_laws_toLinkS (args : List PV) (σ : List AObj) : callM fns (ev fns) i_laws_toLinkS args σ = callN fns i_laws_toLinkS args σ := callM_np n_laws_toLinkS rfl rfl
theorem n_laws_toModule : fns i_laws_toModule = some fa_laws_toModule := rfl
@[simp] theorem c_laws_toModule (args : List PV) (σ : List AObj) : callM fns (ev fns) i_laws_toModule args σ = callN fns i_laws_toModule args σ := callM_np n_laws_toModule rfl rfl
theorem n_laws_toModuleS : fns i_laws_toModuleS = some fa_laws_toModuleS := rfl
@[simp] theorem c_laws_toModuleS (args : List PV) (σ : List AObj) : callM fns (ev fns) i_laws_toModuleS args σ = callN fns i_laws_toModuleS args σ := callM_np n_laws_toModuleS rfl rfl
theorem n_laws_toProgram : fns i_laws_toProgram = some fa_laws_toProgram := rfl
@[simp] theorem c_laws_toProgram (args : List PV) (σ : List AObj) : callM fns (ev fns) i_laws_toProgram args σ = callN fns i_laws_toProgram args σ := callM_np n_laws_toProgram rfl rfl
theorem n_impl_Program_exit : fns i_impl_Program_exit = some fa_impl_Program_exit := rfl
@[simp] theorem c_impl_Program_exit (args : List PV) (σ : List AObj) : callM fns (ev fns) i_impl_Program_exit args σ = callN fns i_impl_Program_exit args σ := callM_np n_impl_Program_exit rfl rfl
theorem n_impl_Program_choices : fns i_impl_Program_choices = some fa_impl_Program_choices := rfl
@[simp] theorem c_impl_Program_choices (args : List PV) (σ : List AObj) : callM fns (ev fns) i_impl_Program_choices args σ = callT fns [(.agg [(.lst 2 (.agg [.any, (.lst 4 .any)]))]), (.agg [.any, .any, (.lst 1 (.lst 1 .any))])] i_impl_Program_choices args σ := callM_ty n_impl_Program_choices rfl
theorem n_impl_within : fns i_impl_within = some fa_impl_within := rfl
@[simp] theorem c_impl_within (args : List PV) (σ : List AObj) : callM fns (ev fns) i_impl_within args σ = callN fns i_impl_within args σ := callM_np n_impl_within rfl rfl
theorem n_impl_size_impl_Module : fns i_impl_size_impl_Module = some fa_impl_size_impl_Module := rfl
@[simp] theorem c_impl_size_impl_Module (args : List PV) (σ : List AObj) : callM fns (ev fns) i_impl_size_impl_Module args σ = callN fns i_impl_size_impl_Module args σ := callM_np n_impl_size_impl_Module rfl rfl
theorem n_slices_IndexFunc_L_impl_Module : fns i_slices_IndexFunc_L_impl_Module = some fa_slices_IndexFunc_L_impl_Module := rfl
@[simp] theorem c_slices_IndexFunc_L_impl_Module (args : List PV) (σ : List AObj) : callM fns (ev fns) i_slices_IndexFunc_L_impl_Module args σ = callN fns i_slices_IndexFunc_L_impl_Module args σ := callM_np n_slices_IndexFunc_L_impl_Module rfl rfl
theorem n_slices_ContainsFunc_L_impl_Module : fns i_slices_ContainsFunc_L_impl_Module = some fa_slices_ContainsFunc_L_impl_Module := rfl
@[simp] theorem c_slices_ContainsFunc_L_impl_Module (args : List PV) (σ : List AObj) : callM fns (ev fns) i_slices_ContainsFunc_L_impl_Module args σ = callN fns i_slices_ContainsFunc_L_impl_Module args σ := callM_np n_slices_ContainsFunc_L_impl_Module rfl rfl
theorem n_slices_IndexFunc_L_impl_Link : fns i_slices_IndexFunc_L_impl_Link = some fa_slices_IndexFunc_L_impl_Link := rfl
@[simp] theorem c_slices_IndexFunc_L_impl_Link (args : List PV) (σ : List AObj) : callM fns (ev fns) i_slices_IndexFunc_L_impl_Link args σ = callN fns i_slices_IndexFunc_L_impl_Link args σ := callM_np n_slices_IndexFunc_L_impl_Link rfl rfl
theorem n_slices_ContainsFunc_L_impl_Link : fns i_slices_ContainsFunc_L_impl_Link = some fa_slices_ContainsFunc_L_impl_Link := rfl
@[simp] theorem c_slices_ContainsFunc_L_impl_Link (args : List PV) (σ : List AObj) : callM fns (ev fns) i_slices_ContainsFunc_L_impl_Link args σ = callN fns i_slices_ContainsFunc_L_impl_Link args σ := callM_np n_slices_ContainsFunc_L_impl_Link rfl rfl
theorem n_impl_isCall : fns i_impl_isCall = some fa_impl_isCall := rfl
@[simp] theorem c_impl_isCall (args : List PV) (σ : List AObj) : callM fns (ev fns) i_impl_isCall args σ = callN fns i_impl_isCall args σ := callM_np n_impl_isCall rfl rfl
theorem n_impl_isReturn : fns i_impl_isReturn = some fa_impl_isReturn := rfl
@[simp] theorem c_impl_isReturn (args : List PV) (σ : List AObj) : callM fns (ev fns) i_impl_isReturn args σ = callN fns i_impl_isReturn args σ := callM_np n_impl_isReturn rfl rfl
theorem n_impl_isBrackets : fns i_impl_isBrackets = some fa_impl_isBrackets := rfl
@[simp] theorem c_impl_isBrackets (args : List PV) (σ : List AObj) : callM fns (ev fns) i_impl_isBrackets args σ = callN fns i_impl_isBrackets args σ := callM_np n_impl_isBrackets rfl rfl
theorem n_impl_isLetter : fns i_impl_isLetter = some fa_impl_isLetter := rfl
@[simp] theorem c_impl_isLetter (args : List PV) (σ : List AObj) : callM fns (ev fns) i_impl_isLetter args σ = callN fns i_impl_isLetter args σ := callM_np n_impl_isLetter rfl rfl
theorem n_impl_ValidProgram_1_1 : fns i_impl_ValidProgram_1_1 = some fa_impl_ValidProgram_1_1 := rfl
@[simp] theorem c_impl_ValidProgram_1_1 (args : List PV) (σ : List AObj) : callM fns (ev fns) i_impl_ValidProgram_1_1 args σ = callN fns i_impl_ValidProgram_1_1 args σ := callM_np n_impl_ValidProgram_1_1 rfl rfl
theorem n_impl_ValidProgram_1 : fns i_impl_ValidProgram_1 = some fa_impl_ValidProgram_1 := rfl
@[simp] theorem c_impl_ValidProgram_1 (args : List PV) (σ : List AObj) : callM fns (ev fns) i_impl_ValidProgram_1 args σ = callN fns i_impl_ValidProgram_1 args σ := callM_np n_impl_ValidProgram_1 rfl rfl
theorem n_impl_ValidProgram : fns i_impl_ValidProgram = some fa_impl_ValidProgram := rfl
@[simp] theorem c_impl_ValidProgram (args : List PV) (σ : List AObj) : callM fns (ev fns) i_impl_ValidProgram args σ = callN fns i_impl_ValidProgram args σ := callM_np n_impl_ValidProgram rfl rfl
theorem n_slices_Index_L_int64 : fns i_slices_Index_L_int64 = some fa_slices_Index_L_int64 := rfl
@[simp] theorem c_slices_Index_L_int64 (args : List PV) (σ : List AObj) : callM fns (ev fns) i_slices_Index_L_int64 args σ = callN fns i_slices_Index_L_int64 args σ := callM_np n_slices_Index_L_int64 rfl rfl
theorem n_slices_Contains_L_int64 : fns i_slices_Contains_L_int64 = some fa_slices_Contains_L_int64 := rfl
@[simp] theorem c_slices_Contains_L_int64 (args : List PV) (σ : List AObj) : callM fns (ev fns) i_slices_Contains_L_int64 args σ = callN fns i_slices_Contains_L_int64 args σ := callM_np n_slices_Contains_L_int64 rfl rfl
theorem n_impl_Link_isCallLink : fns i_impl_Link_isCallLink = some fa_impl_Link_isCallLink := rfl
@[simp] theorem c_impl_Link_isCallLink (args : List PV) (σ : List AObj) : callM fns (ev fns) i_impl_Link_isCallLink args σ = callN fns i_impl_Link_isCallLink args σ := callM_np n_impl_Link_isCallLink rfl rfl
theorem n_slices_Clip_L_L_int64 : fns i_slices_Clip_L_L_int64 = some fa_slices_Clip_L_L_int64 := rfl
@[simp] theorem c_slices_Clip_L_L_int64 (args : List PV) (σ : List AObj) : callM fns (ev fns) i_slices_Clip_L_L_int64 args σ = callN fns i_slices_Clip_L_L_int64 args σ := callM_np n_slices_Clip_L_L_int64 rfl rfl
theorem n_impl_Program_choose : fns i_impl_Program_choose = some fa_impl_Program_choose := rfl
@[simp] theorem c_impl_Program_choose (args : List PV) (σ : List AObj) : callM fns (ev fns) i_impl_Program_choose args σ = callT fns [(.agg [(.lst 2 (.agg [.any, (.lst 4 .any)]))]), (.agg [.any, .any, (.lst 1 (.lst 1 .any))]), .any] i_impl_Program_choose args σ := callM_ty n_impl_Program_choose rfl
theorem n_impl_Program_run : fns i_impl_Program_run = some fa_impl_Program_run := rfl
@[simp] theorem c_impl_Program_run (args : List PV) (σ : List AObj) : callM fns (ev fns) i_impl_Program_run args σ = callT fns [(.agg [(.lst 2 (.agg [.any, (.lst 4 .any)]))]), (.lst 1 .any)] i_impl_Program_run args σ := callM_ty n_impl_Program_run rfl
theorem n_impl_ChoicesAt : fns i_impl_ChoicesAt = some fa_impl_ChoicesAt := rfl
@[simp] theorem c_impl_ChoicesAt (args : List PV) (σ : List AObj) : callM fns (ev fns) i_impl_ChoicesAt args σ = callT fns [(.agg [(.lst 2 (.agg [.any, (.lst 4 .any)]))]), (.lst 1 .any)] i_impl_ChoicesAt args σ := callM_ty n_impl_ChoicesAt rfl
theorem n_laws_eqLink : fns i_laws_eqLink = some fa_laws_eqLink := rfl
@[simp] theorem c_laws_eqLink (args : List PV) (σ : List AObj) : callM fns (ev fns) i_laws_eqLink args σ = callN fns i_laws_eqLink args σ := callM_np n_laws_eqLink rfl rfl
theorem n_laws_eqLinkS : fns i_laws_eqLinkS = some fa_laws_eqLinkS := rfl
@[simp] theorem c_laws_eqLinkS (args : List PV) (σ : List AObj) : callM fns (ev fns) i_laws_eqLinkS args σ = callN fns i_laws_eqLinkS args σ := callM_np n_laws_eqLinkS rfl rfl
theorem n_laws_eqModule : fns i_laws_eqModule = some fa_laws_eqModule := rfl
@[simp] theorem c_laws_eqModule (args : List PV) (σ : List AObj) : callM fns (ev fns) i_laws_eqModule args σ = callN fns i_laws_eqModule args σ := callM_np n_laws_eqModule rfl rfl
theorem n_laws_eqModuleS : fns i_laws_eqModuleS = some fa_laws_eqModuleS := rfl
@[simp] theorem c_laws_eqModuleS (args : List PV) (σ : List AObj) : callM fns (ev fns) i_laws_eqModuleS args σ = callN fns i_laws_eqModuleS args σ := callM_np n_laws_eqModuleS rfl rfl
theorem n_laws_eqProgram : fns i_laws_eqProgram = some fa_laws_eqProgram := rfl
@[simp] theorem c_laws_eqProgram (args : List PV) (σ : List AObj) : callM fns (ev fns) i_laws_eqProgram args σ = callT fns [(.agg [(.lst 2 (.agg [.any, (.lst 4 .any)]))]), (.agg [(.lst 2 (.agg [.any, (.lst 4 .any)]))])] i_laws_eqProgram args σ := callM_ty n_laws_eqProgram rfl
theorem n_laws_markText : fns i_laws_markText = some fa_laws_markText := rfl
@[simp] theorem c_laws_markText (args : List PV) (σ : List AObj) : callM fns (ev fns) i_laws_markText args σ = callN fns i_laws_markText args σ := callM_np n_laws_markText rfl rfl
theorem n_laws_markLinkS : fns i_laws_markLinkS = some fa_laws_markLinkS := rfl
@[simp] theorem c_laws_markLinkS (args : List PV) (σ : List AObj) : callM fns (ev fns) i_laws_markLinkS args σ = ev fns i_laws_markLinkS args σ := by simp [callM, n_laws_markLinkS, fa_laws_markLinkS]
theorem n_laws_markModuleS : fns i_laws_markModuleS = some fa_laws_markModuleS := rfl
@[simp] theorem c_laws_markModuleS (args : List PV) (σ : List AObj) : callM fns (ev fns) i_laws_markModuleS args σ = ev fns i_laws_markModuleS args σ := by simp [callM, n_laws_markModuleS, fa_laws_markModuleS]
theorem n_laws_markProgram : fns i_laws_markProgram = some fa_laws_markProgram := rfl
@[simp] theorem c_laws_markProgram (args : List PV) (σ : List AObj) : callM fns (ev fns) i_laws_markProgram args σ = ev fns i_laws_markProgram args σ := by simp [callM, n_laws_markProgram, fa_laws_markProgram]
theorem n_laws_FnExactChoicesAt : fns i_laws_FnExactChoicesAt = some fa_laws_FnExactChoicesAt := rfl
@[simp] theorem c_laws_FnExactChoicesAt (args : List PV) (σ : List AObj) : callM fns (ev fns) i_laws_FnExactChoicesAt args σ = callN fns i_laws_FnExactChoicesAt args σ := callM_np n_laws_FnExactChoicesAt rfl rfl
theorem n_spec_l00Own : fns i_spec_l00Own = some fa_spec_l00Own := rfl
@[simp] theorem c_spec_l00Own (args : List PV) (σ : List AObj) : callM fns (ev fns) i_spec_l00Own args σ = callN fns i_spec_l00Own args σ := callM_np n_spec_l00Own rfl rfl
theorem n_spec_RunProgram : fns i_spec_RunProgram = some fa_spec_RunProgram := rfl
@[simp] theorem c_spec_RunProgram (args : List PV) (σ : List AObj) : callM fns (ev fns) i_spec_RunProgram args σ = callT fns [(.agg [(.lst 2 (.agg [.any, (.lst 4 .any)]))]), (.lst 1 .any)] i_spec_RunProgram args σ := callM_ty n_spec_RunProgram rfl
theorem n_slices_Clone_L_int64 : fns i_slices_Clone_L_int64 = some fs_slices_Clone_L_int64 := rfl
@[simp] theorem c_slices_Clone_L_int64 (args : List PV) (σ : List AObj) : callM fns (ev fns) i_slices_Clone_L_int64 args σ = callN fns i_slices_Clone_L_int64 args σ := callM_np n_slices_Clone_L_int64 rfl rfl
theorem sp_slices_Clone_L_int64 (args : List PV) (σ : List AObj) : ev fns i_slices_Clone_L_int64 args σ = spClone 1 8 args σ := ev_sp n_slices_Clone_L_int64 rfl args σ
theorem n_impl_RunProgram : fns i_impl_RunProgram = some fa_impl_RunProgram := rfl
@[simp] theorem c_impl_RunProgram (args : List PV) (σ : List AObj) : callM fns (ev fns) i_impl_RunProgram args σ = callT fns [(.agg [(.lst 2 (.agg [.any, (.lst 4 .any)]))]), (.lst 1 .any)] i_impl_RunProgram args σ := callM_ty n_impl_RunProgram rfl
theorem n_laws_eqInt64SS : fns i_laws_eqInt64SS = some fa_laws_eqInt64SS := rfl
@[simp] theorem c_laws_eqInt64SS (args : List PV) (σ : List AObj) : callM fns (ev fns) i_laws_eqInt64SS args σ = callT fns [(.lst 1 (.lst 1 .any)), (.lst 1 (.lst 1 .any))] i_laws_eqInt64SS args σ := callM_ty n_laws_eqInt64SS rfl
theorem n_laws_eqPlace : fns i_laws_eqPlace = some fa_laws_eqPlace := rfl
@[simp] theorem c_laws_eqPlace (args : List PV) (σ : List AObj) : callM fns (ev fns) i_laws_eqPlace args σ = callT fns [(.agg [.any, .any, (.lst 1 (.lst 1 .any))]), (.agg [.any, .any, (.lst 1 (.lst 1 .any))])] i_laws_eqPlace args σ := callM_ty n_laws_eqPlace rfl
theorem n_laws_markInt64SS : fns i_laws_markInt64SS = some fa_laws_markInt64SS := rfl
@[simp] theorem c_laws_markInt64SS (args : List PV) (σ : List AObj) : callM fns (ev fns) i_laws_markInt64SS args σ = ev fns i_laws_markInt64SS args σ := by simp [callM, n_laws_markInt64SS, fa_laws_markInt64SS]
theorem n_laws_markPlace : fns i_laws_markPlace = some fa_laws_markPlace := rfl
@[simp] theorem c_laws_markPlace (args : List PV) (σ : List AObj) : callM fns (ev fns) i_laws_markPlace args σ = ev fns i_laws_markPlace args σ := by simp [callM, n_laws_markPlace, fa_laws_markPlace]
theorem n_laws_heldInt64SS : fns i_laws_heldInt64SS = some fa_laws_heldInt64SS := rfl
@[simp] theorem c_laws_heldInt64SS (args : List PV) (σ : List AObj) : callM fns (ev fns) i_laws_heldInt64SS args σ = callT fns [(.lst 1 (.lst 1 .any)), .any] i_laws_heldInt64SS args σ := callM_ty n_laws_heldInt64SS rfl
theorem n_laws_heldPlace : fns i_laws_heldPlace = some fa_laws_heldPlace := rfl
@[simp] theorem c_laws_heldPlace (args : List PV) (σ : List AObj) : callM fns (ev fns) i_laws_heldPlace args σ = callT fns [(.agg [.any, .any, (.lst 1 (.lst 1 .any))]), .any] i_laws_heldPlace args σ := callM_ty n_laws_heldPlace rfl
theorem n_laws_FnExactRunProgram : fns i_laws_FnExactRunProgram = some fa_laws_FnExactRunProgram := rfl
@[simp] theorem c_laws_FnExactRunProgram (args : List PV) (σ : List AObj) : callM fns (ev fns) i_laws_FnExactRunProgram args σ = callN fns i_laws_FnExactRunProgram args σ := callM_np n_laws_FnExactRunProgram rfl rfl
@[simp] theorem nt_laws_eqInt64S : fa_laws_eqInt64S.nt = 26 := rfl
@[simp] theorem rs_laws_eqInt64S : fa_laws_eqInt64S.rs = [.tmp 4] := rfl
@[simp] theorem fz_laws_eqInt64S : fa_laws_eqInt64S.fz = true := rfl
@[simp] theorem rsh_laws_eqInt64S : fa_laws_eqInt64S.rsh = .any := rfl
theorem go_laws_eqInt64S {args : List PV} {σ : List AObj} {r : PV × List AObj} (hl : args.length ≤ 26) (h : rE fns fa_laws_eqInt64S σ.length [.code ac_laws_eqInt64S] (frA 0 args) σ = some r) : ev fns i_laws_eqInt64S args σ = some r := ev_go n_laws_eqInt64S rfl hl h
theorem l_laws_eqInt64S_0 {ks : List KI} {l : Fr} {σ : List AObj} {n0 : Nat} : rE fns fa_laws_eqInt64S n0 (.code lo_laws_eqInt64S_0 :: ks) l σ = rE fns fa_laws_eqInt64S n0 (.code lb_laws_eqInt64S_0 :: .code lo_laws_eqInt64S_0 :: ks) l σ := rE_loop
@[simp] theorem nt_laws_markInt64S : fa_laws_markInt64S.nt = 19 := rfl
@[simp] theorem rs_laws_markInt64S : fa_laws_markInt64S.rs = [.tmp 4] := rfl
@[simp] theorem fz_laws_markInt64S : fa_laws_markInt64S.fz = false := rfl
@[simp] theorem rsh_laws_markInt64S : fa_laws_markInt64S.rsh = .any := rfl
theorem go_laws_markInt64S {args : List PV} {σ : List AObj} {r : PV × List AObj} (hl : args.length ≤ 19) (h : rE fns fa_laws_markInt64S σ.length [.code ac_laws_markInt64S] (frA 0 args) σ = some r) : ev fns i_laws_markInt64S args σ = some r := ev_go n_laws_markInt64S rfl hl h
theorem l_laws_markInt64S_0 {ks : List KI} {l : Fr} {σ : List AObj} {n0 : Nat} : rE fns fa_laws_markInt64S n0 (.code lo_laws_markInt64S_0 :: ks) l σ = rE fns fa_laws_markInt64S n0 (.code lb_laws_markInt64S_0 :: .code lo_laws_markInt64S_0 :: ks) l σ := rE_loop
@[simp] theorem nt_laws_heldInt64S : fa_laws_heldInt64S.nt = 21 := rfl
@[simp] theorem rs_laws_heldInt64S : fa_laws_heldInt64S.rs = [.tmp 4] := rfl
@[simp] theorem fz_laws_heldInt64S : fa_laws_heldInt64S.fz = true := rfl
@[simp] theorem rsh_laws_heldInt64S : fa_laws_heldInt64S.rsh = .any := rfl
theorem go_laws_heldInt64S {args : List PV} {σ : List AObj} {r : PV × List AObj} (hl : args.length ≤ 21) (h : rE fns fa_laws_heldInt64S σ.length [.code ac_laws_heldInt64S] (frA 0 args) σ = some r) : ev fns i_laws_heldInt64S args σ = some r := ev_go n_laws_heldInt64S rfl hl h
theorem l_laws_heldInt64S_0 {ks : List KI} {l : Fr} {σ : List AObj} {n0 : Nat} : rE fns fa_laws_heldInt64S n0 (.code lo_laws_heldInt64S_0 :: ks) l σ = rE fns fa_laws_heldInt64S n0 (.code lb_laws_heldInt64S_0 :: .code lo_laws_heldInt64S_0 :: ks) l σ := rE_loop
@[simp] theorem nt_laws_toInt64S : fa_laws_toInt64S.nt = 22 := rfl
@[simp] theorem rs_laws_toInt64S : fa_laws_toInt64S.rs = [.tmp 2] := rfl
@[simp] theorem fz_laws_toInt64S : fa_laws_toInt64S.fz = false := rfl
@[simp] theorem rsh_laws_toInt64S : fa_laws_toInt64S.rsh = .any := rfl
theorem go_laws_toInt64S {args : List PV} {σ : List AObj} {r : PV × List AObj} (hl : args.length ≤ 22) (h : rE fns fa_laws_toInt64S σ.length [.code ac_laws_toInt64S] (frA 0 args) σ = some r) : ev fns i_laws_toInt64S args σ = some r := ev_go n_laws_toInt64S rfl hl h
theorem l_laws_toInt64S_0 {ks : List KI} {l : Fr} {σ : List AObj} {n0 : Nat} : rE fns fa_laws_toInt64S n0 (.code lo_laws_toInt64S_0 :: ks) l σ = rE fns fa_laws_toInt64S n0 (.code lb_laws_toInt64S_0 :: .code lo_laws_toInt64S_0 :: ks) l σ := rE_loop
@[simp] theorem nt_laws_szLink : fa_laws_szLink.nt = 13 := rfl
@[simp] theorem rs_laws_szLink : fa_laws_szLink.rs = [.tmp 4] := rfl
@[simp] theorem fz_laws_szLink : fa_laws_szLink.fz = true := rfl
@[simp] theorem rsh_laws_szLink : fa_laws_szLink.rsh = .any := rfl
theorem go_laws_szLink {args : List PV} {σ : List AObj} {r : PV × List AObj} (hl : args.length ≤ 13) (h : rE fns fa_laws_szLink σ.length [.code ac_laws_szLink] (frA 0 args) σ = some r) : ev fns i_laws_szLink args σ = some r := ev_go n_laws_szLink rfl hl h
@[simp] theorem nt_laws_szLinkS : fa_laws_szLinkS.nt = 27 := rfl
@[simp] theorem rs_laws_szLinkS : fa_laws_szLinkS.rs = [.tmp 4] := rfl
@[simp] theorem fz_laws_szLinkS : fa_laws_szLinkS.fz = true := rfl
@[simp] theorem rsh_laws_szLinkS : fa_laws_szLinkS.rsh = .any := rfl
theorem go_laws_szLinkS {args : List PV} {σ : List AObj} {r : PV × List AObj} (hl : args.length ≤ 27) (h : rE fns fa_laws_szLinkS σ.length [.code ac_laws_szLinkS] (frA 0 args) σ = some r) : ev fns i_laws_szLinkS args σ = some r := ev_go n_laws_szLinkS rfl hl h
theorem l_laws_szLinkS_0 {ks : List KI} {l : Fr} {σ : List AObj} {n0 : Nat} : rE fns fa_laws_szLinkS n0 (.code lo_laws_szLinkS_0 :: ks) l σ = rE fns fa_laws_szLinkS n0 (.code lb_laws_szLinkS_0 :: .code lo_laws_szLinkS_0 :: ks) l σ := rE_loop
@[simp] theorem nt_laws_szModule : fa_laws_szModule.nt = 12 := rfl
@[simp] theorem rs_laws_szModule : fa_laws_szModule.rs = [.tmp 4] := rfl
@[simp] theorem fz_laws_szModule : fa_laws_szModule.fz = true := rfl
@[simp] theorem rsh_laws_szModule : fa_laws_szModule.rsh = .any := rfl
theorem go_laws_szModule {args : List PV} {σ : List AObj} {r : PV × List AObj} (hl : args.length ≤ 12) (h : rE fns fa_laws_szModule σ.length [.code ac_laws_szModule] (frA 0 args) σ = some r) : ev fns i_laws_szModule args σ = some r := ev_go n_laws_szModule rfl hl h
@[simp] theorem nt_laws_szModuleS : fa_laws_szModuleS.nt = 27 := rfl
@[simp] theorem rs_laws_szModuleS : fa_laws_szModuleS.rs = [.tmp 4] := rfl
@[simp] theorem fz_laws_szModuleS : fa_laws_szModuleS.fz = true := rfl
@[simp] theorem rsh_laws_szModuleS : fa_laws_szModuleS.rsh = .any := rfl
theorem go_laws_szModuleS {args : List PV} {σ : List AObj} {r : PV × List AObj} (hl : args.length ≤ 27) (h : rE fns fa_laws_szModuleS σ.length [.code ac_laws_szModuleS] (frA 0 args) σ = some r) : ev fns i_laws_szModuleS args σ = some r := ev_go n_laws_szModuleS rfl hl h
theorem l_laws_szModuleS_0 {ks : List KI} {l : Fr} {σ : List AObj} {n0 : Nat} : rE fns fa_laws_szModuleS n0 (.code lo_laws_szModuleS_0 :: ks) l σ = rE fns fa_laws_szModuleS n0 (.code lb_laws_szModuleS_0 :: .code lo_laws_szModuleS_0 :: ks) l σ := rE_loop
@[simp] theorem nt_laws_szProgram : fa_laws_szProgram.nt = 12 := rfl
@[simp] theorem rs_laws_szProgram : fa_laws_szProgram.rs = [.tmp 4] := rfl
@[simp] theorem fz_laws_szProgram : fa_laws_szProgram.fz = true := rfl
@[simp] theorem rsh_laws_szProgram : fa_laws_szProgram.rsh = .any := rfl
theorem go_laws_szProgram {args : List PV} {σ : List AObj} {r : PV × List AObj} (hl : args.length ≤ 12) (h : rE fns fa_laws_szProgram σ.length [.code ac_laws_szProgram] (frA 0 args) σ = some r) : ev fns i_laws_szProgram args σ = some r := ev_go n_laws_szProgram rfl hl h
@[simp] theorem nt_spec_l00In : fa_spec_l00In.nt = 15 := rfl
@[simp] theorem rs_spec_l00In : fa_spec_l00In.rs = [.tmp 6] := rfl
@[simp] theorem fz_spec_l00In : fa_spec_l00In.fz = true := rfl
@[simp] theorem rsh_spec_l00In : fa_spec_l00In.rsh = .any := rfl
theorem go_spec_l00In {args : List PV} {σ : List AObj} {r : PV × List AObj} (hl : args.length ≤ 15) (h : rE fns fa_spec_l00In σ.length [.code ac_spec_l00In] (frA 0 args) σ = some r) : ev fns i_spec_l00In args σ = some r := ev_go n_spec_l00In rfl hl h
@[simp] theorem nt_spec_l07Exit : fa_spec_l07Exit.nt = 14 := rfl
@[simp] theorem rs_spec_l07Exit : fa_spec_l07Exit.rs = [.tmp 4] := rfl
@[simp] theorem fz_spec_l07Exit : fa_spec_l07Exit.fz = true := rfl
@[simp] theorem rsh_spec_l07Exit : fa_spec_l07Exit.rsh = .any := rfl
theorem go_spec_l07Exit {args : List PV} {σ : List AObj} {r : PV × List AObj} (hl : args.length ≤ 14) (h : rE fns fa_spec_l07Exit σ.length [.code ac_spec_l07Exit] (frA 0 args) σ = some r) : ev fns i_spec_l07Exit args σ = some r := ev_go n_spec_l07Exit rfl hl h
@[simp] theorem nt_spec_l07Can : fa_spec_l07Can.nt = 57 := rfl
@[simp] theorem rs_spec_l07Can : fa_spec_l07Can.rs = [.tmp 6] := rfl
@[simp] theorem fz_spec_l07Can : fa_spec_l07Can.fz = true := rfl
@[simp] theorem rsh_spec_l07Can : fa_spec_l07Can.rsh = .any := rfl
theorem go_spec_l07Can {args : List PV} {σ : List AObj} {r : PV × List AObj} (hl : args.length ≤ 57) (h : rE fns fa_spec_l07Can σ.length [.code ac_spec_l07Can] (frA 0 args) σ = some r) : ev fns i_spec_l07Can args σ = some r := ev_go n_spec_l07Can rfl hl h
@[simp] theorem nt_spec_l01Call : fa_spec_l01Call.nt = 9 := rfl
@[simp] theorem rs_spec_l01Call : fa_spec_l01Call.rs = [.tmp 2] := rfl
@[simp] theorem fz_spec_l01Call : fa_spec_l01Call.fz = true := rfl
@[simp] theorem rsh_spec_l01Call : fa_spec_l01Call.rsh = .any := rfl
theorem go_spec_l01Call {args : List PV} {σ : List AObj} {r : PV × List AObj} (hl : args.length ≤ 9) (h : rE fns fa_spec_l01Call σ.length [.code ac_spec_l01Call] (frA 0 args) σ = some r) : ev fns i_spec_l01Call args σ = some r := ev_go n_spec_l01Call rfl hl h
@[simp] theorem nt_spec_l01Return : fa_spec_l01Return.nt = 9 := rfl
@[simp] theorem rs_spec_l01Return : fa_spec_l01Return.rs = [.tmp 2] := rfl
@[simp] theorem fz_spec_l01Return : fa_spec_l01Return.fz = true := rfl
@[simp] theorem rsh_spec_l01Return : fa_spec_l01Return.rsh = .any := rfl
theorem go_spec_l01Return {args : List PV} {σ : List AObj} {r : PV × List AObj} (hl : args.length ≤ 9) (h : rE fns fa_spec_l01Return σ.length [.code ac_spec_l01Return] (frA 0 args) σ = some r) : ev fns i_spec_l01Return args σ = some r := ev_go n_spec_l01Return rfl hl h
@[simp] theorem nt_spec_l06Brackets : fa_spec_l06Brackets.nt = 16 := rfl
@[simp] theorem rs_spec_l06Brackets : fa_spec_l06Brackets.rs = [.tmp 2] := rfl
@[simp] theorem fz_spec_l06Brackets : fa_spec_l06Brackets.fz = true := rfl
@[simp] theorem rsh_spec_l06Brackets : fa_spec_l06Brackets.rsh = .any := rfl
theorem go_spec_l06Brackets {args : List PV} {σ : List AObj} {r : PV × List AObj} (hl : args.length ≤ 16) (h : rE fns fa_spec_l06Brackets σ.length [.code ac_spec_l06Brackets] (frA 0 args) σ = some r) : ev fns i_spec_l06Brackets args σ = some r := ev_go n_spec_l06Brackets rfl hl h
@[simp] theorem nt_spec_l07Inner : fa_spec_l07Inner.nt = 9 := rfl
@[simp] theorem rs_spec_l07Inner : fa_spec_l07Inner.rs = [.tmp 2] := rfl
@[simp] theorem fz_spec_l07Inner : fa_spec_l07Inner.fz = true := rfl
@[simp] theorem rsh_spec_l07Inner : fa_spec_l07Inner.rsh = .any := rfl
theorem go_spec_l07Inner {args : List PV} {σ : List AObj} {r : PV × List AObj} (hl : args.length ≤ 9) (h : rE fns fa_spec_l07Inner σ.length [.code ac_spec_l07Inner] (frA 0 args) σ = some r) : ev fns i_spec_l07Inner args σ = some r := ev_go n_spec_l07Inner rfl hl h
@[simp] theorem nt_spec_l07Ok : fa_spec_l07Ok.nt = 121 := rfl
@[simp] theorem rs_spec_l07Ok : fa_spec_l07Ok.rs = [.tmp 2] := rfl
@[simp] theorem fz_spec_l07Ok : fa_spec_l07Ok.fz = true := rfl
@[simp] theorem rsh_spec_l07Ok : fa_spec_l07Ok.rsh = .any := rfl
theorem go_spec_l07Ok {args : List PV} {σ : List AObj} {r : PV × List AObj} (hl : args.length ≤ 121) (h : rE fns fa_spec_l07Ok σ.length [.code ac_spec_l07Ok] (frA 0 args) σ = some r) : ev fns i_spec_l07Ok args σ = some r := ev_go n_spec_l07Ok rfl hl h
theorem l_spec_l07Ok_0 {ks : List KI} {l : Fr} {σ : List AObj} {n0 : Nat} : rE fns fa_spec_l07Ok n0 (.code lo_spec_l07Ok_0 :: ks) l σ = rE fns fa_spec_l07Ok n0 (.code lb_spec_l07Ok_0 :: .code lo_spec_l07Ok_0 :: ks) l σ := rE_loop
theorem l_spec_l07Ok_1 {ks : List KI} {l : Fr} {σ : List AObj} {n0 : Nat} : rE fns fa_spec_l07Ok n0 (.code lo_spec_l07Ok_1 :: ks) l σ = rE fns fa_spec_l07Ok n0 (.code lb_spec_l07Ok_1 :: .code lo_spec_l07Ok_1 :: ks) l σ := rE_loop
@[simp] theorem nt_spec_l07Make : fa_spec_l07Make.nt = 115 := rfl
@[simp] theorem rs_spec_l07Make : fa_spec_l07Make.rs = [.tmp 6] := rfl
@[simp] theorem fz_spec_l07Make : fa_spec_l07Make.fz = false := rfl
@[simp] theorem rsh_spec_l07Make : fa_spec_l07Make.rsh = .any := rfl
theorem go_spec_l07Make {args : List PV} {σ : List AObj} {r : PV × List AObj} (hl : args.length ≤ 115) (h : rE fns fa_spec_l07Make σ.length [.code ac_spec_l07Make] (frA 0 args) σ = some r) : ev fns i_spec_l07Make args σ = some r := ev_go n_spec_l07Make rfl hl h
@[simp] theorem nt_spec_l07Run : fa_spec_l07Run.nt = 46 := rfl
@[simp] theorem rs_spec_l07Run : fa_spec_l07Run.rs = [.tmp 4, .tmp 5, .tmp 6] := rfl
@[simp] theorem fz_spec_l07Run : fa_spec_l07Run.fz = true := rfl
@[simp] theorem rsh_spec_l07Run : fa_spec_l07Run.rsh = .any := rfl
theorem go_spec_l07Run {args : List PV} {σ : List AObj} {r : PV × List AObj} (hl : args.length ≤ 46) (h : rE fns fa_spec_l07Run σ.length [.code ac_spec_l07Run] (frA 0 args) σ = some r) : ev fns i_spec_l07Run args σ = some r := ev_go n_spec_l07Run rfl hl h
theorem l_spec_l07Run_0 {ks : List KI} {l : Fr} {σ : List AObj} {n0 : Nat} : rE fns fa_spec_l07Run n0 (.code lo_spec_l07Run_0 :: ks) l σ = rE fns fa_spec_l07Run n0 (.code lb_spec_l07Run_0 :: .code lo_spec_l07Run_0 :: ks) l σ := rE_loop
@[simp] theorem nt_spec_ChoicesAt : fa_spec_ChoicesAt.nt = 34 := rfl
@[simp] theorem rs_spec_ChoicesAt : fa_spec_ChoicesAt.rs = [.tmp 4, .tmp 5] := rfl
@[simp] theorem fz_spec_ChoicesAt : fa_spec_ChoicesAt.fz = true := rfl
@[simp] theorem rsh_spec_ChoicesAt : fa_spec_ChoicesAt.rsh = .any := rfl
theorem go_spec_ChoicesAt {args : List PV} {σ : List AObj} {r : PV × List AObj} (hl : args.length ≤ 34) (h : rE fns fa_spec_ChoicesAt σ.length [.code ac_spec_ChoicesAt] (frA 0 args) σ = some r) : ev fns i_spec_ChoicesAt args σ = some r := ev_go n_spec_ChoicesAt rfl hl h
theorem l_spec_ChoicesAt_0 {ks : List KI} {l : Fr} {σ : List AObj} {n0 : Nat} : rE fns fa_spec_ChoicesAt n0 (.code lo_spec_ChoicesAt_0 :: ks) l σ = rE fns fa_spec_ChoicesAt n0 (.code lb_spec_ChoicesAt_0 :: .code lo_spec_ChoicesAt_0 :: ks) l σ := rE_loop
@[simp] theorem nt_laws_toLink : fa_laws_toLink.nt = 17 := rfl
@[simp] theorem rs_laws_toLink : fa_laws_toLink.rs = [.cell 2 4 true] := rfl
@[simp] theorem fz_laws_toLink : fa_laws_toLink.fz = false := rfl
@[simp] theorem rsh_laws_toLink : fa_laws_toLink.rsh = .any := rfl
theorem go_laws_toLink {args : List PV} {σ : List AObj} {r : PV × List AObj} (hl : args.length ≤ 17) (h : rE fns fa_laws_toLink σ.length [.code ac_laws_toLink] (frA 0 args) σ = some r) : ev fns i_laws_toLink args σ = some r := ev_go n_laws_toLink rfl hl h
@[simp] theorem nt_laws_toLinkS : fa_laws_toLinkS.nt = 23 := rfl
@[simp] theorem rs_laws_toLinkS : fa_laws_toLinkS.rs = [.tmp 2] := rfl
@[simp] theorem fz_laws_toLinkS : fa_laws_toLinkS.fz = false := rfl
@[simp] theorem rsh_laws_toLinkS : fa_laws_toLinkS.rsh = .any := rfl
theorem go_laws_toLinkS {args : List PV} {σ : List AObj} {r : PV × List AObj} (hl : args.length ≤ 23) (h : rE fns fa_laws_toLinkS σ.length [.code ac_laws_toLinkS] (frA 0 args) σ = some r) : ev fns i_laws_toLinkS args σ = some r := ev_go n_laws_toLinkS rfl hl h
theorem l_laws_toLinkS_0 {ks : List KI} {l : Fr} {σ : List AObj} {n0 : Nat} : rE fns fa_laws_toLinkS n0 (.code lo_laws_toLinkS_0 :: ks) l σ = rE fns fa_laws_toLinkS n0 (.code lb_laws_toLinkS_0 :: .code lo_laws_toLinkS_0 :: ks) l σ := rE_loop
@[simp] theorem nt_laws_toModule : fa_laws_toModule.nt = 12 := rfl
@[simp] theorem rs_laws_toModule : fa_laws_toModule.rs = [.cell 2 2 true] := rfl
@[simp] theorem fz_laws_toModule : fa_laws_toModule.fz = false := rfl
@[simp] theorem rsh_laws_toModule : fa_laws_toModule.rsh = .any := rfl
theorem go_laws_toModule {args : List PV} {σ : List AObj} {r : PV × List AObj} (hl : args.length ≤ 12) (h : rE fns fa_laws_toModule σ.length [.code ac_laws_toModule] (frA 0 args) σ = some r) : ev fns i_laws_toModule args σ = some r := ev_go n_laws_toModule rfl hl h
@[simp] theorem nt_laws_toModuleS : fa_laws_toModuleS.nt = 23 := rfl
@[simp] theorem rs_laws_toModuleS : fa_laws_toModuleS.rs = [.tmp 2] := rfl
@[simp] theorem fz_laws_toModuleS : fa_laws_toModuleS.fz = false := rfl
@[simp] theorem rsh_laws_toModuleS : fa_laws_toModuleS.rsh = .any := rfl
theorem go_laws_toModuleS {args : List PV} {σ : List AObj} {r : PV × List AObj} (hl : args.length ≤ 23) (h : rE fns fa_laws_toModuleS σ.length [.code ac_laws_toModuleS] (frA 0 args) σ = some r) : ev fns i_laws_toModuleS args σ = some r := ev_go n_laws_toModuleS rfl hl h
theorem l_laws_toModuleS_0 {ks : List KI} {l : Fr} {σ : List AObj} {n0 : Nat} : rE fns fa_laws_toModuleS n0 (.code lo_laws_toModuleS_0 :: ks) l σ = rE fns fa_laws_toModuleS n0 (.code lb_laws_toModuleS_0 :: .code lo_laws_toModuleS_0 :: ks) l σ := rE_loop
@[simp] theorem nt_laws_toProgram : fa_laws_toProgram.nt = 9 := rfl
@[simp] theorem rs_laws_toProgram : fa_laws_toProgram.rs = [.cell 2 1 true] := rfl
@[simp] theorem fz_laws_toProgram : fa_laws_toProgram.fz = false := rfl
@[simp] theorem rsh_laws_toProgram : fa_laws_toProgram.rsh = .any := rfl
theorem go_laws_toProgram {args : List PV} {σ : List AObj} {r : PV × List AObj} (hl : args.length ≤ 9) (h : rE fns fa_laws_toProgram σ.length [.code ac_laws_toProgram] (frA 0 args) σ = some r) : ev fns i_laws_toProgram args σ = some r := ev_go n_laws_toProgram rfl hl h
@[simp] theorem nt_impl_Program_exit : fa_impl_Program_exit.nt = 12 := rfl
@[simp] theorem rs_impl_Program_exit : fa_impl_Program_exit.rs = [.tmp 4] := rfl
@[simp] theorem fz_impl_Program_exit : fa_impl_Program_exit.fz = true := rfl
@[simp] theorem rsh_impl_Program_exit : fa_impl_Program_exit.rsh = .any := rfl
theorem go_impl_Program_exit {args : List PV} {σ : List AObj} {r : PV × List AObj} (hl : args.length ≤ 12) (h : rE fns fa_impl_Program_exit σ.length [.code ac_impl_Program_exit] (frA 0 args) σ = some r) : ev fns i_impl_Program_exit args σ = some r := ev_go n_impl_Program_exit rfl hl h
@[simp] theorem nt_impl_Program_choices : fa_impl_Program_choices.nt = 49 := rfl
@[simp] theorem rs_impl_Program_choices : fa_impl_Program_choices.rs = [.tmp 4] := rfl
@[simp] theorem fz_impl_Program_choices : fa_impl_Program_choices.fz = false := rfl
@[simp] theorem rsh_impl_Program_choices : fa_impl_Program_choices.rsh = .any := rfl
theorem go_impl_Program_choices {args : List PV} {σ : List AObj} {r : PV × List AObj} (hl : args.length ≤ 49) (h : rE fns fa_impl_Program_choices σ.length [.code ac_impl_Program_choices] (frA 0 args) σ = some r) : ev fns i_impl_Program_choices args σ = some r := ev_go n_impl_Program_choices rfl hl h
theorem l_impl_Program_choices_0 {ks : List KI} {l : Fr} {σ : List AObj} {n0 : Nat} : rE fns fa_impl_Program_choices n0 (.code lo_impl_Program_choices_0 :: ks) l σ = rE fns fa_impl_Program_choices n0 (.code lb_impl_Program_choices_0 :: .code lo_impl_Program_choices_0 :: ks) l σ := rE_loop
@[simp] theorem nt_impl_within : fa_impl_within.nt = 15 := rfl
@[simp] theorem rs_impl_within : fa_impl_within.rs = [.tmp 6] := rfl
@[simp] theorem fz_impl_within : fa_impl_within.fz = true := rfl
@[simp] theorem rsh_impl_within : fa_impl_within.rsh = .any := rfl
theorem go_impl_within {args : List PV} {σ : List AObj} {r : PV × List AObj} (hl : args.length ≤ 15) (h : rE fns fa_impl_within σ.length [.code ac_impl_within] (frA 0 args) σ = some r) : ev fns i_impl_within args σ = some r := ev_go n_impl_within rfl hl h
@[simp] theorem nt_impl_size_impl_Module : fa_impl_size_impl_Module.nt = 5 := rfl
@[simp] theorem rs_impl_size_impl_Module : fa_impl_size_impl_Module.rs = [.tmp 2] := rfl
@[simp] theorem fz_impl_size_impl_Module : fa_impl_size_impl_Module.fz = true := rfl
@[simp] theorem rsh_impl_size_impl_Module : fa_impl_size_impl_Module.rsh = .any := rfl
theorem go_impl_size_impl_Module {args : List PV} {σ : List AObj} {r : PV × List AObj} (hl : args.length ≤ 5) (h : rE fns fa_impl_size_impl_Module σ.length [.code ac_impl_size_impl_Module] (frA 0 args) σ = some r) : ev fns i_impl_size_impl_Module args σ = some r := ev_go n_impl_size_impl_Module rfl hl h
@[simp] theorem nt_slices_IndexFunc_L_impl_Module : fa_slices_IndexFunc_L_impl_Module.nt = 19 := rfl
@[simp] theorem rs_slices_IndexFunc_L_impl_Module : fa_slices_IndexFunc_L_impl_Module.rs = [.tmp 4] := rfl
@[simp] theorem fz_slices_IndexFunc_L_impl_Module : fa_slices_IndexFunc_L_impl_Module.fz = true := rfl
@[simp] theorem rsh_slices_IndexFunc_L_impl_Module : fa_slices_IndexFunc_L_impl_Module.rsh = .any := rfl
theorem go_slices_IndexFunc_L_impl_Module {args : List PV} {σ : List AObj} {r : PV × List AObj} (hl : args.length ≤ 19) (h : rE fns fa_slices_IndexFunc_L_impl_Module σ.length [.code ac_slices_IndexFunc_L_impl_Module] (frA 0 args) σ = some r) : ev fns i_slices_IndexFunc_L_impl_Module args σ = some r := ev_go n_slices_IndexFunc_L_impl_Module rfl hl h
theorem l_slices_IndexFunc_L_impl_Module_0 {ks : List KI} {l : Fr} {σ : List AObj} {n0 : Nat} : rE fns fa_slices_IndexFunc_L_impl_Module n0 (.code lo_slices_IndexFunc_L_impl_Module_0 :: ks) l σ = rE fns fa_slices_IndexFunc_L_impl_Module n0 (.code lb_slices_IndexFunc_L_impl_Module_0 :: .code lo_slices_IndexFunc_L_impl_Module_0 :: ks) l σ := rE_loop
@[simp] theorem nt_slices_ContainsFunc_L_impl_Module : fa_slices_ContainsFunc_L_impl_Module.nt = 9 := rfl
@[simp] theorem rs_slices_ContainsFunc_L_impl_Module : fa_slices_ContainsFunc_L_impl_Module.rs = [.tmp 4] := rfl
@[simp] theorem fz_slices_ContainsFunc_L_impl_Module : fa_slices_ContainsFunc_L_impl_Module.fz = true := rfl
@[simp] theorem rsh_slices_ContainsFunc_L_impl_Module : fa_slices_ContainsFunc_L_impl_Module.rsh = .any := rfl
theorem go_slices_ContainsFunc_L_impl_Module {args : List PV} {σ : List AObj} {r : PV × List AObj} (hl : args.length ≤ 9) (h : rE fns fa_slices_ContainsFunc_L_impl_Module σ.length [.code ac_slices_ContainsFunc_L_impl_Module] (frA 0 args) σ = some r) : ev fns i_slices_ContainsFunc_L_impl_Module args σ = some r := ev_go n_slices_ContainsFunc_L_impl_Module rfl hl h
@[simp] theorem nt_slices_IndexFunc_L_impl_Link : fa_slices_IndexFunc_L_impl_Link.nt = 19 := rfl
@[simp] theorem rs_slices_IndexFunc_L_impl_Link : fa_slices_IndexFunc_L_impl_Link.rs = [.tmp 4] := rfl
@[simp] theorem fz_slices_IndexFunc_L_impl_Link : fa_slices_IndexFunc_L_impl_Link.fz = true := rfl
@[simp] theorem rsh_slices_IndexFunc_L_impl_Link : fa_slices_IndexFunc_L_impl_Link.rsh = .any := rfl
theorem go_slices_IndexFunc_L_impl_Link {args : List PV} {σ : List AObj} {r : PV × List AObj} (hl : args.length ≤ 19) (h : rE fns fa_slices_IndexFunc_L_impl_Link σ.length [.code ac_slices_IndexFunc_L_impl_Link] (frA 0 args) σ = some r) : ev fns i_slices_IndexFunc_L_impl_Link args σ = some r := ev_go n_slices_IndexFunc_L_impl_Link rfl hl h
theorem l_slices_IndexFunc_L_impl_Link_0 {ks : List KI} {l : Fr} {σ : List AObj} {n0 : Nat} : rE fns fa_slices_IndexFunc_L_impl_Link n0 (.code lo_slices_IndexFunc_L_impl_Link_0 :: ks) l σ = rE fns fa_slices_IndexFunc_L_impl_Link n0 (.code lb_slices_IndexFunc_L_impl_Link_0 :: .code lo_slices_IndexFunc_L_impl_Link_0 :: ks) l σ := rE_loop
@[simp] theorem nt_slices_ContainsFunc_L_impl_Link : fa_slices_ContainsFunc_L_impl_Link.nt = 9 := rfl
@[simp] theorem rs_slices_ContainsFunc_L_impl_Link : fa_slices_ContainsFunc_L_impl_Link.rs = [.tmp 4] := rfl
@[simp] theorem fz_slices_ContainsFunc_L_impl_Link : fa_slices_ContainsFunc_L_impl_Link.fz = true := rfl
@[simp] theorem rsh_slices_ContainsFunc_L_impl_Link : fa_slices_ContainsFunc_L_impl_Link.rsh = .any := rfl
theorem go_slices_ContainsFunc_L_impl_Link {args : List PV} {σ : List AObj} {r : PV × List AObj} (hl : args.length ≤ 9) (h : rE fns fa_slices_ContainsFunc_L_impl_Link σ.length [.code ac_slices_ContainsFunc_L_impl_Link] (frA 0 args) σ = some r) : ev fns i_slices_ContainsFunc_L_impl_Link args σ = some r := ev_go n_slices_ContainsFunc_L_impl_Link rfl hl h
@[simp] theorem nt_impl_isCall : fa_impl_isCall.nt = 9 := rfl
@[simp] theorem rs_impl_isCall : fa_impl_isCall.rs = [.tmp 2] := rfl
@[simp] theorem fz_impl_isCall : fa_impl_isCall.fz = true := rfl
@[simp] theorem rsh_impl_isCall : fa_impl_isCall.rsh = .any := rfl
theorem go_impl_isCall {args : List PV} {σ : List AObj} {r : PV × List AObj} (hl : args.length ≤ 9) (h : rE fns fa_impl_isCall σ.length [.code ac_impl_isCall] (frA 0 args) σ = some r) : ev fns i_impl_isCall args σ = some r := ev_go n_impl_isCall rfl hl h
@[simp] theorem nt_impl_isReturn : fa_impl_isReturn.nt = 9 := rfl
@[simp] theorem rs_impl_isReturn : fa_impl_isReturn.rs = [.tmp 2] := rfl
@[simp] theorem fz_impl_isReturn : fa_impl_isReturn.fz = true := rfl
@[simp] theorem rsh_impl_isReturn : fa_impl_isReturn.rsh = .any := rfl
theorem go_impl_isReturn {args : List PV} {σ : List AObj} {r : PV × List AObj} (hl : args.length ≤ 9) (h : rE fns fa_impl_isReturn σ.length [.code ac_impl_isReturn] (frA 0 args) σ = some r) : ev fns i_impl_isReturn args σ = some r := ev_go n_impl_isReturn rfl hl h
@[simp] theorem nt_impl_isBrackets : fa_impl_isBrackets.nt = 16 := rfl
@[simp] theorem rs_impl_isBrackets : fa_impl_isBrackets.rs = [.tmp 2] := rfl
@[simp] theorem fz_impl_isBrackets : fa_impl_isBrackets.fz = true := rfl
@[simp] theorem rsh_impl_isBrackets : fa_impl_isBrackets.rsh = .any := rfl
theorem go_impl_isBrackets {args : List PV} {σ : List AObj} {r : PV × List AObj} (hl : args.length ≤ 16) (h : rE fns fa_impl_isBrackets σ.length [.code ac_impl_isBrackets] (frA 0 args) σ = some r) : ev fns i_impl_isBrackets args σ = some r := ev_go n_impl_isBrackets rfl hl h
@[simp] theorem nt_impl_isLetter : fa_impl_isLetter.nt = 9 := rfl
@[simp] theorem rs_impl_isLetter : fa_impl_isLetter.rs = [.tmp 2] := rfl
@[simp] theorem fz_impl_isLetter : fa_impl_isLetter.fz = true := rfl
@[simp] theorem rsh_impl_isLetter : fa_impl_isLetter.rsh = .any := rfl
theorem go_impl_isLetter {args : List PV} {σ : List AObj} {r : PV × List AObj} (hl : args.length ≤ 9) (h : rE fns fa_impl_isLetter σ.length [.code ac_impl_isLetter] (frA 0 args) σ = some r) : ev fns i_impl_isLetter args σ = some r := ev_go n_impl_isLetter rfl hl h
@[simp] theorem nt_impl_ValidProgram_1_1 : fa_impl_ValidProgram_1_1.nt = 44 := rfl
@[simp] theorem rs_impl_ValidProgram_1_1 : fa_impl_ValidProgram_1_1.rs = [.tmp 4] := rfl
@[simp] theorem fz_impl_ValidProgram_1_1 : fa_impl_ValidProgram_1_1.fz = true := rfl
@[simp] theorem rsh_impl_ValidProgram_1_1 : fa_impl_ValidProgram_1_1.rsh = .any := rfl
theorem go_impl_ValidProgram_1_1 {args : List PV} {σ : List AObj} {r : PV × List AObj} (hl : args.length ≤ 44) (h : rE fns fa_impl_ValidProgram_1_1 σ.length [.code ac_impl_ValidProgram_1_1] (frA 0 args) σ = some r) : ev fns i_impl_ValidProgram_1_1 args σ = some r := ev_go n_impl_ValidProgram_1_1 rfl hl h
@[simp] theorem nt_impl_ValidProgram_1 : fa_impl_ValidProgram_1.nt = 20 := rfl
@[simp] theorem rs_impl_ValidProgram_1 : fa_impl_ValidProgram_1.rs = [.tmp 3] := rfl
@[simp] theorem fz_impl_ValidProgram_1 : fa_impl_ValidProgram_1.fz = true := rfl
@[simp] theorem rsh_impl_ValidProgram_1 : fa_impl_ValidProgram_1.rsh = .any := rfl
theorem go_impl_ValidProgram_1 {args : List PV} {σ : List AObj} {r : PV × List AObj} (hl : args.length ≤ 20) (h : rE fns fa_impl_ValidProgram_1 σ.length [.code ac_impl_ValidProgram_1] (frA 0 args) σ = some r) : ev fns i_impl_ValidProgram_1 args σ = some r := ev_go n_impl_ValidProgram_1 rfl hl h
@[simp] theorem nt_impl_ValidProgram : fa_impl_ValidProgram.nt = 16 := rfl
@[simp] theorem rs_impl_ValidProgram : fa_impl_ValidProgram.rs = [.tmp 2] := rfl
@[simp] theorem fz_impl_ValidProgram : fa_impl_ValidProgram.fz = true := rfl
@[simp] theorem rsh_impl_ValidProgram : fa_impl_ValidProgram.rsh = .any := rfl
theorem go_impl_ValidProgram {args : List PV} {σ : List AObj} {r : PV × List AObj} (hl : args.length ≤ 16) (h : rE fns fa_impl_ValidProgram σ.length [.code ac_impl_ValidProgram] (frA 0 args) σ = some r) : ev fns i_impl_ValidProgram args σ = some r := ev_go n_impl_ValidProgram rfl hl h
@[simp] theorem nt_slices_Index_L_int64 : fa_slices_Index_L_int64.nt = 19 := rfl
@[simp] theorem rs_slices_Index_L_int64 : fa_slices_Index_L_int64.rs = [.tmp 4] := rfl
@[simp] theorem fz_slices_Index_L_int64 : fa_slices_Index_L_int64.fz = true := rfl
@[simp] theorem rsh_slices_Index_L_int64 : fa_slices_Index_L_int64.rsh = .any := rfl
theorem go_slices_Index_L_int64 {args : List PV} {σ : List AObj} {r : PV × List AObj} (hl : args.length ≤ 19) (h : rE fns fa_slices_Index_L_int64 σ.length [.code ac_slices_Index_L_int64] (frA 0 args) σ = some r) : ev fns i_slices_Index_L_int64 args σ = some r := ev_go n_slices_Index_L_int64 rfl hl h
theorem l_slices_Index_L_int64_0 {ks : List KI} {l : Fr} {σ : List AObj} {n0 : Nat} : rE fns fa_slices_Index_L_int64 n0 (.code lo_slices_Index_L_int64_0 :: ks) l σ = rE fns fa_slices_Index_L_int64 n0 (.code lb_slices_Index_L_int64_0 :: .code lo_slices_Index_L_int64_0 :: ks) l σ := rE_loop
@[simp] theorem nt_slices_Contains_L_int64 : fa_slices_Contains_L_int64.nt = 9 := rfl
@[simp] theorem rs_slices_Contains_L_int64 : fa_slices_Contains_L_int64.rs = [.tmp 4] := rfl
@[simp] theorem fz_slices_Contains_L_int64 : fa_slices_Contains_L_int64.fz = true := rfl
@[simp] theorem rsh_slices_Contains_L_int64 : fa_slices_Contains_L_int64.rsh = .any := rfl
theorem go_slices_Contains_L_int64 {args : List PV} {σ : List AObj} {r : PV × List AObj} (hl : args.length ≤ 9) (h : rE fns fa_slices_Contains_L_int64 σ.length [.code ac_slices_Contains_L_int64] (frA 0 args) σ = some r) : ev fns i_slices_Contains_L_int64 args σ = some r := ev_go n_slices_Contains_L_int64 rfl hl h
@[simp] theorem nt_impl_Link_isCallLink : fa_impl_Link_isCallLink.nt = 7 := rfl
@[simp] theorem rs_impl_Link_isCallLink : fa_impl_Link_isCallLink.rs = [.tmp 2] := rfl
@[simp] theorem fz_impl_Link_isCallLink : fa_impl_Link_isCallLink.fz = true := rfl
@[simp] theorem rsh_impl_Link_isCallLink : fa_impl_Link_isCallLink.rsh = .any := rfl
theorem go_impl_Link_isCallLink {args : List PV} {σ : List AObj} {r : PV × List AObj} (hl : args.length ≤ 7) (h : rE fns fa_impl_Link_isCallLink σ.length [.code ac_impl_Link_isCallLink] (frA 0 args) σ = some r) : ev fns i_impl_Link_isCallLink args σ = some r := ev_go n_impl_Link_isCallLink rfl hl h
@[simp] theorem nt_slices_Clip_L_L_int64 : fa_slices_Clip_L_L_int64.nt = 9 := rfl
@[simp] theorem rs_slices_Clip_L_L_int64 : fa_slices_Clip_L_L_int64.rs = [.tmp 2] := rfl
@[simp] theorem fz_slices_Clip_L_L_int64 : fa_slices_Clip_L_L_int64.fz = true := rfl
@[simp] theorem rsh_slices_Clip_L_L_int64 : fa_slices_Clip_L_L_int64.rsh = .any := rfl
theorem go_slices_Clip_L_L_int64 {args : List PV} {σ : List AObj} {r : PV × List AObj} (hl : args.length ≤ 9) (h : rE fns fa_slices_Clip_L_L_int64 σ.length [.code ac_slices_Clip_L_L_int64] (frA 0 args) σ = some r) : ev fns i_slices_Clip_L_L_int64 args σ = some r := ev_go n_slices_Clip_L_L_int64 rfl hl h
@[simp] theorem nt_impl_Program_choose : fa_impl_Program_choose.nt = 85 := rfl
@[simp] theorem rs_impl_Program_choose : fa_impl_Program_choose.rs = [.cell 6 3 true, .tmp 7] := rfl
@[simp] theorem fz_impl_Program_choose : fa_impl_Program_choose.fz = true := rfl
@[simp] theorem rsh_impl_Program_choose : fa_impl_Program_choose.rsh = (.agg [(.agg [.any, .any, (.lst 1 (.lst 1 .any))]), .any]) := rfl
theorem go_impl_Program_choose {args : List PV} {σ : List AObj} {r : PV × List AObj} (hl : args.length ≤ 85) (h : rE fns fa_impl_Program_choose σ.length [.code ac_impl_Program_choose] (frA 0 args) σ = some r) : ev fns i_impl_Program_choose args σ = some r := ev_go n_impl_Program_choose rfl hl h
@[simp] theorem nt_impl_Program_run : fa_impl_Program_run.nt = 51 := rfl
@[simp] theorem rs_impl_Program_run : fa_impl_Program_run.rs = [.tmp 4, .cell 5 3 true, .tmp 6] := rfl
@[simp] theorem fz_impl_Program_run : fa_impl_Program_run.fz = true := rfl
@[simp] theorem rsh_impl_Program_run : fa_impl_Program_run.rsh = (.agg [.any, (.agg [.any, .any, (.lst 1 (.lst 1 .any))]), .any]) := rfl
theorem go_impl_Program_run {args : List PV} {σ : List AObj} {r : PV × List AObj} (hl : args.length ≤ 51) (h : rE fns fa_impl_Program_run σ.length [.code ac_impl_Program_run] (frA 0 args) σ = some r) : ev fns i_impl_Program_run args σ = some r := ev_go n_impl_Program_run rfl hl h
theorem l_impl_Program_run_0 {ks : List KI} {l : Fr} {σ : List AObj} {n0 : Nat} : rE fns fa_impl_Program_run n0 (.code lo_impl_Program_run_0 :: ks) l σ = rE fns fa_impl_Program_run n0 (.code lb_impl_Program_run_0 :: .code lo_impl_Program_run_0 :: ks) l σ := rE_loop
@[simp] theorem nt_impl_ChoicesAt : fa_impl_ChoicesAt.nt = 22 := rfl
@[simp] theorem rs_impl_ChoicesAt : fa_impl_ChoicesAt.rs = [.tmp 4, .tmp 5] := rfl
@[simp] theorem fz_impl_ChoicesAt : fa_impl_ChoicesAt.fz = false := rfl
@[simp] theorem rsh_impl_ChoicesAt : fa_impl_ChoicesAt.rsh = .any := rfl
theorem go_impl_ChoicesAt {args : List PV} {σ : List AObj} {r : PV × List AObj} (hl : args.length ≤ 22) (h : rE fns fa_impl_ChoicesAt σ.length [.code ac_impl_ChoicesAt] (frA 0 args) σ = some r) : ev fns i_impl_ChoicesAt args σ = some r := ev_go n_impl_ChoicesAt rfl hl h
@[simp] theorem nt_laws_eqLink : fa_laws_eqLink.nt = 25 := rfl
@[simp] theorem rs_laws_eqLink : fa_laws_eqLink.rs = [.tmp 4] := rfl
@[simp] theorem fz_laws_eqLink : fa_laws_eqLink.fz = true := rfl
@[simp] theorem rsh_laws_eqLink : fa_laws_eqLink.rsh = .any := rfl
theorem go_laws_eqLink {args : List PV} {σ : List AObj} {r : PV × List AObj} (hl : args.length ≤ 25) (h : rE fns fa_laws_eqLink σ.length [.code ac_laws_eqLink] (frA 0 args) σ = some r) : ev fns i_laws_eqLink args σ = some r := ev_go n_laws_eqLink rfl hl h
@[simp] theorem nt_laws_eqLinkS : fa_laws_eqLinkS.nt = 27 := rfl
@[simp] theorem rs_laws_eqLinkS : fa_laws_eqLinkS.rs = [.tmp 4] := rfl
@[simp] theorem fz_laws_eqLinkS : fa_laws_eqLinkS.fz = true := rfl
@[simp] theorem rsh_laws_eqLinkS : fa_laws_eqLinkS.rsh = .any := rfl
theorem go_laws_eqLinkS {args : List PV} {σ : List AObj} {r : PV × List AObj} (hl : args.length ≤ 27) (h : rE fns fa_laws_eqLinkS σ.length [.code ac_laws_eqLinkS] (frA 0 args) σ = some r) : ev fns i_laws_eqLinkS args σ = some r := ev_go n_laws_eqLinkS rfl hl h
theorem l_laws_eqLinkS_0 {ks : List KI} {l : Fr} {σ : List AObj} {n0 : Nat} : rE fns fa_laws_eqLinkS n0 (.code lo_laws_eqLinkS_0 :: ks) l σ = rE fns fa_laws_eqLinkS n0 (.code lb_laws_eqLinkS_0 :: .code lo_laws_eqLinkS_0 :: ks) l σ := rE_loop
@[simp] theorem nt_laws_eqModule : fa_laws_eqModule.nt = 16 := rfl
@[simp] theorem rs_laws_eqModule : fa_laws_eqModule.rs = [.tmp 4] := rfl
@[simp] theorem fz_laws_eqModule : fa_laws_eqModule.fz = true := rfl
@[simp] theorem rsh_laws_eqModule : fa_laws_eqModule.rsh = .any := rfl
theorem go_laws_eqModule {args : List PV} {σ : List AObj} {r : PV × List AObj} (hl : args.length ≤ 16) (h : rE fns fa_laws_eqModule σ.length [.code ac_laws_eqModule] (frA 0 args) σ = some r) : ev fns i_laws_eqModule args σ = some r := ev_go n_laws_eqModule rfl hl h
@[simp] theorem nt_laws_eqModuleS : fa_laws_eqModuleS.nt = 27 := rfl
@[simp] theorem rs_laws_eqModuleS : fa_laws_eqModuleS.rs = [.tmp 4] := rfl
@[simp] theorem fz_laws_eqModuleS : fa_laws_eqModuleS.fz = true := rfl
@[simp] theorem rsh_laws_eqModuleS : fa_laws_eqModuleS.rsh = .any := rfl
theorem go_laws_eqModuleS {args : List PV} {σ : List AObj} {r : PV × List AObj} (hl : args.length ≤ 27) (h : rE fns fa_laws_eqModuleS σ.length [.code ac_laws_eqModuleS] (frA 0 args) σ = some r) : ev fns i_laws_eqModuleS args σ = some r := ev_go n_laws_eqModuleS rfl hl h
theorem l_laws_eqModuleS_0 {ks : List KI} {l : Fr} {σ : List AObj} {n0 : Nat} : rE fns fa_laws_eqModuleS n0 (.code lo_laws_eqModuleS_0 :: ks) l σ = rE fns fa_laws_eqModuleS n0 (.code lb_laws_eqModuleS_0 :: .code lo_laws_eqModuleS_0 :: ks) l σ := rE_loop
@[simp] theorem nt_laws_eqProgram : fa_laws_eqProgram.nt = 11 := rfl
@[simp] theorem rs_laws_eqProgram : fa_laws_eqProgram.rs = [.tmp 4] := rfl
@[simp] theorem fz_laws_eqProgram : fa_laws_eqProgram.fz = true := rfl
@[simp] theorem rsh_laws_eqProgram : fa_laws_eqProgram.rsh = .any := rfl
theorem go_laws_eqProgram {args : List PV} {σ : List AObj} {r : PV × List AObj} (hl : args.length ≤ 11) (h : rE fns fa_laws_eqProgram σ.length [.code ac_laws_eqProgram] (frA 0 args) σ = some r) : ev fns i_laws_eqProgram args σ = some r := ev_go n_laws_eqProgram rfl hl h
@[simp] theorem nt_laws_markText : fa_laws_markText.nt = 20 := rfl
@[simp] theorem rs_laws_markText : fa_laws_markText.rs = [.tmp 2] := rfl
@[simp] theorem fz_laws_markText : fa_laws_markText.fz = true := rfl
@[simp] theorem rsh_laws_markText : fa_laws_markText.rsh = .any := rfl
theorem go_laws_markText {args : List PV} {σ : List AObj} {r : PV × List AObj} (hl : args.length ≤ 20) (h : rE fns fa_laws_markText σ.length [.code ac_laws_markText] (frA 0 args) σ = some r) : ev fns i_laws_markText args σ = some r := ev_go n_laws_markText rfl hl h
theorem l_laws_markText_0 {ks : List KI} {l : Fr} {σ : List AObj} {n0 : Nat} : rE fns fa_laws_markText n0 (.code lo_laws_markText_0 :: ks) l σ = rE fns fa_laws_markText n0 (.code lb_laws_markText_0 :: .code lo_laws_markText_0 :: ks) l σ := rE_loop
@[simp] theorem nt_laws_markLinkS : fa_laws_markLinkS.nt = 42 := rfl
@[simp] theorem rs_laws_markLinkS : fa_laws_markLinkS.rs = [.tmp 4] := rfl
@[simp] theorem fz_laws_markLinkS : fa_laws_markLinkS.fz = false := rfl
@[simp] theorem rsh_laws_markLinkS : fa_laws_markLinkS.rsh = .any := rfl
theorem go_laws_markLinkS {args : List PV} {σ : List AObj} {r : PV × List AObj} (hl : args.length ≤ 42) (h : rE fns fa_laws_markLinkS σ.length [.code ac_laws_markLinkS] (frA 0 args) σ = some r) : ev fns i_laws_markLinkS args σ = some r := ev_go n_laws_markLinkS rfl hl h
theorem l_laws_markLinkS_0 {ks : List KI} {l : Fr} {σ : List AObj} {n0 : Nat} : rE fns fa_laws_markLinkS n0 (.code lo_laws_markLinkS_0 :: ks) l σ = rE fns fa_laws_markLinkS n0 (.code lb_laws_markLinkS_0 :: .code lo_laws_markLinkS_0 :: ks) l σ := rE_loop
@[simp] theorem nt_laws_markModuleS : fa_laws_markModuleS.nt = 27 := rfl
@[simp] theorem rs_laws_markModuleS : fa_laws_markModuleS.rs = [.tmp 4] := rfl
@[simp] theorem fz_laws_markModuleS : fa_laws_markModuleS.fz = false := rfl
@[simp] theorem rsh_laws_markModuleS : fa_laws_markModuleS.rsh = .any := rfl
theorem go_laws_markModuleS {args : List PV} {σ : List AObj} {r : PV × List AObj} (hl : args.length ≤ 27) (h : rE fns fa_laws_markModuleS σ.length [.code ac_laws_markModuleS] (frA 0 args) σ = some r) : ev fns i_laws_markModuleS args σ = some r := ev_go n_laws_markModuleS rfl hl h
theorem l_laws_markModuleS_0 {ks : List KI} {l : Fr} {σ : List AObj} {n0 : Nat} : rE fns fa_laws_markModuleS n0 (.code lo_laws_markModuleS_0 :: ks) l σ = rE fns fa_laws_markModuleS n0 (.code lb_laws_markModuleS_0 :: .code lo_laws_markModuleS_0 :: ks) l σ := rE_loop
@[simp] theorem nt_laws_markProgram : fa_laws_markProgram.nt = 10 := rfl
@[simp] theorem rs_laws_markProgram : fa_laws_markProgram.rs = [.tmp 4] := rfl
@[simp] theorem fz_laws_markProgram : fa_laws_markProgram.fz = false := rfl
@[simp] theorem rsh_laws_markProgram : fa_laws_markProgram.rsh = .any := rfl
theorem go_laws_markProgram {args : List PV} {σ : List AObj} {r : PV × List AObj} (hl : args.length ≤ 10) (h : rE fns fa_laws_markProgram σ.length [.code ac_laws_markProgram] (frA 0 args) σ = some r) : ev fns i_laws_markProgram args σ = some r := ev_go n_laws_markProgram rfl hl h
@[simp] theorem nt_laws_FnExactChoicesAt : fa_laws_FnExactChoicesAt.nt = 117 := rfl
@[simp] theorem rs_laws_FnExactChoicesAt : fa_laws_FnExactChoicesAt.rs = [.tmp 4] := rfl
@[simp] theorem fz_laws_FnExactChoicesAt : fa_laws_FnExactChoicesAt.fz = true := rfl
@[simp] theorem rsh_laws_FnExactChoicesAt : fa_laws_FnExactChoicesAt.rsh = .any := rfl
theorem go_laws_FnExactChoicesAt {args : List PV} {σ : List AObj} {r : PV × List AObj} (hl : args.length ≤ 117) (h : rE fns fa_laws_FnExactChoicesAt σ.length [.code ac_laws_FnExactChoicesAt] (frA 0 args) σ = some r) : ev fns i_laws_FnExactChoicesAt args σ = some r := ev_go n_laws_FnExactChoicesAt rfl hl h
@[simp] theorem nt_spec_l00Own : fa_spec_l00Own.nt = 6 := rfl
@[simp] theorem rs_spec_l00Own : fa_spec_l00Own.rs = [.tmp 2] := rfl
@[simp] theorem fz_spec_l00Own : fa_spec_l00Own.fz = false := rfl
@[simp] theorem rsh_spec_l00Own : fa_spec_l00Own.rsh = .any := rfl
theorem go_spec_l00Own {args : List PV} {σ : List AObj} {r : PV × List AObj} (hl : args.length ≤ 6) (h : rE fns fa_spec_l00Own σ.length [.code ac_spec_l00Own] (frA 0 args) σ = some r) : ev fns i_spec_l00Own args σ = some r := ev_go n_spec_l00Own rfl hl h
@[simp] theorem nt_spec_RunProgram : fa_spec_RunProgram.nt = 62 := rfl
@[simp] theorem rs_spec_RunProgram : fa_spec_RunProgram.rs = [.tmp 4, .cell 5 3 true, .tmp 6] := rfl
@[simp] theorem fz_spec_RunProgram : fa_spec_RunProgram.fz = true := rfl
@[simp] theorem rsh_spec_RunProgram : fa_spec_RunProgram.rsh = .any := rfl
theorem go_spec_RunProgram {args : List PV} {σ : List AObj} {r : PV × List AObj} (hl : args.length ≤ 62) (h : rE fns fa_spec_RunProgram σ.length [.code ac_spec_RunProgram] (frA 0 args) σ = some r) : ev fns i_spec_RunProgram args σ = some r := ev_go n_spec_RunProgram rfl hl h
theorem l_spec_RunProgram_0 {ks : List KI} {l : Fr} {σ : List AObj} {n0 : Nat} : rE fns fa_spec_RunProgram n0 (.code lo_spec_RunProgram_0 :: ks) l σ = rE fns fa_spec_RunProgram n0 (.code lb_spec_RunProgram_0 :: .code lo_spec_RunProgram_0 :: ks) l σ := rE_loop
@[simp] theorem nt_impl_RunProgram : fa_impl_RunProgram.nt = 49 := rfl
@[simp] theorem rs_impl_RunProgram : fa_impl_RunProgram.rs = [.tmp 4, .cell 5 3 true, .tmp 6] := rfl
@[simp] theorem fz_impl_RunProgram : fa_impl_RunProgram.fz = false := rfl
@[simp] theorem rsh_impl_RunProgram : fa_impl_RunProgram.rsh = .any := rfl
theorem go_impl_RunProgram {args : List PV} {σ : List AObj} {r : PV × List AObj} (hl : args.length ≤ 49) (h : rE fns fa_impl_RunProgram σ.length [.code ac_impl_RunProgram] (frA 0 args) σ = some r) : ev fns i_impl_RunProgram args σ = some r := ev_go n_impl_RunProgram rfl hl h
theorem l_impl_RunProgram_0 {ks : List KI} {l : Fr} {σ : List AObj} {n0 : Nat} : rE fns fa_impl_RunProgram n0 (.code lo_impl_RunProgram_0 :: ks) l σ = rE fns fa_impl_RunProgram n0 (.code lb_impl_RunProgram_0 :: .code lo_impl_RunProgram_0 :: ks) l σ := rE_loop
@[simp] theorem nt_laws_eqInt64SS : fa_laws_eqInt64SS.nt = 27 := rfl
@[simp] theorem rs_laws_eqInt64SS : fa_laws_eqInt64SS.rs = [.tmp 4] := rfl
@[simp] theorem fz_laws_eqInt64SS : fa_laws_eqInt64SS.fz = true := rfl
@[simp] theorem rsh_laws_eqInt64SS : fa_laws_eqInt64SS.rsh = .any := rfl
theorem go_laws_eqInt64SS {args : List PV} {σ : List AObj} {r : PV × List AObj} (hl : args.length ≤ 27) (h : rE fns fa_laws_eqInt64SS σ.length [.code ac_laws_eqInt64SS] (frA 0 args) σ = some r) : ev fns i_laws_eqInt64SS args σ = some r := ev_go n_laws_eqInt64SS rfl hl h
theorem l_laws_eqInt64SS_0 {ks : List KI} {l : Fr} {σ : List AObj} {n0 : Nat} : rE fns fa_laws_eqInt64SS n0 (.code lo_laws_eqInt64SS_0 :: ks) l σ = rE fns fa_laws_eqInt64SS n0 (.code lb_laws_eqInt64SS_0 :: .code lo_laws_eqInt64SS_0 :: ks) l σ := rE_loop
@[simp] theorem nt_laws_eqPlace : fa_laws_eqPlace.nt = 21 := rfl
@[simp] theorem rs_laws_eqPlace : fa_laws_eqPlace.rs = [.tmp 4] := rfl
@[simp] theorem fz_laws_eqPlace : fa_laws_eqPlace.fz = true := rfl
@[simp] theorem rsh_laws_eqPlace : fa_laws_eqPlace.rsh = .any := rfl
theorem go_laws_eqPlace {args : List PV} {σ : List AObj} {r : PV × List AObj} (hl : args.length ≤ 21) (h : rE fns fa_laws_eqPlace σ.length [.code ac_laws_eqPlace] (frA 0 args) σ = some r) : ev fns i_laws_eqPlace args σ = some r := ev_go n_laws_eqPlace rfl hl h
@[simp] theorem nt_laws_markInt64SS : fa_laws_markInt64SS.nt = 19 := rfl
@[simp] theorem rs_laws_markInt64SS : fa_laws_markInt64SS.rs = [.tmp 4] := rfl
@[simp] theorem fz_laws_markInt64SS : fa_laws_markInt64SS.fz = false := rfl
@[simp] theorem rsh_laws_markInt64SS : fa_laws_markInt64SS.rsh = .any := rfl
theorem go_laws_markInt64SS {args : List PV} {σ : List AObj} {r : PV × List AObj} (hl : args.length ≤ 19) (h : rE fns fa_laws_markInt64SS σ.length [.code ac_laws_markInt64SS] (frA 0 args) σ = some r) : ev fns i_laws_markInt64SS args σ = some r := ev_go n_laws_markInt64SS rfl hl h
theorem l_laws_markInt64SS_0 {ks : List KI} {l : Fr} {σ : List AObj} {n0 : Nat} : rE fns fa_laws_markInt64SS n0 (.code lo_laws_markInt64SS_0 :: ks) l σ = rE fns fa_laws_markInt64SS n0 (.code lb_laws_markInt64SS_0 :: .code lo_laws_markInt64SS_0 :: ks) l σ := rE_loop
@[simp] theorem nt_laws_markPlace : fa_laws_markPlace.nt = 10 := rfl
@[simp] theorem rs_laws_markPlace : fa_laws_markPlace.rs = [.tmp 4] := rfl
@[simp] theorem fz_laws_markPlace : fa_laws_markPlace.fz = false := rfl
@[simp] theorem rsh_laws_markPlace : fa_laws_markPlace.rsh = .any := rfl
theorem go_laws_markPlace {args : List PV} {σ : List AObj} {r : PV × List AObj} (hl : args.length ≤ 10) (h : rE fns fa_laws_markPlace σ.length [.code ac_laws_markPlace] (frA 0 args) σ = some r) : ev fns i_laws_markPlace args σ = some r := ev_go n_laws_markPlace rfl hl h
@[simp] theorem nt_laws_heldInt64SS : fa_laws_heldInt64SS.nt = 21 := rfl
@[simp] theorem rs_laws_heldInt64SS : fa_laws_heldInt64SS.rs = [.tmp 4] := rfl
@[simp] theorem fz_laws_heldInt64SS : fa_laws_heldInt64SS.fz = true := rfl
@[simp] theorem rsh_laws_heldInt64SS : fa_laws_heldInt64SS.rsh = .any := rfl
theorem go_laws_heldInt64SS {args : List PV} {σ : List AObj} {r : PV × List AObj} (hl : args.length ≤ 21) (h : rE fns fa_laws_heldInt64SS σ.length [.code ac_laws_heldInt64SS] (frA 0 args) σ = some r) : ev fns i_laws_heldInt64SS args σ = some r := ev_go n_laws_heldInt64SS rfl hl h
theorem l_laws_heldInt64SS_0 {ks : List KI} {l : Fr} {σ : List AObj} {n0 : Nat} : rE fns fa_laws_heldInt64SS n0 (.code lo_laws_heldInt64SS_0 :: ks) l σ = rE fns fa_laws_heldInt64SS n0 (.code lb_laws_heldInt64SS_0 :: .code lo_laws_heldInt64SS_0 :: ks) l σ := rE_loop
@[simp] theorem nt_laws_heldPlace : fa_laws_heldPlace.nt = 12 := rfl
@[simp] theorem rs_laws_heldPlace : fa_laws_heldPlace.rs = [.tmp 4] := rfl
@[simp] theorem fz_laws_heldPlace : fa_laws_heldPlace.fz = true := rfl
@[simp] theorem rsh_laws_heldPlace : fa_laws_heldPlace.rsh = .any := rfl
theorem go_laws_heldPlace {args : List PV} {σ : List AObj} {r : PV × List AObj} (hl : args.length ≤ 12) (h : rE fns fa_laws_heldPlace σ.length [.code ac_laws_heldPlace] (frA 0 args) σ = some r) : ev fns i_laws_heldPlace args σ = some r := ev_go n_laws_heldPlace rfl hl h
@[simp] theorem nt_laws_FnExactRunProgram : fa_laws_FnExactRunProgram.nt = 138 := rfl
@[simp] theorem rs_laws_FnExactRunProgram : fa_laws_FnExactRunProgram.rs = [.tmp 4] := rfl
@[simp] theorem fz_laws_FnExactRunProgram : fa_laws_FnExactRunProgram.fz = true := rfl
@[simp] theorem rsh_laws_FnExactRunProgram : fa_laws_FnExactRunProgram.rsh = .any := rfl
theorem go_laws_FnExactRunProgram {args : List PV} {σ : List AObj} {r : PV × List AObj} (hl : args.length ≤ 138) (h : rE fns fa_laws_FnExactRunProgram σ.length [.code ac_laws_FnExactRunProgram] (frA 0 args) σ = some r) : ev fns i_laws_FnExactRunProgram args σ = some r := ev_go n_laws_FnExactRunProgram rfl hl h
end Go.Proofs.Ytegjfjckijmgcaa
