/- The table of all functions; printed by a program (gen2.py). -/
import Derived.Test.YtpjadhjjeafffaaAw30
import Derived.Test.YtpjadhjjeafffaaG0
import Derived.Test.YtpjadhjjeafffaaG1
import Derived.Test.YtpjadhjjeafffaaG2
set_option linter.unusedVariables false
set_option maxRecDepth 100000
namespace Go.Proofs.Ytpjadhjjeafffaa
open Aw
def tbl : List (FnE Try.prog) := [⟨i_laws_szLink, fa_laws_szLink, cf_laws_szLink⟩,
  ⟨i_laws_szLinkS, fa_laws_szLinkS, cf_laws_szLinkS⟩,
  ⟨i_laws_szModule, fa_laws_szModule, cf_laws_szModule⟩,
  ⟨i_laws_szModuleS, fa_laws_szModuleS, cf_laws_szModuleS⟩,
  ⟨i_laws_szProgram, fa_laws_szProgram, cf_laws_szProgram⟩,
  ⟨i_spec_SameProgram, fa_spec_SameProgram, cf_spec_SameProgram⟩,
  ⟨i_laws_toLink, fa_laws_toLink, cf_laws_toLink⟩,
  ⟨i_laws_toLinkS, fa_laws_toLinkS, cf_laws_toLinkS⟩,
  ⟨i_laws_toModule, fa_laws_toModule, cf_laws_toModule⟩,
  ⟨i_laws_toModuleS, fa_laws_toModuleS, cf_laws_toModuleS⟩,
  ⟨i_laws_toProgram, fa_laws_toProgram, cf_laws_toProgram⟩,
  ⟨i_slices_EqualFunc_L_impl_Module, fa_slices_EqualFunc_L_impl_Module, cf_slices_EqualFunc_L_impl_Module⟩,
  ⟨i_slices_Equal_L_impl_Link, fa_slices_Equal_L_impl_Link, cf_slices_Equal_L_impl_Link⟩,
  ⟨i_impl_SameProgram_1, fa_impl_SameProgram_1, cf_impl_SameProgram_1⟩,
  ⟨i_impl_SameProgram, fa_impl_SameProgram, cf_impl_SameProgram⟩,
  ⟨i_laws_eqLink, fa_laws_eqLink, cf_laws_eqLink⟩,
  ⟨i_laws_eqLinkS, fa_laws_eqLinkS, cf_laws_eqLinkS⟩,
  ⟨i_laws_eqModule, fa_laws_eqModule, cf_laws_eqModule⟩,
  ⟨i_laws_eqModuleS, fa_laws_eqModuleS, cf_laws_eqModuleS⟩,
  ⟨i_laws_eqProgram, fa_laws_eqProgram, cf_laws_eqProgram⟩,
  ⟨i_laws_FnExactSameProgram, fa_laws_FnExactSameProgram, cf_laws_FnExactSameProgram⟩,
  ⟨i_laws_szTreeEdit, fa_laws_szTreeEdit, cf_laws_szTreeEdit⟩,
  ⟨i_spec_l01Symbol, fa_spec_l01Symbol, cf_spec_l01Symbol⟩,
  ⟨i_spec_l01Ok, fa_spec_l01Ok, cf_spec_l01Ok⟩,
  ⟨i_spec_l00In, fa_spec_l00In, cf_spec_l00In⟩,
  ⟨i_spec_l01Call, fa_spec_l01Call, cf_spec_l01Call⟩,
  ⟨i_spec_l01Return, fa_spec_l01Return, cf_spec_l01Return⟩,
  ⟨i_spec_l01Partners, fa_spec_l01Partners, cf_spec_l01Partners⟩,
  ⟨i_spec_l01Pending, fa_spec_l01Pending, cf_spec_l01Pending⟩,
  ⟨i_spec_l01Matched, fa_spec_l01Matched, cf_spec_l01Matched⟩,
  ⟨i_spec_l06Brackets, fa_spec_l06Brackets, cf_spec_l06Brackets⟩,
  ⟨i_spec_l06Edit, fa_spec_l06Edit, cf_spec_l06Edit⟩,
  ⟨i_spec_ValidTreeEdit, fa_spec_ValidTreeEdit, cf_spec_ValidTreeEdit⟩,
  ⟨i_laws_toTreeEdit, fa_laws_toTreeEdit, cf_laws_toTreeEdit⟩,
  ⟨i_impl_treeFormOf, fa_impl_treeFormOf, cf_impl_treeFormOf⟩,
  ⟨i_impl_within, fa_impl_within, cf_impl_within⟩,
  ⟨i_internal_stringslite_IndexByte, fa_internal_stringslite_IndexByte, cf_internal_stringslite_IndexByte⟩,
  ⟨i_strings_IndexByte, fa_strings_IndexByte, cf_strings_IndexByte⟩,
  ⟨i_impl_ValidWord, fa_impl_ValidWord, cf_impl_ValidWord⟩,
  ⟨i_impl_isCall, fa_impl_isCall, cf_impl_isCall⟩,
  ⟨i_impl_isReturn, fa_impl_isReturn, cf_impl_isReturn⟩,
  ⟨i_impl_size_int64, fa_impl_size_int64, cf_impl_size_int64⟩,
  ⟨i_impl_match, fa_impl_match, cf_impl_match⟩,
  ⟨i_impl_isMatched, fa_impl_isMatched, cf_impl_isMatched⟩,
  ⟨i_impl_isBrackets, fa_impl_isBrackets, cf_impl_isBrackets⟩,
  ⟨i_impl_ValidTreeEdit, fa_impl_ValidTreeEdit, cf_impl_ValidTreeEdit⟩,
  ⟨i_laws_FnExactValidTreeEdit, fa_laws_FnExactValidTreeEdit, cf_laws_FnExactValidTreeEdit⟩,
  ⟨i_spec_l07Inner, fa_spec_l07Inner, cf_spec_l07Inner⟩,
  ⟨i_spec_l07Ok, fa_spec_l07Ok, cf_spec_l07Ok⟩,
  ⟨i_spec_ValidProgram, fa_spec_ValidProgram, cf_spec_ValidProgram⟩,
  ⟨i_impl_size_impl_Module, fa_impl_size_impl_Module, cf_impl_size_impl_Module⟩,
  ⟨i_slices_IndexFunc_L_impl_Module, fa_slices_IndexFunc_L_impl_Module, cf_slices_IndexFunc_L_impl_Module⟩,
  ⟨i_slices_ContainsFunc_L_impl_Module, fa_slices_ContainsFunc_L_impl_Module, cf_slices_ContainsFunc_L_impl_Module⟩,
  ⟨i_slices_IndexFunc_L_impl_Link, fa_slices_IndexFunc_L_impl_Link, cf_slices_IndexFunc_L_impl_Link⟩,
  ⟨i_slices_ContainsFunc_L_impl_Link, fa_slices_ContainsFunc_L_impl_Link, cf_slices_ContainsFunc_L_impl_Link⟩,
  ⟨i_impl_isLetter, fa_impl_isLetter, cf_impl_isLetter⟩,
  ⟨i_impl_ValidProgram_1_1, fa_impl_ValidProgram_1_1, cf_impl_ValidProgram_1_1⟩,
  ⟨i_impl_ValidProgram_1, fa_impl_ValidProgram_1, cf_impl_ValidProgram_1⟩,
  ⟨i_impl_ValidProgram, fa_impl_ValidProgram, cf_impl_ValidProgram⟩,
  ⟨i_laws_FnExactValidProgram, fa_laws_FnExactValidProgram, cf_laws_FnExactValidProgram⟩,
  ⟨i_laws_eqOutPush, fa_laws_eqOutPush, cf_laws_eqOutPush⟩,
  ⟨i_laws_eqOutPushS, fa_laws_eqOutPushS, cf_laws_eqOutPushS⟩,
  ⟨i_laws_eqOutPushSS, fa_laws_eqOutPushSS, cf_laws_eqOutPushSS⟩,
  ⟨i_laws_eqOutMove, fa_laws_eqOutMove, cf_laws_eqOutMove⟩,
  ⟨i_laws_eqOutMoveS, fa_laws_eqOutMoveS, cf_laws_eqOutMoveS⟩,
  ⟨i_laws_eqOutMoveSS, fa_laws_eqOutMoveSS, cf_laws_eqOutMoveSS⟩,
  ⟨i_laws_eqOutMoveSSS, fa_laws_eqOutMoveSSS, cf_laws_eqOutMoveSSS⟩,
  ⟨i_laws_eqRewriter, fa_laws_eqRewriter, cf_laws_eqRewriter⟩,
  ⟨i_laws_markText, fa_laws_markText, cf_laws_markText⟩,
  ⟨i_laws_markOutPushS, fa_laws_markOutPushS, cf_laws_markOutPushS⟩,
  ⟨i_laws_markOutPushSS, fa_laws_markOutPushSS, cf_laws_markOutPushSS⟩,
  ⟨i_laws_markOutMoveS, fa_laws_markOutMoveS, cf_laws_markOutMoveS⟩,
  ⟨i_laws_markOutMoveSS, fa_laws_markOutMoveSS, cf_laws_markOutMoveSS⟩,
  ⟨i_laws_markOutMoveSSS, fa_laws_markOutMoveSSS, cf_laws_markOutMoveSSS⟩,
  ⟨i_laws_markRewriter, fa_laws_markRewriter, cf_laws_markRewriter⟩,
  ⟨i_laws_heldOutPushS, fa_laws_heldOutPushS, cf_laws_heldOutPushS⟩,
  ⟨i_laws_heldOutPushSS, fa_laws_heldOutPushSS, cf_laws_heldOutPushSS⟩,
  ⟨i_laws_heldOutMoveS, fa_laws_heldOutMoveS, cf_laws_heldOutMoveS⟩,
  ⟨i_laws_heldOutMoveSS, fa_laws_heldOutMoveSS, cf_laws_heldOutMoveSS⟩,
  ⟨i_laws_heldOutMoveSSS, fa_laws_heldOutMoveSSS, cf_laws_heldOutMoveSSS⟩,
  ⟨i_laws_heldRewriter, fa_laws_heldRewriter, cf_laws_heldRewriter⟩,
  ⟨i_spec_l06Plain, fa_spec_l06Plain, cf_spec_l06Plain⟩,
  ⟨i_spec_UnwrapRewriter, fa_spec_UnwrapRewriter, cf_spec_UnwrapRewriter⟩,
  ⟨i_impl_builtRewriter, fa_impl_builtRewriter, cf_impl_builtRewriter⟩,
  ⟨i_impl_symbol, fa_impl_symbol, cf_impl_symbol⟩,
  ⟨i_impl_UnwrapRewriter_1, fa_impl_UnwrapRewriter_1, cf_impl_UnwrapRewriter_1⟩,
  ⟨i_impl_UnwrapRewriter_2, fa_impl_UnwrapRewriter_2, cf_impl_UnwrapRewriter_2⟩,
  ⟨i_impl_UnwrapRewriter_3, fa_impl_UnwrapRewriter_3, cf_impl_UnwrapRewriter_3⟩,
  ⟨i_impl_UnwrapRewriter, fa_impl_UnwrapRewriter, cf_impl_UnwrapRewriter⟩,
  ⟨i_laws_FnExactUnwrapRewriter, fa_laws_FnExactUnwrapRewriter, cf_laws_FnExactUnwrapRewriter⟩,
  ⟨i_spec_l06Letter, fa_spec_l06Letter, cf_spec_l06Letter⟩,
  ⟨i_spec_ThinRewriter, fa_spec_ThinRewriter, cf_spec_ThinRewriter⟩,
  ⟨i_impl_ThinRewriter_1, fa_impl_ThinRewriter_1, cf_impl_ThinRewriter_1⟩,
  ⟨i_impl_ThinRewriter_2, fa_impl_ThinRewriter_2, cf_impl_ThinRewriter_2⟩,
  ⟨i_impl_ThinRewriter_3, fa_impl_ThinRewriter_3, cf_impl_ThinRewriter_3⟩,
  ⟨i_impl_ThinRewriter, fa_impl_ThinRewriter, cf_impl_ThinRewriter⟩,
  ⟨i_laws_FnExactThinRewriter, fa_laws_FnExactThinRewriter, cf_laws_FnExactThinRewriter⟩,
  ⟨i_spec_DropRewriter, fa_spec_DropRewriter, cf_spec_DropRewriter⟩,
  ⟨i_impl_renaming_1, fa_impl_renaming_1, cf_impl_renaming_1⟩,
  ⟨i_impl_renaming_2, fa_impl_renaming_2, cf_impl_renaming_2⟩,
  ⟨i_impl_renaming_3, fa_impl_renaming_3, cf_impl_renaming_3⟩,
  ⟨i_impl_renaming, fa_impl_renaming, cf_impl_renaming⟩,
  ⟨i_impl_DropRewriter_1, fa_impl_DropRewriter_1, cf_impl_DropRewriter_1⟩,
  ⟨i_impl_DropRewriter, fa_impl_DropRewriter, cf_impl_DropRewriter⟩,
  ⟨i_laws_FnExactDropRewriter, fa_laws_FnExactDropRewriter, cf_laws_FnExactDropRewriter⟩,
  ⟨i_laws_szOutPush, fa_laws_szOutPush, cf_laws_szOutPush⟩,
  ⟨i_laws_szOutPushS, fa_laws_szOutPushS, cf_laws_szOutPushS⟩,
  ⟨i_laws_szOutPushSS, fa_laws_szOutPushSS, cf_laws_szOutPushSS⟩,
  ⟨i_laws_szOutMove, fa_laws_szOutMove, cf_laws_szOutMove⟩,
  ⟨i_laws_szOutMoveS, fa_laws_szOutMoveS, cf_laws_szOutMoveS⟩,
  ⟨i_laws_szOutMoveSS, fa_laws_szOutMoveSS, cf_laws_szOutMoveSS⟩,
  ⟨i_laws_szOutMoveSSS, fa_laws_szOutMoveSSS, cf_laws_szOutMoveSSS⟩,
  ⟨i_laws_szRewriter, fa_laws_szRewriter, cf_laws_szRewriter⟩,
  ⟨i_spec_l06SameMoves, fa_spec_l06SameMoves, cf_spec_l06SameMoves⟩,
  ⟨i_spec_SameRewriter, fa_spec_SameRewriter, cf_spec_SameRewriter⟩,
  ⟨i_laws_toOutPush, fa_laws_toOutPush, cf_laws_toOutPush⟩,
  ⟨i_laws_toOutPushS, fa_laws_toOutPushS, cf_laws_toOutPushS⟩,
  ⟨i_laws_toOutPushSS, fa_laws_toOutPushSS, cf_laws_toOutPushSS⟩,
  ⟨i_laws_toOutMove, fa_laws_toOutMove, cf_laws_toOutMove⟩,
  ⟨i_laws_toOutMoveS, fa_laws_toOutMoveS, cf_laws_toOutMoveS⟩,
  ⟨i_laws_toOutMoveSS, fa_laws_toOutMoveSS, cf_laws_toOutMoveSS⟩,
  ⟨i_laws_toOutMoveSSS, fa_laws_toOutMoveSSS, cf_laws_toOutMoveSSS⟩,
  ⟨i_laws_toRewriter, fa_laws_toRewriter, cf_laws_toRewriter⟩,
  ⟨i_slices_EqualFunc_L_L_impl_OutMove, fa_slices_EqualFunc_L_L_impl_OutMove, cf_slices_EqualFunc_L_L_impl_OutMove⟩,
  ⟨i_slices_Equal_L_impl_OutMove, fa_slices_Equal_L_impl_OutMove, cf_slices_Equal_L_impl_OutMove⟩,
  ⟨i_impl_SameRewriter_1, fa_impl_SameRewriter_1, cf_impl_SameRewriter_1⟩,
  ⟨i_slices_EqualFunc_L_L_impl_OutPush, fa_slices_EqualFunc_L_L_impl_OutPush, cf_slices_EqualFunc_L_L_impl_OutPush⟩,
  ⟨i_slices_Equal_L_impl_OutPush, fa_slices_Equal_L_impl_OutPush, cf_slices_Equal_L_impl_OutPush⟩,
  ⟨i_slices_EqualFunc_L_L_L_impl_OutMove, fa_slices_EqualFunc_L_L_L_impl_OutMove, cf_slices_EqualFunc_L_L_L_impl_OutMove⟩,
  ⟨i_impl_SameRewriter, fa_impl_SameRewriter, cf_impl_SameRewriter⟩,
  ⟨i_laws_FnExactSameRewriter, fa_laws_FnExactSameRewriter, cf_laws_FnExactSameRewriter⟩,
  ⟨i_spec_RenameRewriter, fa_spec_RenameRewriter, cf_spec_RenameRewriter⟩,
  ⟨i_impl_isInner, fa_impl_isInner, cf_impl_isInner⟩,
  ⟨i_impl_RenameRewriter_1, fa_impl_RenameRewriter_1, cf_impl_RenameRewriter_1⟩,
  ⟨i_impl_RenameRewriter, fa_impl_RenameRewriter, cf_impl_RenameRewriter⟩,
  ⟨i_laws_FnExactRenameRewriter, fa_laws_FnExactRenameRewriter, cf_laws_FnExactRenameRewriter⟩,
  ⟨i_spec_l06Given, fa_spec_l06Given, cf_spec_l06Given⟩,
  ⟨i_spec_l01Told, fa_spec_l01Told, cf_spec_l01Told⟩,
  ⟨i_spec_PutAt, fa_spec_PutAt, cf_spec_PutAt⟩,
  ⟨i_spec_l01Closed, fa_spec_l01Closed, cf_spec_l01Closed⟩,
  ⟨i_spec_CutMatched, fa_spec_CutMatched, cf_spec_CutMatched⟩,
  ⟨i_spec_l06Made, fa_spec_l06Made, cf_spec_l06Made⟩,
  ⟨i_spec_EditTree, fa_spec_EditTree, cf_spec_EditTree⟩,
  ⟨i_impl_orLimit, fa_impl_orLimit, cf_impl_orLimit⟩,
  ⟨i_impl_PutAt, fa_impl_PutAt, cf_impl_PutAt⟩,
  ⟨i_impl_bodyAt, fa_impl_bodyAt, cf_impl_bodyAt⟩,
  ⟨i_impl_CutMatched, fa_impl_CutMatched, cf_impl_CutMatched⟩,
  ⟨i_impl_editTree, fa_impl_editTree, cf_impl_editTree⟩,
  ⟨i_impl_EditTree, fa_impl_EditTree, cf_impl_EditTree⟩,
  ⟨i_laws_FnExactEditTree, fa_laws_FnExactEditTree, cf_laws_FnExactEditTree⟩]
def fns : Fns := fnsOf tbl
theorem fnsOk : FnsOk Try.prog fns := fnsOf_ok tbl
theorem n_laws_szLink : fns i_laws_szLink = some fa_laws_szLink := rfl
@[simp] theorem c_laws_szLink (args : List PV) (σ : List AObj) : callM fns (ev fns) i_laws_szLink args σ = callN fns i_laws_szLink args σ := callM_np n_laws_szLink rfl
theorem n_laws_szLinkS : fns i_laws_szLinkS = some fa_laws_szLinkS := rfl
@[simp] theorem c_laws_szLinkS (args : List PV) (σ : List AObj) : callM fns (ev fns) i_laws_szLinkS args σ = callN fns i_laws_szLinkS args σ := callM_np n_laws_szLinkS rfl
theorem n_laws_szModule : fns i_laws_szModule = some fa_laws_szModule := rfl
@[simp] theorem c_laws_szModule (args : List PV) (σ : List AObj) : callM fns (ev fns) i_laws_szModule args σ = callN fns i_laws_szModule args σ := callM_np n_laws_szModule rfl
theorem n_laws_szModuleS : fns i_laws_szModuleS = some fa_laws_szModuleS := rfl
@[simp] theorem c_laws_szModuleS (args : List PV) (σ : List AObj) : callM fns (ev fns) i_laws_szModuleS args σ = callN fns i_laws_szModuleS args σ := callM_np n_laws_szModuleS rfl
theorem n_laws_szProgram : fns i_laws_szProgram = some fa_laws_szProgram := rfl
@[simp] theorem c_laws_szProgram (args : List PV) (σ : List AObj) : callM fns (ev fns) i_laws_szProgram args σ = callN fns i_laws_szProgram args σ := callM_np n_laws_szProgram rfl
theorem n_spec_SameProgram : fns i_spec_SameProgram = some fa_spec_SameProgram := rfl
@[simp] theorem c_spec_SameProgram (args : List PV) (σ : List AObj) : callM fns (ev fns) i_spec_SameProgram args σ = callN fns i_spec_SameProgram args σ := callM_np n_spec_SameProgram rfl
theorem n_laws_toLink : fns i_laws_toLink = some fa_laws_toLink := rfl
@[simp] theorem c_laws_toLink (args : List PV) (σ : List AObj) : callM fns (ev fns) i_laws_toLink args σ = callN fns i_laws_toLink args σ := callM_np n_laws_toLink rfl
theorem n_laws_toLinkS : fns i_laws_toLinkS = some fa_laws_toLinkS := rfl
@[simp] theorem c_laws_toLinkS (args : List PV) (σ : List AObj) : callM fns (ev fns) i_laws_toLinkS args σ = callN fns i_laws_toLinkS args σ := callM_np n_laws_toLinkS rfl
theorem n_laws_toModule : fns i_laws_toModule = some fa_laws_toModule := rfl
@[simp] theorem c_laws_toModule (args : List PV) (σ : List AObj) : callM fns (ev fns) i_laws_toModule args σ = callN fns i_laws_toModule args σ := callM_np n_laws_toModule rfl
theorem n_laws_toModuleS : fns i_laws_toModuleS = some fa_laws_toModuleS := rfl
@[simp] theorem c_laws_toModuleS (args : List PV) (σ : List AObj) : callM fns (ev fns) i_laws_toModuleS args σ = callN fns i_laws_toModuleS args σ := callM_np n_laws_toModuleS rfl
theorem n_laws_toProgram : fns i_laws_toProgram = some fa_laws_toProgram := rfl
@[simp] theorem c_laws_toProgram (args : List PV) (σ : List AObj) : callM fns (ev fns) i_laws_toProgram args σ = callN fns i_laws_toProgram args σ := callM_np n_laws_toProgram rfl
theorem n_slices_EqualFunc_L_impl_Module : fns i_slices_EqualFunc_L_impl_Module = some fa_slices_EqualFunc_L_impl_Module := rfl
@[simp] theorem c_slices_EqualFunc_L_impl_Module (args : List PV) (σ : List AObj) : callM fns (ev fns) i_slices_EqualFunc_L_impl_Module args σ = callN fns i_slices_EqualFunc_L_impl_Module args σ := callM_np n_slices_EqualFunc_L_impl_Module rfl
theorem n_slices_Equal_L_impl_Link : fns i_slices_Equal_L_impl_Link = some fa_slices_Equal_L_impl_Link := rfl
@[simp] theorem c_slices_Equal_L_impl_Link (args : List PV) (σ : List AObj) : callM fns (ev fns) i_slices_Equal_L_impl_Link args σ = callN fns i_slices_Equal_L_impl_Link args σ := callM_np n_slices_Equal_L_impl_Link rfl
theorem n_impl_SameProgram_1 : fns i_impl_SameProgram_1 = some fa_impl_SameProgram_1 := rfl
@[simp] theorem c_impl_SameProgram_1 (args : List PV) (σ : List AObj) : callM fns (ev fns) i_impl_SameProgram_1 args σ = callN fns i_impl_SameProgram_1 args σ := callM_np n_impl_SameProgram_1 rfl
theorem n_impl_SameProgram : fns i_impl_SameProgram = some fa_impl_SameProgram := rfl
@[simp] theorem c_impl_SameProgram (args : List PV) (σ : List AObj) : callM fns (ev fns) i_impl_SameProgram args σ = callN fns i_impl_SameProgram args σ := callM_np n_impl_SameProgram rfl
theorem n_laws_eqLink : fns i_laws_eqLink = some fa_laws_eqLink := rfl
@[simp] theorem c_laws_eqLink (args : List PV) (σ : List AObj) : callM fns (ev fns) i_laws_eqLink args σ = callN fns i_laws_eqLink args σ := callM_np n_laws_eqLink rfl
theorem n_laws_eqLinkS : fns i_laws_eqLinkS = some fa_laws_eqLinkS := rfl
@[simp] theorem c_laws_eqLinkS (args : List PV) (σ : List AObj) : callM fns (ev fns) i_laws_eqLinkS args σ = callN fns i_laws_eqLinkS args σ := callM_np n_laws_eqLinkS rfl
theorem n_laws_eqModule : fns i_laws_eqModule = some fa_laws_eqModule := rfl
@[simp] theorem c_laws_eqModule (args : List PV) (σ : List AObj) : callM fns (ev fns) i_laws_eqModule args σ = callN fns i_laws_eqModule args σ := callM_np n_laws_eqModule rfl
theorem n_laws_eqModuleS : fns i_laws_eqModuleS = some fa_laws_eqModuleS := rfl
@[simp] theorem c_laws_eqModuleS (args : List PV) (σ : List AObj) : callM fns (ev fns) i_laws_eqModuleS args σ = callN fns i_laws_eqModuleS args σ := callM_np n_laws_eqModuleS rfl
theorem n_laws_eqProgram : fns i_laws_eqProgram = some fa_laws_eqProgram := rfl
@[simp] theorem c_laws_eqProgram (args : List PV) (σ : List AObj) : callM fns (ev fns) i_laws_eqProgram args σ = callN fns i_laws_eqProgram args σ := callM_np n_laws_eqProgram rfl
theorem n_laws_FnExactSameProgram : fns i_laws_FnExactSameProgram = some fa_laws_FnExactSameProgram := rfl
@[simp] theorem c_laws_FnExactSameProgram (args : List PV) (σ : List AObj) : callM fns (ev fns) i_laws_FnExactSameProgram args σ = callN fns i_laws_FnExactSameProgram args σ := callM_np n_laws_FnExactSameProgram rfl
theorem n_laws_szTreeEdit : fns i_laws_szTreeEdit = some fa_laws_szTreeEdit := rfl
@[simp] theorem c_laws_szTreeEdit (args : List PV) (σ : List AObj) : callM fns (ev fns) i_laws_szTreeEdit args σ = callN fns i_laws_szTreeEdit args σ := callM_np n_laws_szTreeEdit rfl
theorem n_spec_l01Symbol : fns i_spec_l01Symbol = some fa_spec_l01Symbol := rfl
@[simp] theorem c_spec_l01Symbol (args : List PV) (σ : List AObj) : callM fns (ev fns) i_spec_l01Symbol args σ = callN fns i_spec_l01Symbol args σ := callM_np n_spec_l01Symbol rfl
theorem n_spec_l01Ok : fns i_spec_l01Ok = some fa_spec_l01Ok := rfl
@[simp] theorem c_spec_l01Ok (args : List PV) (σ : List AObj) : callM fns (ev fns) i_spec_l01Ok args σ = callN fns i_spec_l01Ok args σ := callM_np n_spec_l01Ok rfl
theorem n_spec_l00In : fns i_spec_l00In = some fa_spec_l00In := rfl
@[simp] theorem c_spec_l00In (args : List PV) (σ : List AObj) : callM fns (ev fns) i_spec_l00In args σ = callN fns i_spec_l00In args σ := callM_np n_spec_l00In rfl
theorem n_spec_l01Call : fns i_spec_l01Call = some fa_spec_l01Call := rfl
@[simp] theorem c_spec_l01Call (args : List PV) (σ : List AObj) : callM fns (ev fns) i_spec_l01Call args σ = callN fns i_spec_l01Call args σ := callM_np n_spec_l01Call rfl
theorem n_spec_l01Return : fns i_spec_l01Return = some fa_spec_l01Return := rfl
@[simp] theorem c_spec_l01Return (args : List PV) (σ : List AObj) : callM fns (ev fns) i_spec_l01Return args σ = callN fns i_spec_l01Return args σ := callM_np n_spec_l01Return rfl
theorem n_spec_l01Partners : fns i_spec_l01Partners = some fa_spec_l01Partners := rfl
@[simp] theorem c_spec_l01Partners (args : List PV) (σ : List AObj) : callM fns (ev fns) i_spec_l01Partners args σ = callN fns i_spec_l01Partners args σ := callM_np n_spec_l01Partners rfl
theorem n_spec_l01Pending : fns i_spec_l01Pending = some fa_spec_l01Pending := rfl
@[simp] theorem c_spec_l01Pending (args : List PV) (σ : List AObj) : callM fns (ev fns) i_spec_l01Pending args σ = callN fns i_spec_l01Pending args σ := callM_np n_spec_l01Pending rfl
theorem n_spec_l01Matched : fns i_spec_l01Matched = some fa_spec_l01Matched := rfl
@[simp] theorem c_spec_l01Matched (args : List PV) (σ : List AObj) : callM fns (ev fns) i_spec_l01Matched args σ = callN fns i_spec_l01Matched args σ := callM_np n_spec_l01Matched rfl
theorem n_spec_l06Brackets : fns i_spec_l06Brackets = some fa_spec_l06Brackets := rfl
@[simp] theorem c_spec_l06Brackets (args : List PV) (σ : List AObj) : callM fns (ev fns) i_spec_l06Brackets args σ = callN fns i_spec_l06Brackets args σ := callM_np n_spec_l06Brackets rfl
theorem n_spec_l06Edit : fns i_spec_l06Edit = some fa_spec_l06Edit := rfl
@[simp] theorem c_spec_l06Edit (args : List PV) (σ : List AObj) : callM fns (ev fns) i_spec_l06Edit args σ = callN fns i_spec_l06Edit args σ := callM_np n_spec_l06Edit rfl
theorem n_spec_ValidTreeEdit : fns i_spec_ValidTreeEdit = some fa_spec_ValidTreeEdit := rfl
@[simp] theorem c_spec_ValidTreeEdit (args : List PV) (σ : List AObj) : callM fns (ev fns) i_spec_ValidTreeEdit args σ = callN fns i_spec_ValidTreeEdit args σ := callM_np n_spec_ValidTreeEdit rfl
theorem n_laws_toTreeEdit : fns i_laws_toTreeEdit = some fa_laws_toTreeEdit := rfl
@[simp] theorem c_laws_toTreeEdit (args : List PV) (σ : List AObj) : callM fns (ev fns) i_laws_toTreeEdit args σ = callN fns i_laws_toTreeEdit args σ := callM_np n_laws_toTreeEdit rfl
theorem n_impl_treeFormOf : fns i_impl_treeFormOf = some fa_impl_treeFormOf := rfl
@[simp] theorem c_impl_treeFormOf (args : List PV) (σ : List AObj) : callM fns (ev fns) i_impl_treeFormOf args σ = callN fns i_impl_treeFormOf args σ := callM_np n_impl_treeFormOf rfl
theorem n_impl_within : fns i_impl_within = some fa_impl_within := rfl
@[simp] theorem c_impl_within (args : List PV) (σ : List AObj) : callM fns (ev fns) i_impl_within args σ = callN fns i_impl_within args σ := callM_np n_impl_within rfl
theorem n_internal_stringslite_IndexByte : fns i_internal_stringslite_IndexByte = some fa_internal_stringslite_IndexByte := rfl
@[simp] theorem c_internal_stringslite_IndexByte (args : List PV) (σ : List AObj) : callM fns (ev fns) i_internal_stringslite_IndexByte args σ = callN fns i_internal_stringslite_IndexByte args σ := callM_np n_internal_stringslite_IndexByte rfl
theorem n_strings_IndexByte : fns i_strings_IndexByte = some fa_strings_IndexByte := rfl
@[simp] theorem c_strings_IndexByte (args : List PV) (σ : List AObj) : callM fns (ev fns) i_strings_IndexByte args σ = callN fns i_strings_IndexByte args σ := callM_np n_strings_IndexByte rfl
theorem n_impl_ValidWord : fns i_impl_ValidWord = some fa_impl_ValidWord := rfl
@[simp] theorem c_impl_ValidWord (args : List PV) (σ : List AObj) : callM fns (ev fns) i_impl_ValidWord args σ = callN fns i_impl_ValidWord args σ := callM_np n_impl_ValidWord rfl
theorem n_impl_isCall : fns i_impl_isCall = some fa_impl_isCall := rfl
@[simp] theorem c_impl_isCall (args : List PV) (σ : List AObj) : callM fns (ev fns) i_impl_isCall args σ = callN fns i_impl_isCall args σ := callM_np n_impl_isCall rfl
theorem n_impl_isReturn : fns i_impl_isReturn = some fa_impl_isReturn := rfl
@[simp] theorem c_impl_isReturn (args : List PV) (σ : List AObj) : callM fns (ev fns) i_impl_isReturn args σ = callN fns i_impl_isReturn args σ := callM_np n_impl_isReturn rfl
theorem n_impl_size_int64 : fns i_impl_size_int64 = some fa_impl_size_int64 := rfl
@[simp] theorem c_impl_size_int64 (args : List PV) (σ : List AObj) : callM fns (ev fns) i_impl_size_int64 args σ = callN fns i_impl_size_int64 args σ := callM_np n_impl_size_int64 rfl
theorem n_impl_match : fns i_impl_match = some fa_impl_match := rfl
@[simp] theorem c_impl_match (args : List PV) (σ : List AObj) : callM fns (ev fns) i_impl_match args σ = callN fns i_impl_match args σ := callM_np n_impl_match rfl
theorem n_impl_isMatched : fns i_impl_isMatched = some fa_impl_isMatched := rfl
@[simp] theorem c_impl_isMatched (args : List PV) (σ : List AObj) : callM fns (ev fns) i_impl_isMatched args σ = callN fns i_impl_isMatched args σ := callM_np n_impl_isMatched rfl
theorem n_impl_isBrackets : fns i_impl_isBrackets = some fa_impl_isBrackets := rfl
@[simp] theorem c_impl_isBrackets (args : List PV) (σ : List AObj) : callM fns (ev fns) i_impl_isBrackets args σ = callN fns i_impl_isBrackets args σ := callM_np n_impl_isBrackets rfl
theorem n_impl_ValidTreeEdit : fns i_impl_ValidTreeEdit = some fa_impl_ValidTreeEdit := rfl
@[simp] theorem c_impl_ValidTreeEdit (args : List PV) (σ : List AObj) : callM fns (ev fns) i_impl_ValidTreeEdit args σ = callN fns i_impl_ValidTreeEdit args σ := callM_np n_impl_ValidTreeEdit rfl
theorem n_laws_FnExactValidTreeEdit : fns i_laws_FnExactValidTreeEdit = some fa_laws_FnExactValidTreeEdit := rfl
@[simp] theorem c_laws_FnExactValidTreeEdit (args : List PV) (σ : List AObj) : callM fns (ev fns) i_laws_FnExactValidTreeEdit args σ = callN fns i_laws_FnExactValidTreeEdit args σ := callM_np n_laws_FnExactValidTreeEdit rfl
theorem n_spec_l07Inner : fns i_spec_l07Inner = some fa_spec_l07Inner := rfl
@[simp] theorem c_spec_l07Inner (args : List PV) (σ : List AObj) : callM fns (ev fns) i_spec_l07Inner args σ = callN fns i_spec_l07Inner args σ := callM_np n_spec_l07Inner rfl
theorem n_spec_l07Ok : fns i_spec_l07Ok = some fa_spec_l07Ok := rfl
@[simp] theorem c_spec_l07Ok (args : List PV) (σ : List AObj) : callM fns (ev fns) i_spec_l07Ok args σ = callN fns i_spec_l07Ok args σ := callM_np n_spec_l07Ok rfl
theorem n_spec_ValidProgram : fns i_spec_ValidProgram = some fa_spec_ValidProgram := rfl
@[simp] theorem c_spec_ValidProgram (args : List PV) (σ : List AObj) : callM fns (ev fns) i_spec_ValidProgram args σ = callN fns i_spec_ValidProgram args σ := callM_np n_spec_ValidProgram rfl
theorem n_impl_size_impl_Module : fns i_impl_size_impl_Module = some fa_impl_size_impl_Module := rfl
@[simp] theorem c_impl_size_impl_Module (args : List PV) (σ : List AObj) : callM fns (ev fns) i_impl_size_impl_Module args σ = callN fns i_impl_size_impl_Module args σ := callM_np n_impl_size_impl_Module rfl
theorem n_slices_IndexFunc_L_impl_Module : fns i_slices_IndexFunc_L_impl_Module = some fa_slices_IndexFunc_L_impl_Module := rfl
@[simp] theorem c_slices_IndexFunc_L_impl_Module (args : List PV) (σ : List AObj) : callM fns (ev fns) i_slices_IndexFunc_L_impl_Module args σ = callN fns i_slices_IndexFunc_L_impl_Module args σ := callM_np n_slices_IndexFunc_L_impl_Module rfl
theorem n_slices_ContainsFunc_L_impl_Module : fns i_slices_ContainsFunc_L_impl_Module = some fa_slices_ContainsFunc_L_impl_Module := rfl
@[simp] theorem c_slices_ContainsFunc_L_impl_Module (args : List PV) (σ : List AObj) : callM fns (ev fns) i_slices_ContainsFunc_L_impl_Module args σ = callN fns i_slices_ContainsFunc_L_impl_Module args σ := callM_np n_slices_ContainsFunc_L_impl_Module rfl
theorem n_slices_IndexFunc_L_impl_Link : fns i_slices_IndexFunc_L_impl_Link = some fa_slices_IndexFunc_L_impl_Link := rfl
@[simp] theorem c_slices_IndexFunc_L_impl_Link (args : List PV) (σ : List AObj) : callM fns (ev fns) i_slices_IndexFunc_L_impl_Link args σ = callN fns i_slices_IndexFunc_L_impl_Link args σ := callM_np n_slices_IndexFunc_L_impl_Link rfl
theorem n_slices_ContainsFunc_L_impl_Link : fns i_slices_ContainsFunc_L_impl_Link = some fa_slices_ContainsFunc_L_impl_Link := rfl
@[simp] theorem c_slices_ContainsFunc_L_impl_Link (args : List PV) (σ : List AObj) : callM fns (ev fns) i_slices_ContainsFunc_L_impl_Link args σ = callN fns i_slices_ContainsFunc_L_impl_Link args σ := callM_np n_slices_ContainsFunc_L_impl_Link rfl
theorem n_impl_isLetter : fns i_impl_isLetter = some fa_impl_isLetter := rfl
@[simp] theorem c_impl_isLetter (args : List PV) (σ : List AObj) : callM fns (ev fns) i_impl_isLetter args σ = callN fns i_impl_isLetter args σ := callM_np n_impl_isLetter rfl
theorem n_impl_ValidProgram_1_1 : fns i_impl_ValidProgram_1_1 = some fa_impl_ValidProgram_1_1 := rfl
@[simp] theorem c_impl_ValidProgram_1_1 (args : List PV) (σ : List AObj) : callM fns (ev fns) i_impl_ValidProgram_1_1 args σ = callN fns i_impl_ValidProgram_1_1 args σ := callM_np n_impl_ValidProgram_1_1 rfl
theorem n_impl_ValidProgram_1 : fns i_impl_ValidProgram_1 = some fa_impl_ValidProgram_1 := rfl
@[simp] theorem c_impl_ValidProgram_1 (args : List PV) (σ : List AObj) : callM fns (ev fns) i_impl_ValidProgram_1 args σ = callN fns i_impl_ValidProgram_1 args σ := callM_np n_impl_ValidProgram_1 rfl
theorem n_impl_ValidProgram : fns i_impl_ValidProgram = some fa_impl_ValidProgram := rfl
@[simp] theorem c_impl_ValidProgram (args : List PV) (σ : List AObj) : callM fns (ev fns) i_impl_ValidProgram args σ = callN fns i_impl_ValidProgram args σ := callM_np n_impl_ValidProgram rfl
theorem n_laws_FnExactValidProgram : fns i_laws_FnExactValidProgram = some fa_laws_FnExactValidProgram := rfl
@[simp] theorem c_laws_FnExactValidProgram (args : List PV) (σ : List AObj) : callM fns (ev fns) i_laws_FnExactValidProgram args σ = callN fns i_laws_FnExactValidProgram args σ := callM_np n_laws_FnExactValidProgram rfl
theorem n_laws_eqOutPush : fns i_laws_eqOutPush = some fa_laws_eqOutPush := rfl
@[simp] theorem c_laws_eqOutPush (args : List PV) (σ : List AObj) : callM fns (ev fns) i_laws_eqOutPush args σ = callN fns i_laws_eqOutPush args σ := callM_np n_laws_eqOutPush rfl
theorem n_laws_eqOutPushS : fns i_laws_eqOutPushS = some fa_laws_eqOutPushS := rfl
@[simp] theorem c_laws_eqOutPushS (args : List PV) (σ : List AObj) : callM fns (ev fns) i_laws_eqOutPushS args σ = callN fns i_laws_eqOutPushS args σ := callM_np n_laws_eqOutPushS rfl
theorem n_laws_eqOutPushSS : fns i_laws_eqOutPushSS = some fa_laws_eqOutPushSS := rfl
@[simp] theorem c_laws_eqOutPushSS (args : List PV) (σ : List AObj) : callM fns (ev fns) i_laws_eqOutPushSS args σ = callN fns i_laws_eqOutPushSS args σ := callM_np n_laws_eqOutPushSS rfl
theorem n_laws_eqOutMove : fns i_laws_eqOutMove = some fa_laws_eqOutMove := rfl
@[simp] theorem c_laws_eqOutMove (args : List PV) (σ : List AObj) : callM fns (ev fns) i_laws_eqOutMove args σ = callN fns i_laws_eqOutMove args σ := callM_np n_laws_eqOutMove rfl
theorem n_laws_eqOutMoveS : fns i_laws_eqOutMoveS = some fa_laws_eqOutMoveS := rfl
@[simp] theorem c_laws_eqOutMoveS (args : List PV) (σ : List AObj) : callM fns (ev fns) i_laws_eqOutMoveS args σ = callN fns i_laws_eqOutMoveS args σ := callM_np n_laws_eqOutMoveS rfl
theorem n_laws_eqOutMoveSS : fns i_laws_eqOutMoveSS = some fa_laws_eqOutMoveSS := rfl
@[simp] theorem c_laws_eqOutMoveSS (args : List PV) (σ : List AObj) : callM fns (ev fns) i_laws_eqOutMoveSS args σ = callN fns i_laws_eqOutMoveSS args σ := callM_np n_laws_eqOutMoveSS rfl
theorem n_laws_eqOutMoveSSS : fns i_laws_eqOutMoveSSS = some fa_laws_eqOutMoveSSS := rfl
@[simp] theorem c_laws_eqOutMoveSSS (args : List PV) (σ : List AObj) : callM fns (ev fns) i_laws_eqOutMoveSSS args σ = callN fns i_laws_eqOutMoveSSS args σ := callM_np n_laws_eqOutMoveSSS rfl
theorem n_laws_eqRewriter : fns i_laws_eqRewriter = some fa_laws_eqRewriter := rfl
@[simp] theorem c_laws_eqRewriter (args : List PV) (σ : List AObj) : callM fns (ev fns) i_laws_eqRewriter args σ = callN fns i_laws_eqRewriter args σ := callM_np n_laws_eqRewriter rfl
theorem n_laws_markText : fns i_laws_markText = some fa_laws_markText := rfl
@[simp] theorem c_laws_markText (args : List PV) (σ : List AObj) : callM fns (ev fns) i_laws_markText args σ = callN fns i_laws_markText args σ := callM_np n_laws_markText rfl
theorem n_laws_markOutPushS : fns i_laws_markOutPushS = some fa_laws_markOutPushS := rfl
@[simp] theorem c_laws_markOutPushS (args : List PV) (σ : List AObj) : callM fns (ev fns) i_laws_markOutPushS args σ = ev fns i_laws_markOutPushS args σ := by simp [callM, n_laws_markOutPushS, fa_laws_markOutPushS]
theorem n_laws_markOutPushSS : fns i_laws_markOutPushSS = some fa_laws_markOutPushSS := rfl
@[simp] theorem c_laws_markOutPushSS (args : List PV) (σ : List AObj) : callM fns (ev fns) i_laws_markOutPushSS args σ = ev fns i_laws_markOutPushSS args σ := by simp [callM, n_laws_markOutPushSS, fa_laws_markOutPushSS]
theorem n_laws_markOutMoveS : fns i_laws_markOutMoveS = some fa_laws_markOutMoveS := rfl
@[simp] theorem c_laws_markOutMoveS (args : List PV) (σ : List AObj) : callM fns (ev fns) i_laws_markOutMoveS args σ = ev fns i_laws_markOutMoveS args σ := by simp [callM, n_laws_markOutMoveS, fa_laws_markOutMoveS]
theorem n_laws_markOutMoveSS : fns i_laws_markOutMoveSS = some fa_laws_markOutMoveSS := rfl
@[simp] theorem c_laws_markOutMoveSS (args : List PV) (σ : List AObj) : callM fns (ev fns) i_laws_markOutMoveSS args σ = ev fns i_laws_markOutMoveSS args σ := by simp [callM, n_laws_markOutMoveSS, fa_laws_markOutMoveSS]
theorem n_laws_markOutMoveSSS : fns i_laws_markOutMoveSSS = some fa_laws_markOutMoveSSS := rfl
@[simp] theorem c_laws_markOutMoveSSS (args : List PV) (σ : List AObj) : callM fns (ev fns) i_laws_markOutMoveSSS args σ = ev fns i_laws_markOutMoveSSS args σ := by simp [callM, n_laws_markOutMoveSSS, fa_laws_markOutMoveSSS]
theorem n_laws_markRewriter : fns i_laws_markRewriter = some fa_laws_markRewriter := rfl
@[simp] theorem c_laws_markRewriter (args : List PV) (σ : List AObj) : callM fns (ev fns) i_laws_markRewriter args σ = ev fns i_laws_markRewriter args σ := by simp [callM, n_laws_markRewriter, fa_laws_markRewriter]
theorem n_laws_heldOutPushS : fns i_laws_heldOutPushS = some fa_laws_heldOutPushS := rfl
@[simp] theorem c_laws_heldOutPushS (args : List PV) (σ : List AObj) : callM fns (ev fns) i_laws_heldOutPushS args σ = callN fns i_laws_heldOutPushS args σ := callM_np n_laws_heldOutPushS rfl
theorem n_laws_heldOutPushSS : fns i_laws_heldOutPushSS = some fa_laws_heldOutPushSS := rfl
@[simp] theorem c_laws_heldOutPushSS (args : List PV) (σ : List AObj) : callM fns (ev fns) i_laws_heldOutPushSS args σ = callN fns i_laws_heldOutPushSS args σ := callM_np n_laws_heldOutPushSS rfl
theorem n_laws_heldOutMoveS : fns i_laws_heldOutMoveS = some fa_laws_heldOutMoveS := rfl
@[simp] theorem c_laws_heldOutMoveS (args : List PV) (σ : List AObj) : callM fns (ev fns) i_laws_heldOutMoveS args σ = callN fns i_laws_heldOutMoveS args σ := callM_np n_laws_heldOutMoveS rfl
theorem n_laws_heldOutMoveSS : fns i_laws_heldOutMoveSS = some fa_laws_heldOutMoveSS := rfl
@[simp] theorem c_laws_heldOutMoveSS (args : List PV) (σ : List AObj) : callM fns (ev fns) i_laws_heldOutMoveSS args σ = callN fns i_laws_heldOutMoveSS args σ := callM_np n_laws_heldOutMoveSS rfl
theorem n_laws_heldOutMoveSSS : fns i_laws_heldOutMoveSSS = some fa_laws_heldOutMoveSSS := rfl
@[simp] theorem c_laws_heldOutMoveSSS (args : List PV) (σ : List AObj) : callM fns (ev fns) i_laws_heldOutMoveSSS args σ = callN fns i_laws_heldOutMoveSSS args σ := callM_np n_laws_heldOutMoveSSS rfl
theorem n_laws_heldRewriter : fns i_laws_heldRewriter = some fa_laws_heldRewriter := rfl
@[simp] theorem c_laws_heldRewriter (args : List PV) (σ : List AObj) : callM fns (ev fns) i_laws_heldRewriter args σ = callN fns i_laws_heldRewriter args σ := callM_np n_laws_heldRewriter rfl
theorem n_spec_l06Plain : fns i_spec_l06Plain = some fa_spec_l06Plain := rfl
@[simp] theorem c_spec_l06Plain (args : List PV) (σ : List AObj) : callM fns (ev fns) i_spec_l06Plain args σ = callN fns i_spec_l06Plain args σ := callM_np n_spec_l06Plain rfl
theorem n_spec_UnwrapRewriter : fns i_spec_UnwrapRewriter = some fa_spec_UnwrapRewriter := rfl
@[simp] theorem c_spec_UnwrapRewriter (args : List PV) (σ : List AObj) : callM fns (ev fns) i_spec_UnwrapRewriter args σ = callN fns i_spec_UnwrapRewriter args σ := callM_np n_spec_UnwrapRewriter rfl
theorem n_impl_builtRewriter : fns i_impl_builtRewriter = some fa_impl_builtRewriter := rfl
@[simp] theorem c_impl_builtRewriter (args : List PV) (σ : List AObj) : callM fns (ev fns) i_impl_builtRewriter args σ = callN fns i_impl_builtRewriter args σ := callM_np n_impl_builtRewriter rfl
theorem n_impl_symbol : fns i_impl_symbol = some fa_impl_symbol := rfl
@[simp] theorem c_impl_symbol (args : List PV) (σ : List AObj) : callM fns (ev fns) i_impl_symbol args σ = callN fns i_impl_symbol args σ := callM_np n_impl_symbol rfl
theorem n_impl_UnwrapRewriter_1 : fns i_impl_UnwrapRewriter_1 = some fa_impl_UnwrapRewriter_1 := rfl
@[simp] theorem c_impl_UnwrapRewriter_1 (args : List PV) (σ : List AObj) : callM fns (ev fns) i_impl_UnwrapRewriter_1 args σ = callN fns i_impl_UnwrapRewriter_1 args σ := callM_np n_impl_UnwrapRewriter_1 rfl
theorem n_impl_UnwrapRewriter_2 : fns i_impl_UnwrapRewriter_2 = some fa_impl_UnwrapRewriter_2 := rfl
@[simp] theorem c_impl_UnwrapRewriter_2 (args : List PV) (σ : List AObj) : callM fns (ev fns) i_impl_UnwrapRewriter_2 args σ = callN fns i_impl_UnwrapRewriter_2 args σ := callM_np n_impl_UnwrapRewriter_2 rfl
theorem n_impl_UnwrapRewriter_3 : fns i_impl_UnwrapRewriter_3 = some fa_impl_UnwrapRewriter_3 := rfl
@[simp] theorem c_impl_UnwrapRewriter_3 (args : List PV) (σ : List AObj) : callM fns (ev fns) i_impl_UnwrapRewriter_3 args σ = callN fns i_impl_UnwrapRewriter_3 args σ := callM_np n_impl_UnwrapRewriter_3 rfl
theorem n_impl_UnwrapRewriter : fns i_impl_UnwrapRewriter = some fa_impl_UnwrapRewriter := rfl
@[simp] theorem c_impl_UnwrapRewriter (args : List PV) (σ : List AObj) : callM fns (ev fns) i_impl_UnwrapRewriter args σ = callN fns i_impl_UnwrapRewriter args σ := callM_np n_impl_UnwrapRewriter rfl
theorem n_laws_FnExactUnwrapRewriter : fns i_laws_FnExactUnwrapRewriter = some fa_laws_FnExactUnwrapRewriter := rfl
@[simp] theorem c_laws_FnExactUnwrapRewriter (args : List PV) (σ : List AObj) : callM fns (ev fns) i_laws_FnExactUnwrapRewriter args σ = callN fns i_laws_FnExactUnwrapRewriter args σ := callM_np n_laws_FnExactUnwrapRewriter rfl
theorem n_spec_l06Letter : fns i_spec_l06Letter = some fa_spec_l06Letter := rfl
@[simp] theorem c_spec_l06Letter (args : List PV) (σ : List AObj) : callM fns (ev fns) i_spec_l06Letter args σ = callN fns i_spec_l06Letter args σ := callM_np n_spec_l06Letter rfl
theorem n_spec_ThinRewriter : fns i_spec_ThinRewriter = some fa_spec_ThinRewriter := rfl
@[simp] theorem c_spec_ThinRewriter (args : List PV) (σ : List AObj) : callM fns (ev fns) i_spec_ThinRewriter args σ = callN fns i_spec_ThinRewriter args σ := callM_np n_spec_ThinRewriter rfl
theorem n_impl_ThinRewriter_1 : fns i_impl_ThinRewriter_1 = some fa_impl_ThinRewriter_1 := rfl
@[simp] theorem c_impl_ThinRewriter_1 (args : List PV) (σ : List AObj) : callM fns (ev fns) i_impl_ThinRewriter_1 args σ = callN fns i_impl_ThinRewriter_1 args σ := callM_np n_impl_ThinRewriter_1 rfl
theorem n_impl_ThinRewriter_2 : fns i_impl_ThinRewriter_2 = some fa_impl_ThinRewriter_2 := rfl
@[simp] theorem c_impl_ThinRewriter_2 (args : List PV) (σ : List AObj) : callM fns (ev fns) i_impl_ThinRewriter_2 args σ = callN fns i_impl_ThinRewriter_2 args σ := callM_np n_impl_ThinRewriter_2 rfl
theorem n_impl_ThinRewriter_3 : fns i_impl_ThinRewriter_3 = some fa_impl_ThinRewriter_3 := rfl
@[simp] theorem c_impl_ThinRewriter_3 (args : List PV) (σ : List AObj) : callM fns (ev fns) i_impl_ThinRewriter_3 args σ = callN fns i_impl_ThinRewriter_3 args σ := callM_np n_impl_ThinRewriter_3 rfl
theorem n_impl_ThinRewriter : fns i_impl_ThinRewriter = some fa_impl_ThinRewriter := rfl
@[simp] theorem c_impl_ThinRewriter (args : List PV) (σ : List AObj) : callM fns (ev fns) i_impl_ThinRewriter args σ = callN fns i_impl_ThinRewriter args σ := callM_np n_impl_ThinRewriter rfl
theorem n_laws_FnExactThinRewriter : fns i_laws_FnExactThinRewriter = some fa_laws_FnExactThinRewriter := rfl
@[simp] theorem c_laws_FnExactThinRewriter (args : List PV) (σ : List AObj) : callM fns (ev fns) i_laws_FnExactThinRewriter args σ = callN fns i_laws_FnExactThinRewriter args σ := callM_np n_laws_FnExactThinRewriter rfl
theorem n_spec_DropRewriter : fns i_spec_DropRewriter = some fa_spec_DropRewriter := rfl
@[simp] theorem c_spec_DropRewriter (args : List PV) (σ : List AObj) : callM fns (ev fns) i_spec_DropRewriter args σ = callN fns i_spec_DropRewriter args σ := callM_np n_spec_DropRewriter rfl
theorem n_impl_renaming_1 : fns i_impl_renaming_1 = some fa_impl_renaming_1 := rfl
@[simp] theorem c_impl_renaming_1 (args : List PV) (σ : List AObj) : callM fns (ev fns) i_impl_renaming_1 args σ = callN fns i_impl_renaming_1 args σ := callM_np n_impl_renaming_1 rfl
theorem n_impl_renaming_2 : fns i_impl_renaming_2 = some fa_impl_renaming_2 := rfl
@[simp] theorem c_impl_renaming_2 (args : List PV) (σ : List AObj) : callM fns (ev fns) i_impl_renaming_2 args σ = callN fns i_impl_renaming_2 args σ := callM_np n_impl_renaming_2 rfl
theorem n_impl_renaming_3 : fns i_impl_renaming_3 = some fa_impl_renaming_3 := rfl
@[simp] theorem c_impl_renaming_3 (args : List PV) (σ : List AObj) : callM fns (ev fns) i_impl_renaming_3 args σ = callN fns i_impl_renaming_3 args σ := callM_np n_impl_renaming_3 rfl
theorem n_impl_renaming : fns i_impl_renaming = some fa_impl_renaming := rfl
@[simp] theorem c_impl_renaming (args : List PV) (σ : List AObj) : callM fns (ev fns) i_impl_renaming args σ = callN fns i_impl_renaming args σ := callM_np n_impl_renaming rfl
theorem n_impl_DropRewriter_1 : fns i_impl_DropRewriter_1 = some fa_impl_DropRewriter_1 := rfl
@[simp] theorem c_impl_DropRewriter_1 (args : List PV) (σ : List AObj) : callM fns (ev fns) i_impl_DropRewriter_1 args σ = callN fns i_impl_DropRewriter_1 args σ := callM_np n_impl_DropRewriter_1 rfl
theorem n_impl_DropRewriter : fns i_impl_DropRewriter = some fa_impl_DropRewriter := rfl
@[simp] theorem c_impl_DropRewriter (args : List PV) (σ : List AObj) : callM fns (ev fns) i_impl_DropRewriter args σ = callN fns i_impl_DropRewriter args σ := callM_np n_impl_DropRewriter rfl
theorem n_laws_FnExactDropRewriter : fns i_laws_FnExactDropRewriter = some fa_laws_FnExactDropRewriter := rfl
@[simp] theorem c_laws_FnExactDropRewriter (args : List PV) (σ : List AObj) : callM fns (ev fns) i_laws_FnExactDropRewriter args σ = callN fns i_laws_FnExactDropRewriter args σ := callM_np n_laws_FnExactDropRewriter rfl
theorem n_laws_szOutPush : fns i_laws_szOutPush = some fa_laws_szOutPush := rfl
@[simp] theorem c_laws_szOutPush (args : List PV) (σ : List AObj) : callM fns (ev fns) i_laws_szOutPush args σ = callN fns i_laws_szOutPush args σ := callM_np n_laws_szOutPush rfl
theorem n_laws_szOutPushS : fns i_laws_szOutPushS = some fa_laws_szOutPushS := rfl
@[simp] theorem c_laws_szOutPushS (args : List PV) (σ : List AObj) : callM fns (ev fns) i_laws_szOutPushS args σ = callN fns i_laws_szOutPushS args σ := callM_np n_laws_szOutPushS rfl
theorem n_laws_szOutPushSS : fns i_laws_szOutPushSS = some fa_laws_szOutPushSS := rfl
@[simp] theorem c_laws_szOutPushSS (args : List PV) (σ : List AObj) : callM fns (ev fns) i_laws_szOutPushSS args σ = callN fns i_laws_szOutPushSS args σ := callM_np n_laws_szOutPushSS rfl
theorem n_laws_szOutMove : fns i_laws_szOutMove = some fa_laws_szOutMove := rfl
@[simp] theorem c_laws_szOutMove (args : List PV) (σ : List AObj) : callM fns (ev fns) i_laws_szOutMove args σ = callN fns i_laws_szOutMove args σ := callM_np n_laws_szOutMove rfl
theorem n_laws_szOutMoveS : fns i_laws_szOutMoveS = some fa_laws_szOutMoveS := rfl
@[simp] theorem c_laws_szOutMoveS (args : List PV) (σ : List AObj) : callM fns (ev fns) i_laws_szOutMoveS args σ = callN fns i_laws_szOutMoveS args σ := callM_np n_laws_szOutMoveS rfl
theorem n_laws_szOutMoveSS : fns i_laws_szOutMoveSS = some fa_laws_szOutMoveSS := rfl
@[simp] theorem c_laws_szOutMoveSS (args : List PV) (σ : List AObj) : callM fns (ev fns) i_laws_szOutMoveSS args σ = callN fns i_laws_szOutMoveSS args σ := callM_np n_laws_szOutMoveSS rfl
theorem n_laws_szOutMoveSSS : fns i_laws_szOutMoveSSS = some fa_laws_szOutMoveSSS := rfl
@[simp] theorem c_laws_szOutMoveSSS (args : List PV) (σ : List AObj) : callM fns (ev fns) i_laws_szOutMoveSSS args σ = callN fns i_laws_szOutMoveSSS args σ := callM_np n_laws_szOutMoveSSS rfl
theorem n_laws_szRewriter : fns i_laws_szRewriter = some fa_laws_szRewriter := rfl
@[simp] theorem c_laws_szRewriter (args : List PV) (σ : List AObj) : callM fns (ev fns) i_laws_szRewriter args σ = callN fns i_laws_szRewriter args σ := callM_np n_laws_szRewriter rfl
theorem n_spec_l06SameMoves : fns i_spec_l06SameMoves = some fa_spec_l06SameMoves := rfl
@[simp] theorem c_spec_l06SameMoves (args : List PV) (σ : List AObj) : callM fns (ev fns) i_spec_l06SameMoves args σ = callN fns i_spec_l06SameMoves args σ := callM_np n_spec_l06SameMoves rfl
theorem n_spec_SameRewriter : fns i_spec_SameRewriter = some fa_spec_SameRewriter := rfl
@[simp] theorem c_spec_SameRewriter (args : List PV) (σ : List AObj) : callM fns (ev fns) i_spec_SameRewriter args σ = callN fns i_spec_SameRewriter args σ := callM_np n_spec_SameRewriter rfl
theorem n_laws_toOutPush : fns i_laws_toOutPush = some fa_laws_toOutPush := rfl
@[simp] theorem c_laws_toOutPush (args : List PV) (σ : List AObj) : callM fns (ev fns) i_laws_toOutPush args σ = callN fns i_laws_toOutPush args σ := callM_np n_laws_toOutPush rfl
theorem n_laws_toOutPushS : fns i_laws_toOutPushS = some fa_laws_toOutPushS := rfl
@[simp] theorem c_laws_toOutPushS (args : List PV) (σ : List AObj) : callM fns (ev fns) i_laws_toOutPushS args σ = callN fns i_laws_toOutPushS args σ := callM_np n_laws_toOutPushS rfl
theorem n_laws_toOutPushSS : fns i_laws_toOutPushSS = some fa_laws_toOutPushSS := rfl
@[simp] theorem c_laws_toOutPushSS (args : List PV) (σ : List AObj) : callM fns (ev fns) i_laws_toOutPushSS args σ = callN fns i_laws_toOutPushSS args σ := callM_np n_laws_toOutPushSS rfl
theorem n_laws_toOutMove : fns i_laws_toOutMove = some fa_laws_toOutMove := rfl
@[simp] theorem c_laws_toOutMove (args : List PV) (σ : List AObj) : callM fns (ev fns) i_laws_toOutMove args σ = callN fns i_laws_toOutMove args σ := callM_np n_laws_toOutMove rfl
theorem n_laws_toOutMoveS : fns i_laws_toOutMoveS = some fa_laws_toOutMoveS := rfl
@[simp] theorem c_laws_toOutMoveS (args : List PV) (σ : List AObj) : callM fns (ev fns) i_laws_toOutMoveS args σ = callN fns i_laws_toOutMoveS args σ := callM_np n_laws_toOutMoveS rfl
theorem n_laws_toOutMoveSS : fns i_laws_toOutMoveSS = some fa_laws_toOutMoveSS := rfl
@[simp] theorem c_laws_toOutMoveSS (args : List PV) (σ : List AObj) : callM fns (ev fns) i_laws_toOutMoveSS args σ = callN fns i_laws_toOutMoveSS args σ := callM_np n_laws_toOutMoveSS rfl
theorem n_laws_toOutMoveSSS : fns i_laws_toOutMoveSSS = some fa_laws_toOutMoveSSS := rfl
@[simp] theorem c_laws_toOutMoveSSS (args : List PV) (σ : List AObj) : callM fns (ev fns) i_laws_toOutMoveSSS args σ = callN fns i_laws_toOutMoveSSS args σ := callM_np n_laws_toOutMoveSSS rfl
theorem n_laws_toRewriter : fns i_laws_toRewriter = some fa_laws_toRewriter := rfl
@[simp] theorem c_laws_toRewriter (args : List PV) (σ : List AObj) : callM fns (ev fns) i_laws_toRewriter args σ = callN fns i_laws_toRewriter args σ := callM_np n_laws_toRewriter rfl
theorem n_slices_EqualFunc_L_L_impl_OutMove : fns i_slices_EqualFunc_L_L_impl_OutMove = some fa_slices_EqualFunc_L_L_impl_OutMove := rfl
@[simp] theorem c_slices_EqualFunc_L_L_impl_OutMove (args : List PV) (σ : List AObj) : callM fns (ev fns) i_slices_EqualFunc_L_L_impl_OutMove args σ = callN fns i_slices_EqualFunc_L_L_impl_OutMove args σ := callM_np n_slices_EqualFunc_L_L_impl_OutMove rfl
theorem n_slices_Equal_L_impl_OutMove : fns i_slices_Equal_L_impl_OutMove = some fa_slices_Equal_L_impl_OutMove := rfl
@[simp] theorem c_slices_Equal_L_impl_OutMove (args : List PV) (σ : List AObj) : callM fns (ev fns) i_slices_Equal_L_impl_OutMove args σ = callN fns i_slices_Equal_L_impl_OutMove args σ := callM_np n_slices_Equal_L_impl_OutMove rfl
theorem n_impl_SameRewriter_1 : fns i_impl_SameRewriter_1 = some fa_impl_SameRewriter_1 := rfl
@[simp] theorem c_impl_SameRewriter_1 (args : List PV) (σ : List AObj) : callM fns (ev fns) i_impl_SameRewriter_1 args σ = callN fns i_impl_SameRewriter_1 args σ := callM_np n_impl_SameRewriter_1 rfl
theorem n_slices_EqualFunc_L_L_impl_OutPush : fns i_slices_EqualFunc_L_L_impl_OutPush = some fa_slices_EqualFunc_L_L_impl_OutPush := rfl
@[simp] theorem c_slices_EqualFunc_L_L_impl_OutPush (args : List PV) (σ : List AObj) : callM fns (ev fns) i_slices_EqualFunc_L_L_impl_OutPush args σ = callN fns i_slices_EqualFunc_L_L_impl_OutPush args σ := callM_np n_slices_EqualFunc_L_L_impl_OutPush rfl
theorem n_slices_Equal_L_impl_OutPush : fns i_slices_Equal_L_impl_OutPush = some fa_slices_Equal_L_impl_OutPush := rfl
@[simp] theorem c_slices_Equal_L_impl_OutPush (args : List PV) (σ : List AObj) : callM fns (ev fns) i_slices_Equal_L_impl_OutPush args σ = callN fns i_slices_Equal_L_impl_OutPush args σ := callM_np n_slices_Equal_L_impl_OutPush rfl
theorem n_slices_EqualFunc_L_L_L_impl_OutMove : fns i_slices_EqualFunc_L_L_L_impl_OutMove = some fa_slices_EqualFunc_L_L_L_impl_OutMove := rfl
@[simp] theorem c_slices_EqualFunc_L_L_L_impl_OutMove (args : List PV) (σ : List AObj) : callM fns (ev fns) i_slices_EqualFunc_L_L_L_impl_OutMove args σ = callN fns i_slices_EqualFunc_L_L_L_impl_OutMove args σ := callM_np n_slices_EqualFunc_L_L_L_impl_OutMove rfl
theorem n_impl_SameRewriter : fns i_impl_SameRewriter = some fa_impl_SameRewriter := rfl
@[simp] theorem c_impl_SameRewriter (args : List PV) (σ : List AObj) : callM fns (ev fns) i_impl_SameRewriter args σ = callN fns i_impl_SameRewriter args σ := callM_np n_impl_SameRewriter rfl
theorem n_laws_FnExactSameRewriter : fns i_laws_FnExactSameRewriter = some fa_laws_FnExactSameRewriter := rfl
@[simp] theorem c_laws_FnExactSameRewriter (args : List PV) (σ : List AObj) : callM fns (ev fns) i_laws_FnExactSameRewriter args σ = callN fns i_laws_FnExactSameRewriter args σ := callM_np n_laws_FnExactSameRewriter rfl
theorem n_spec_RenameRewriter : fns i_spec_RenameRewriter = some fa_spec_RenameRewriter := rfl
@[simp] theorem c_spec_RenameRewriter (args : List PV) (σ : List AObj) : callM fns (ev fns) i_spec_RenameRewriter args σ = callN fns i_spec_RenameRewriter args σ := callM_np n_spec_RenameRewriter rfl
theorem n_impl_isInner : fns i_impl_isInner = some fa_impl_isInner := rfl
@[simp] theorem c_impl_isInner (args : List PV) (σ : List AObj) : callM fns (ev fns) i_impl_isInner args σ = callN fns i_impl_isInner args σ := callM_np n_impl_isInner rfl
theorem n_impl_RenameRewriter_1 : fns i_impl_RenameRewriter_1 = some fa_impl_RenameRewriter_1 := rfl
@[simp] theorem c_impl_RenameRewriter_1 (args : List PV) (σ : List AObj) : callM fns (ev fns) i_impl_RenameRewriter_1 args σ = callN fns i_impl_RenameRewriter_1 args σ := callM_np n_impl_RenameRewriter_1 rfl
theorem n_impl_RenameRewriter : fns i_impl_RenameRewriter = some fa_impl_RenameRewriter := rfl
@[simp] theorem c_impl_RenameRewriter (args : List PV) (σ : List AObj) : callM fns (ev fns) i_impl_RenameRewriter args σ = callN fns i_impl_RenameRewriter args σ := callM_np n_impl_RenameRewriter rfl
theorem n_laws_FnExactRenameRewriter : fns i_laws_FnExactRenameRewriter = some fa_laws_FnExactRenameRewriter := rfl
@[simp] theorem c_laws_FnExactRenameRewriter (args : List PV) (σ : List AObj) : callM fns (ev fns) i_laws_FnExactRenameRewriter args σ = callN fns i_laws_FnExactRenameRewriter args σ := callM_np n_laws_FnExactRenameRewriter rfl
theorem n_spec_l06Given : fns i_spec_l06Given = some fa_spec_l06Given := rfl
@[simp] theorem c_spec_l06Given (args : List PV) (σ : List AObj) : callM fns (ev fns) i_spec_l06Given args σ = callN fns i_spec_l06Given args σ := callM_np n_spec_l06Given rfl
theorem n_spec_l01Told : fns i_spec_l01Told = some fa_spec_l01Told := rfl
@[simp] theorem c_spec_l01Told (args : List PV) (σ : List AObj) : callM fns (ev fns) i_spec_l01Told args σ = callN fns i_spec_l01Told args σ := callM_np n_spec_l01Told rfl
theorem n_spec_PutAt : fns i_spec_PutAt = some fa_spec_PutAt := rfl
@[simp] theorem c_spec_PutAt (args : List PV) (σ : List AObj) : callM fns (ev fns) i_spec_PutAt args σ = callN fns i_spec_PutAt args σ := callM_np n_spec_PutAt rfl
theorem n_spec_l01Closed : fns i_spec_l01Closed = some fa_spec_l01Closed := rfl
@[simp] theorem c_spec_l01Closed (args : List PV) (σ : List AObj) : callM fns (ev fns) i_spec_l01Closed args σ = callN fns i_spec_l01Closed args σ := callM_np n_spec_l01Closed rfl
theorem n_spec_CutMatched : fns i_spec_CutMatched = some fa_spec_CutMatched := rfl
@[simp] theorem c_spec_CutMatched (args : List PV) (σ : List AObj) : callM fns (ev fns) i_spec_CutMatched args σ = callN fns i_spec_CutMatched args σ := callM_np n_spec_CutMatched rfl
theorem n_spec_l06Made : fns i_spec_l06Made = some fa_spec_l06Made := rfl
@[simp] theorem c_spec_l06Made (args : List PV) (σ : List AObj) : callM fns (ev fns) i_spec_l06Made args σ = callN fns i_spec_l06Made args σ := callM_np n_spec_l06Made rfl
theorem n_spec_EditTree : fns i_spec_EditTree = some fa_spec_EditTree := rfl
@[simp] theorem c_spec_EditTree (args : List PV) (σ : List AObj) : callM fns (ev fns) i_spec_EditTree args σ = callN fns i_spec_EditTree args σ := callM_np n_spec_EditTree rfl
theorem n_impl_orLimit : fns i_impl_orLimit = some fa_impl_orLimit := rfl
@[simp] theorem c_impl_orLimit (args : List PV) (σ : List AObj) : callM fns (ev fns) i_impl_orLimit args σ = callN fns i_impl_orLimit args σ := callM_np n_impl_orLimit rfl
theorem n_impl_PutAt : fns i_impl_PutAt = some fa_impl_PutAt := rfl
@[simp] theorem c_impl_PutAt (args : List PV) (σ : List AObj) : callM fns (ev fns) i_impl_PutAt args σ = callN fns i_impl_PutAt args σ := callM_np n_impl_PutAt rfl
theorem n_impl_bodyAt : fns i_impl_bodyAt = some fa_impl_bodyAt := rfl
@[simp] theorem c_impl_bodyAt (args : List PV) (σ : List AObj) : callM fns (ev fns) i_impl_bodyAt args σ = callN fns i_impl_bodyAt args σ := callM_np n_impl_bodyAt rfl
theorem n_impl_CutMatched : fns i_impl_CutMatched = some fa_impl_CutMatched := rfl
@[simp] theorem c_impl_CutMatched (args : List PV) (σ : List AObj) : callM fns (ev fns) i_impl_CutMatched args σ = callN fns i_impl_CutMatched args σ := callM_np n_impl_CutMatched rfl
theorem n_impl_editTree : fns i_impl_editTree = some fa_impl_editTree := rfl
@[simp] theorem c_impl_editTree (args : List PV) (σ : List AObj) : callM fns (ev fns) i_impl_editTree args σ = callN fns i_impl_editTree args σ := callM_np n_impl_editTree rfl
theorem n_impl_EditTree : fns i_impl_EditTree = some fa_impl_EditTree := rfl
@[simp] theorem c_impl_EditTree (args : List PV) (σ : List AObj) : callM fns (ev fns) i_impl_EditTree args σ = callN fns i_impl_EditTree args σ := callM_np n_impl_EditTree rfl
theorem n_laws_FnExactEditTree : fns i_laws_FnExactEditTree = some fa_laws_FnExactEditTree := rfl
@[simp] theorem c_laws_FnExactEditTree (args : List PV) (σ : List AObj) : callM fns (ev fns) i_laws_FnExactEditTree args σ = callN fns i_laws_FnExactEditTree args σ := callM_np n_laws_FnExactEditTree rfl
@[simp] theorem nt_laws_szLink : fa_laws_szLink.nt = 13 := rfl
@[simp] theorem rs_laws_szLink : fa_laws_szLink.rs = [.tmp 4] := rfl
@[simp] theorem fz_laws_szLink : fa_laws_szLink.fz = true := rfl
theorem go_laws_szLink {args : List PV} {σ : List AObj} {r : PV × List AObj} (hl : args.length ≤ 13) (h : rE fns fa_laws_szLink σ.length [.code ac_laws_szLink] (frA 0 args) σ = some r) : ev fns i_laws_szLink args σ = some r := ev_go n_laws_szLink hl h
@[simp] theorem nt_laws_szLinkS : fa_laws_szLinkS.nt = 27 := rfl
@[simp] theorem rs_laws_szLinkS : fa_laws_szLinkS.rs = [.tmp 4] := rfl
@[simp] theorem fz_laws_szLinkS : fa_laws_szLinkS.fz = true := rfl
theorem go_laws_szLinkS {args : List PV} {σ : List AObj} {r : PV × List AObj} (hl : args.length ≤ 27) (h : rE fns fa_laws_szLinkS σ.length [.code ac_laws_szLinkS] (frA 0 args) σ = some r) : ev fns i_laws_szLinkS args σ = some r := ev_go n_laws_szLinkS hl h
theorem l_laws_szLinkS_0 {ks : List KI} {l : Fr} {σ : List AObj} {n0 : Nat} : rE fns fa_laws_szLinkS n0 (.code lo_laws_szLinkS_0 :: ks) l σ = rE fns fa_laws_szLinkS n0 (.code lb_laws_szLinkS_0 :: .code lo_laws_szLinkS_0 :: ks) l σ := rE_loop
@[simp] theorem nt_laws_szModule : fa_laws_szModule.nt = 12 := rfl
@[simp] theorem rs_laws_szModule : fa_laws_szModule.rs = [.tmp 4] := rfl
@[simp] theorem fz_laws_szModule : fa_laws_szModule.fz = true := rfl
theorem go_laws_szModule {args : List PV} {σ : List AObj} {r : PV × List AObj} (hl : args.length ≤ 12) (h : rE fns fa_laws_szModule σ.length [.code ac_laws_szModule] (frA 0 args) σ = some r) : ev fns i_laws_szModule args σ = some r := ev_go n_laws_szModule hl h
@[simp] theorem nt_laws_szModuleS : fa_laws_szModuleS.nt = 27 := rfl
@[simp] theorem rs_laws_szModuleS : fa_laws_szModuleS.rs = [.tmp 4] := rfl
@[simp] theorem fz_laws_szModuleS : fa_laws_szModuleS.fz = true := rfl
theorem go_laws_szModuleS {args : List PV} {σ : List AObj} {r : PV × List AObj} (hl : args.length ≤ 27) (h : rE fns fa_laws_szModuleS σ.length [.code ac_laws_szModuleS] (frA 0 args) σ = some r) : ev fns i_laws_szModuleS args σ = some r := ev_go n_laws_szModuleS hl h
theorem l_laws_szModuleS_0 {ks : List KI} {l : Fr} {σ : List AObj} {n0 : Nat} : rE fns fa_laws_szModuleS n0 (.code lo_laws_szModuleS_0 :: ks) l σ = rE fns fa_laws_szModuleS n0 (.code lb_laws_szModuleS_0 :: .code lo_laws_szModuleS_0 :: ks) l σ := rE_loop
@[simp] theorem nt_laws_szProgram : fa_laws_szProgram.nt = 12 := rfl
@[simp] theorem rs_laws_szProgram : fa_laws_szProgram.rs = [.tmp 4] := rfl
@[simp] theorem fz_laws_szProgram : fa_laws_szProgram.fz = true := rfl
theorem go_laws_szProgram {args : List PV} {σ : List AObj} {r : PV × List AObj} (hl : args.length ≤ 12) (h : rE fns fa_laws_szProgram σ.length [.code ac_laws_szProgram] (frA 0 args) σ = some r) : ev fns i_laws_szProgram args σ = some r := ev_go n_laws_szProgram hl h
@[simp] theorem nt_spec_SameProgram : fa_spec_SameProgram.nt = 81 := rfl
@[simp] theorem rs_spec_SameProgram : fa_spec_SameProgram.rs = [.tmp 4] := rfl
@[simp] theorem fz_spec_SameProgram : fa_spec_SameProgram.fz = true := rfl
theorem go_spec_SameProgram {args : List PV} {σ : List AObj} {r : PV × List AObj} (hl : args.length ≤ 81) (h : rE fns fa_spec_SameProgram σ.length [.code ac_spec_SameProgram] (frA 0 args) σ = some r) : ev fns i_spec_SameProgram args σ = some r := ev_go n_spec_SameProgram hl h
theorem l_spec_SameProgram_0 {ks : List KI} {l : Fr} {σ : List AObj} {n0 : Nat} : rE fns fa_spec_SameProgram n0 (.code lo_spec_SameProgram_0 :: ks) l σ = rE fns fa_spec_SameProgram n0 (.code lb_spec_SameProgram_0 :: .code lo_spec_SameProgram_0 :: ks) l σ := rE_loop
theorem l_spec_SameProgram_1 {ks : List KI} {l : Fr} {σ : List AObj} {n0 : Nat} : rE fns fa_spec_SameProgram n0 (.code lo_spec_SameProgram_1 :: ks) l σ = rE fns fa_spec_SameProgram n0 (.code lb_spec_SameProgram_1 :: .code lo_spec_SameProgram_1 :: ks) l σ := rE_loop
@[simp] theorem nt_laws_toLink : fa_laws_toLink.nt = 17 := rfl
@[simp] theorem rs_laws_toLink : fa_laws_toLink.rs = [.cell 2 4 true] := rfl
@[simp] theorem fz_laws_toLink : fa_laws_toLink.fz = true := rfl
theorem go_laws_toLink {args : List PV} {σ : List AObj} {r : PV × List AObj} (hl : args.length ≤ 17) (h : rE fns fa_laws_toLink σ.length [.code ac_laws_toLink] (frA 0 args) σ = some r) : ev fns i_laws_toLink args σ = some r := ev_go n_laws_toLink hl h
@[simp] theorem nt_laws_toLinkS : fa_laws_toLinkS.nt = 23 := rfl
@[simp] theorem rs_laws_toLinkS : fa_laws_toLinkS.rs = [.tmp 2] := rfl
@[simp] theorem fz_laws_toLinkS : fa_laws_toLinkS.fz = true := rfl
theorem go_laws_toLinkS {args : List PV} {σ : List AObj} {r : PV × List AObj} (hl : args.length ≤ 23) (h : rE fns fa_laws_toLinkS σ.length [.code ac_laws_toLinkS] (frA 0 args) σ = some r) : ev fns i_laws_toLinkS args σ = some r := ev_go n_laws_toLinkS hl h
theorem l_laws_toLinkS_0 {ks : List KI} {l : Fr} {σ : List AObj} {n0 : Nat} : rE fns fa_laws_toLinkS n0 (.code lo_laws_toLinkS_0 :: ks) l σ = rE fns fa_laws_toLinkS n0 (.code lb_laws_toLinkS_0 :: .code lo_laws_toLinkS_0 :: ks) l σ := rE_loop
@[simp] theorem nt_laws_toModule : fa_laws_toModule.nt = 12 := rfl
@[simp] theorem rs_laws_toModule : fa_laws_toModule.rs = [.cell 2 2 true] := rfl
@[simp] theorem fz_laws_toModule : fa_laws_toModule.fz = true := rfl
theorem go_laws_toModule {args : List PV} {σ : List AObj} {r : PV × List AObj} (hl : args.length ≤ 12) (h : rE fns fa_laws_toModule σ.length [.code ac_laws_toModule] (frA 0 args) σ = some r) : ev fns i_laws_toModule args σ = some r := ev_go n_laws_toModule hl h
@[simp] theorem nt_laws_toModuleS : fa_laws_toModuleS.nt = 23 := rfl
@[simp] theorem rs_laws_toModuleS : fa_laws_toModuleS.rs = [.tmp 2] := rfl
@[simp] theorem fz_laws_toModuleS : fa_laws_toModuleS.fz = true := rfl
theorem go_laws_toModuleS {args : List PV} {σ : List AObj} {r : PV × List AObj} (hl : args.length ≤ 23) (h : rE fns fa_laws_toModuleS σ.length [.code ac_laws_toModuleS] (frA 0 args) σ = some r) : ev fns i_laws_toModuleS args σ = some r := ev_go n_laws_toModuleS hl h
theorem l_laws_toModuleS_0 {ks : List KI} {l : Fr} {σ : List AObj} {n0 : Nat} : rE fns fa_laws_toModuleS n0 (.code lo_laws_toModuleS_0 :: ks) l σ = rE fns fa_laws_toModuleS n0 (.code lb_laws_toModuleS_0 :: .code lo_laws_toModuleS_0 :: ks) l σ := rE_loop
@[simp] theorem nt_laws_toProgram : fa_laws_toProgram.nt = 9 := rfl
@[simp] theorem rs_laws_toProgram : fa_laws_toProgram.rs = [.cell 2 1 true] := rfl
@[simp] theorem fz_laws_toProgram : fa_laws_toProgram.fz = true := rfl
theorem go_laws_toProgram {args : List PV} {σ : List AObj} {r : PV × List AObj} (hl : args.length ≤ 9) (h : rE fns fa_laws_toProgram σ.length [.code ac_laws_toProgram] (frA 0 args) σ = some r) : ev fns i_laws_toProgram args σ = some r := ev_go n_laws_toProgram hl h
@[simp] theorem nt_slices_EqualFunc_L_impl_Module : fa_slices_EqualFunc_L_impl_Module.nt = 32 := rfl
@[simp] theorem rs_slices_EqualFunc_L_impl_Module : fa_slices_EqualFunc_L_impl_Module.rs = [.tmp 6] := rfl
@[simp] theorem fz_slices_EqualFunc_L_impl_Module : fa_slices_EqualFunc_L_impl_Module.fz = true := rfl
theorem go_slices_EqualFunc_L_impl_Module {args : List PV} {σ : List AObj} {r : PV × List AObj} (hl : args.length ≤ 32) (h : rE fns fa_slices_EqualFunc_L_impl_Module σ.length [.code ac_slices_EqualFunc_L_impl_Module] (frA 0 args) σ = some r) : ev fns i_slices_EqualFunc_L_impl_Module args σ = some r := ev_go n_slices_EqualFunc_L_impl_Module hl h
theorem l_slices_EqualFunc_L_impl_Module_0 {ks : List KI} {l : Fr} {σ : List AObj} {n0 : Nat} : rE fns fa_slices_EqualFunc_L_impl_Module n0 (.code lo_slices_EqualFunc_L_impl_Module_0 :: ks) l σ = rE fns fa_slices_EqualFunc_L_impl_Module n0 (.code lb_slices_EqualFunc_L_impl_Module_0 :: .code lo_slices_EqualFunc_L_impl_Module_0 :: ks) l σ := rE_loop
@[simp] theorem nt_slices_Equal_L_impl_Link : fa_slices_Equal_L_impl_Link.nt = 26 := rfl
@[simp] theorem rs_slices_Equal_L_impl_Link : fa_slices_Equal_L_impl_Link.rs = [.tmp 4] := rfl
@[simp] theorem fz_slices_Equal_L_impl_Link : fa_slices_Equal_L_impl_Link.fz = true := rfl
theorem go_slices_Equal_L_impl_Link {args : List PV} {σ : List AObj} {r : PV × List AObj} (hl : args.length ≤ 26) (h : rE fns fa_slices_Equal_L_impl_Link σ.length [.code ac_slices_Equal_L_impl_Link] (frA 0 args) σ = some r) : ev fns i_slices_Equal_L_impl_Link args σ = some r := ev_go n_slices_Equal_L_impl_Link hl h
theorem l_slices_Equal_L_impl_Link_0 {ks : List KI} {l : Fr} {σ : List AObj} {n0 : Nat} : rE fns fa_slices_Equal_L_impl_Link n0 (.code lo_slices_Equal_L_impl_Link_0 :: ks) l σ = rE fns fa_slices_Equal_L_impl_Link n0 (.code lb_slices_Equal_L_impl_Link_0 :: .code lo_slices_Equal_L_impl_Link_0 :: ks) l σ := rE_loop
@[simp] theorem nt_impl_SameProgram_1 : fa_impl_SameProgram_1.nt = 17 := rfl
@[simp] theorem rs_impl_SameProgram_1 : fa_impl_SameProgram_1.rs = [.tmp 4] := rfl
@[simp] theorem fz_impl_SameProgram_1 : fa_impl_SameProgram_1.fz = true := rfl
theorem go_impl_SameProgram_1 {args : List PV} {σ : List AObj} {r : PV × List AObj} (hl : args.length ≤ 17) (h : rE fns fa_impl_SameProgram_1 σ.length [.code ac_impl_SameProgram_1] (frA 0 args) σ = some r) : ev fns i_impl_SameProgram_1 args σ = some r := ev_go n_impl_SameProgram_1 hl h
@[simp] theorem nt_impl_SameProgram : fa_impl_SameProgram.nt = 10 := rfl
@[simp] theorem rs_impl_SameProgram : fa_impl_SameProgram.rs = [.tmp 4] := rfl
@[simp] theorem fz_impl_SameProgram : fa_impl_SameProgram.fz = true := rfl
theorem go_impl_SameProgram {args : List PV} {σ : List AObj} {r : PV × List AObj} (hl : args.length ≤ 10) (h : rE fns fa_impl_SameProgram σ.length [.code ac_impl_SameProgram] (frA 0 args) σ = some r) : ev fns i_impl_SameProgram args σ = some r := ev_go n_impl_SameProgram hl h
@[simp] theorem nt_laws_eqLink : fa_laws_eqLink.nt = 25 := rfl
@[simp] theorem rs_laws_eqLink : fa_laws_eqLink.rs = [.tmp 4] := rfl
@[simp] theorem fz_laws_eqLink : fa_laws_eqLink.fz = true := rfl
theorem go_laws_eqLink {args : List PV} {σ : List AObj} {r : PV × List AObj} (hl : args.length ≤ 25) (h : rE fns fa_laws_eqLink σ.length [.code ac_laws_eqLink] (frA 0 args) σ = some r) : ev fns i_laws_eqLink args σ = some r := ev_go n_laws_eqLink hl h
@[simp] theorem nt_laws_eqLinkS : fa_laws_eqLinkS.nt = 27 := rfl
@[simp] theorem rs_laws_eqLinkS : fa_laws_eqLinkS.rs = [.tmp 4] := rfl
@[simp] theorem fz_laws_eqLinkS : fa_laws_eqLinkS.fz = true := rfl
theorem go_laws_eqLinkS {args : List PV} {σ : List AObj} {r : PV × List AObj} (hl : args.length ≤ 27) (h : rE fns fa_laws_eqLinkS σ.length [.code ac_laws_eqLinkS] (frA 0 args) σ = some r) : ev fns i_laws_eqLinkS args σ = some r := ev_go n_laws_eqLinkS hl h
theorem l_laws_eqLinkS_0 {ks : List KI} {l : Fr} {σ : List AObj} {n0 : Nat} : rE fns fa_laws_eqLinkS n0 (.code lo_laws_eqLinkS_0 :: ks) l σ = rE fns fa_laws_eqLinkS n0 (.code lb_laws_eqLinkS_0 :: .code lo_laws_eqLinkS_0 :: ks) l σ := rE_loop
@[simp] theorem nt_laws_eqModule : fa_laws_eqModule.nt = 16 := rfl
@[simp] theorem rs_laws_eqModule : fa_laws_eqModule.rs = [.tmp 4] := rfl
@[simp] theorem fz_laws_eqModule : fa_laws_eqModule.fz = true := rfl
theorem go_laws_eqModule {args : List PV} {σ : List AObj} {r : PV × List AObj} (hl : args.length ≤ 16) (h : rE fns fa_laws_eqModule σ.length [.code ac_laws_eqModule] (frA 0 args) σ = some r) : ev fns i_laws_eqModule args σ = some r := ev_go n_laws_eqModule hl h
@[simp] theorem nt_laws_eqModuleS : fa_laws_eqModuleS.nt = 27 := rfl
@[simp] theorem rs_laws_eqModuleS : fa_laws_eqModuleS.rs = [.tmp 4] := rfl
@[simp] theorem fz_laws_eqModuleS : fa_laws_eqModuleS.fz = true := rfl
theorem go_laws_eqModuleS {args : List PV} {σ : List AObj} {r : PV × List AObj} (hl : args.length ≤ 27) (h : rE fns fa_laws_eqModuleS σ.length [.code ac_laws_eqModuleS] (frA 0 args) σ = some r) : ev fns i_laws_eqModuleS args σ = some r := ev_go n_laws_eqModuleS hl h
theorem l_laws_eqModuleS_0 {ks : List KI} {l : Fr} {σ : List AObj} {n0 : Nat} : rE fns fa_laws_eqModuleS n0 (.code lo_laws_eqModuleS_0 :: ks) l σ = rE fns fa_laws_eqModuleS n0 (.code lb_laws_eqModuleS_0 :: .code lo_laws_eqModuleS_0 :: ks) l σ := rE_loop
@[simp] theorem nt_laws_eqProgram : fa_laws_eqProgram.nt = 11 := rfl
@[simp] theorem rs_laws_eqProgram : fa_laws_eqProgram.rs = [.tmp 4] := rfl
@[simp] theorem fz_laws_eqProgram : fa_laws_eqProgram.fz = true := rfl
theorem go_laws_eqProgram {args : List PV} {σ : List AObj} {r : PV × List AObj} (hl : args.length ≤ 11) (h : rE fns fa_laws_eqProgram σ.length [.code ac_laws_eqProgram] (frA 0 args) σ = some r) : ev fns i_laws_eqProgram args σ = some r := ev_go n_laws_eqProgram hl h
@[simp] theorem nt_laws_FnExactSameProgram : fa_laws_FnExactSameProgram.nt = 45 := rfl
@[simp] theorem rs_laws_FnExactSameProgram : fa_laws_FnExactSameProgram.rs = [.tmp 4] := rfl
@[simp] theorem fz_laws_FnExactSameProgram : fa_laws_FnExactSameProgram.fz = true := rfl
theorem go_laws_FnExactSameProgram {args : List PV} {σ : List AObj} {r : PV × List AObj} (hl : args.length ≤ 45) (h : rE fns fa_laws_FnExactSameProgram σ.length [.code ac_laws_FnExactSameProgram] (frA 0 args) σ = some r) : ev fns i_laws_FnExactSameProgram args σ = some r := ev_go n_laws_FnExactSameProgram hl h
@[simp] theorem nt_laws_szTreeEdit : fa_laws_szTreeEdit.nt = 13 := rfl
@[simp] theorem rs_laws_szTreeEdit : fa_laws_szTreeEdit.rs = [.tmp 4] := rfl
@[simp] theorem fz_laws_szTreeEdit : fa_laws_szTreeEdit.fz = true := rfl
theorem go_laws_szTreeEdit {args : List PV} {σ : List AObj} {r : PV × List AObj} (hl : args.length ≤ 13) (h : rE fns fa_laws_szTreeEdit σ.length [.code ac_laws_szTreeEdit] (frA 0 args) σ = some r) : ev fns i_laws_szTreeEdit args σ = some r := ev_go n_laws_szTreeEdit hl h
@[simp] theorem nt_spec_l01Symbol : fa_spec_l01Symbol.nt = 13 := rfl
@[simp] theorem rs_spec_l01Symbol : fa_spec_l01Symbol.rs = [.tmp 2] := rfl
@[simp] theorem fz_spec_l01Symbol : fa_spec_l01Symbol.fz = true := rfl
theorem go_spec_l01Symbol {args : List PV} {σ : List AObj} {r : PV × List AObj} (hl : args.length ≤ 13) (h : rE fns fa_spec_l01Symbol σ.length [.code ac_spec_l01Symbol] (frA 0 args) σ = some r) : ev fns i_spec_l01Symbol args σ = some r := ev_go n_spec_l01Symbol hl h
theorem l_spec_l01Symbol_0 {ks : List KI} {l : Fr} {σ : List AObj} {n0 : Nat} : rE fns fa_spec_l01Symbol n0 (.code lo_spec_l01Symbol_0 :: ks) l σ = rE fns fa_spec_l01Symbol n0 (.code lb_spec_l01Symbol_0 :: .code lo_spec_l01Symbol_0 :: ks) l σ := rE_loop
@[simp] theorem nt_spec_l01Ok : fa_spec_l01Ok.nt = 18 := rfl
@[simp] theorem rs_spec_l01Ok : fa_spec_l01Ok.rs = [.tmp 2] := rfl
@[simp] theorem fz_spec_l01Ok : fa_spec_l01Ok.fz = true := rfl
theorem go_spec_l01Ok {args : List PV} {σ : List AObj} {r : PV × List AObj} (hl : args.length ≤ 18) (h : rE fns fa_spec_l01Ok σ.length [.code ac_spec_l01Ok] (frA 0 args) σ = some r) : ev fns i_spec_l01Ok args σ = some r := ev_go n_spec_l01Ok hl h
theorem l_spec_l01Ok_0 {ks : List KI} {l : Fr} {σ : List AObj} {n0 : Nat} : rE fns fa_spec_l01Ok n0 (.code lo_spec_l01Ok_0 :: ks) l σ = rE fns fa_spec_l01Ok n0 (.code lb_spec_l01Ok_0 :: .code lo_spec_l01Ok_0 :: ks) l σ := rE_loop
@[simp] theorem nt_spec_l00In : fa_spec_l00In.nt = 15 := rfl
@[simp] theorem rs_spec_l00In : fa_spec_l00In.rs = [.tmp 6] := rfl
@[simp] theorem fz_spec_l00In : fa_spec_l00In.fz = true := rfl
theorem go_spec_l00In {args : List PV} {σ : List AObj} {r : PV × List AObj} (hl : args.length ≤ 15) (h : rE fns fa_spec_l00In σ.length [.code ac_spec_l00In] (frA 0 args) σ = some r) : ev fns i_spec_l00In args σ = some r := ev_go n_spec_l00In hl h
@[simp] theorem nt_spec_l01Call : fa_spec_l01Call.nt = 9 := rfl
@[simp] theorem rs_spec_l01Call : fa_spec_l01Call.rs = [.tmp 2] := rfl
@[simp] theorem fz_spec_l01Call : fa_spec_l01Call.fz = true := rfl
theorem go_spec_l01Call {args : List PV} {σ : List AObj} {r : PV × List AObj} (hl : args.length ≤ 9) (h : rE fns fa_spec_l01Call σ.length [.code ac_spec_l01Call] (frA 0 args) σ = some r) : ev fns i_spec_l01Call args σ = some r := ev_go n_spec_l01Call hl h
@[simp] theorem nt_spec_l01Return : fa_spec_l01Return.nt = 9 := rfl
@[simp] theorem rs_spec_l01Return : fa_spec_l01Return.rs = [.tmp 2] := rfl
@[simp] theorem fz_spec_l01Return : fa_spec_l01Return.fz = true := rfl
theorem go_spec_l01Return {args : List PV} {σ : List AObj} {r : PV × List AObj} (hl : args.length ≤ 9) (h : rE fns fa_spec_l01Return σ.length [.code ac_spec_l01Return] (frA 0 args) σ = some r) : ev fns i_spec_l01Return args σ = some r := ev_go n_spec_l01Return hl h
@[simp] theorem nt_spec_l01Partners : fa_spec_l01Partners.nt = 68 := rfl
@[simp] theorem rs_spec_l01Partners : fa_spec_l01Partners.rs = [.tmp 2] := rfl
@[simp] theorem fz_spec_l01Partners : fa_spec_l01Partners.fz = true := rfl
theorem go_spec_l01Partners {args : List PV} {σ : List AObj} {r : PV × List AObj} (hl : args.length ≤ 68) (h : rE fns fa_spec_l01Partners σ.length [.code ac_spec_l01Partners] (frA 0 args) σ = some r) : ev fns i_spec_l01Partners args σ = some r := ev_go n_spec_l01Partners hl h
theorem l_spec_l01Partners_0 {ks : List KI} {l : Fr} {σ : List AObj} {n0 : Nat} : rE fns fa_spec_l01Partners n0 (.code lo_spec_l01Partners_0 :: ks) l σ = rE fns fa_spec_l01Partners n0 (.code lb_spec_l01Partners_0 :: .code lo_spec_l01Partners_0 :: ks) l σ := rE_loop
@[simp] theorem nt_spec_l01Pending : fa_spec_l01Pending.nt = 44 := rfl
@[simp] theorem rs_spec_l01Pending : fa_spec_l01Pending.rs = [.tmp 2, .tmp 3] := rfl
@[simp] theorem fz_spec_l01Pending : fa_spec_l01Pending.fz = true := rfl
theorem go_spec_l01Pending {args : List PV} {σ : List AObj} {r : PV × List AObj} (hl : args.length ≤ 44) (h : rE fns fa_spec_l01Pending σ.length [.code ac_spec_l01Pending] (frA 0 args) σ = some r) : ev fns i_spec_l01Pending args σ = some r := ev_go n_spec_l01Pending hl h
theorem l_spec_l01Pending_0 {ks : List KI} {l : Fr} {σ : List AObj} {n0 : Nat} : rE fns fa_spec_l01Pending n0 (.code lo_spec_l01Pending_0 :: ks) l σ = rE fns fa_spec_l01Pending n0 (.code lb_spec_l01Pending_0 :: .code lo_spec_l01Pending_0 :: ks) l σ := rE_loop
@[simp] theorem nt_spec_l01Matched : fa_spec_l01Matched.nt = 14 := rfl
@[simp] theorem rs_spec_l01Matched : fa_spec_l01Matched.rs = [.tmp 2] := rfl
@[simp] theorem fz_spec_l01Matched : fa_spec_l01Matched.fz = true := rfl
theorem go_spec_l01Matched {args : List PV} {σ : List AObj} {r : PV × List AObj} (hl : args.length ≤ 14) (h : rE fns fa_spec_l01Matched σ.length [.code ac_spec_l01Matched] (frA 0 args) σ = some r) : ev fns i_spec_l01Matched args σ = some r := ev_go n_spec_l01Matched hl h
@[simp] theorem nt_spec_l06Brackets : fa_spec_l06Brackets.nt = 16 := rfl
@[simp] theorem rs_spec_l06Brackets : fa_spec_l06Brackets.rs = [.tmp 2] := rfl
@[simp] theorem fz_spec_l06Brackets : fa_spec_l06Brackets.fz = true := rfl
theorem go_spec_l06Brackets {args : List PV} {σ : List AObj} {r : PV × List AObj} (hl : args.length ≤ 16) (h : rE fns fa_spec_l06Brackets σ.length [.code ac_spec_l06Brackets] (frA 0 args) σ = some r) : ev fns i_spec_l06Brackets args σ = some r := ev_go n_spec_l06Brackets hl h
@[simp] theorem nt_spec_l06Edit : fa_spec_l06Edit.nt = 70 := rfl
@[simp] theorem rs_spec_l06Edit : fa_spec_l06Edit.rs = [.tmp 2] := rfl
@[simp] theorem fz_spec_l06Edit : fa_spec_l06Edit.fz = true := rfl
theorem go_spec_l06Edit {args : List PV} {σ : List AObj} {r : PV × List AObj} (hl : args.length ≤ 70) (h : rE fns fa_spec_l06Edit σ.length [.code ac_spec_l06Edit] (frA 0 args) σ = some r) : ev fns i_spec_l06Edit args σ = some r := ev_go n_spec_l06Edit hl h
@[simp] theorem nt_spec_ValidTreeEdit : fa_spec_ValidTreeEdit.nt = 4 := rfl
@[simp] theorem rs_spec_ValidTreeEdit : fa_spec_ValidTreeEdit.rs = [.tmp 2] := rfl
@[simp] theorem fz_spec_ValidTreeEdit : fa_spec_ValidTreeEdit.fz = true := rfl
theorem go_spec_ValidTreeEdit {args : List PV} {σ : List AObj} {r : PV × List AObj} (hl : args.length ≤ 4) (h : rE fns fa_spec_ValidTreeEdit σ.length [.code ac_spec_ValidTreeEdit] (frA 0 args) σ = some r) : ev fns i_spec_ValidTreeEdit args σ = some r := ev_go n_spec_ValidTreeEdit hl h
@[simp] theorem nt_laws_toTreeEdit : fa_laws_toTreeEdit.nt = 17 := rfl
@[simp] theorem rs_laws_toTreeEdit : fa_laws_toTreeEdit.rs = [.cell 2 4 true] := rfl
@[simp] theorem fz_laws_toTreeEdit : fa_laws_toTreeEdit.fz = true := rfl
theorem go_laws_toTreeEdit {args : List PV} {σ : List AObj} {r : PV × List AObj} (hl : args.length ≤ 17) (h : rE fns fa_laws_toTreeEdit σ.length [.code ac_laws_toTreeEdit] (frA 0 args) σ = some r) : ev fns i_laws_toTreeEdit args σ = some r := ev_go n_laws_toTreeEdit hl h
@[simp] theorem nt_impl_treeFormOf : fa_impl_treeFormOf.nt = 21 := rfl
@[simp] theorem rs_impl_treeFormOf : fa_impl_treeFormOf.rs = [.cell 2 3 true, .tmp 3] := rfl
@[simp] theorem fz_impl_treeFormOf : fa_impl_treeFormOf.fz = true := rfl
theorem go_impl_treeFormOf {args : List PV} {σ : List AObj} {r : PV × List AObj} (hl : args.length ≤ 21) (h : rE fns fa_impl_treeFormOf σ.length [.code ac_impl_treeFormOf] (frA 0 args) σ = some r) : ev fns i_impl_treeFormOf args σ = some r := ev_go n_impl_treeFormOf hl h
@[simp] theorem nt_impl_within : fa_impl_within.nt = 15 := rfl
@[simp] theorem rs_impl_within : fa_impl_within.rs = [.tmp 6] := rfl
@[simp] theorem fz_impl_within : fa_impl_within.fz = true := rfl
theorem go_impl_within {args : List PV} {σ : List AObj} {r : PV × List AObj} (hl : args.length ≤ 15) (h : rE fns fa_impl_within σ.length [.code ac_impl_within] (frA 0 args) σ = some r) : ev fns i_impl_within args σ = some r := ev_go n_impl_within hl h
@[simp] theorem nt_internal_stringslite_IndexByte : fa_internal_stringslite_IndexByte.nt = 8 := rfl
@[simp] theorem rs_internal_stringslite_IndexByte : fa_internal_stringslite_IndexByte.rs = [.tmp 4] := rfl
@[simp] theorem fz_internal_stringslite_IndexByte : fa_internal_stringslite_IndexByte.fz = true := rfl
theorem go_internal_stringslite_IndexByte {args : List PV} {σ : List AObj} {r : PV × List AObj} (hl : args.length ≤ 8) (h : rE fns fa_internal_stringslite_IndexByte σ.length [.code ac_internal_stringslite_IndexByte] (frA 0 args) σ = some r) : ev fns i_internal_stringslite_IndexByte args σ = some r := ev_go n_internal_stringslite_IndexByte hl h
@[simp] theorem nt_strings_IndexByte : fa_strings_IndexByte.nt = 8 := rfl
@[simp] theorem rs_strings_IndexByte : fa_strings_IndexByte.rs = [.tmp 4] := rfl
@[simp] theorem fz_strings_IndexByte : fa_strings_IndexByte.fz = true := rfl
theorem go_strings_IndexByte {args : List PV} {σ : List AObj} {r : PV × List AObj} (hl : args.length ≤ 8) (h : rE fns fa_strings_IndexByte σ.length [.code ac_strings_IndexByte] (frA 0 args) σ = some r) : ev fns i_strings_IndexByte args σ = some r := ev_go n_strings_IndexByte hl h
@[simp] theorem nt_impl_ValidWord : fa_impl_ValidWord.nt = 18 := rfl
@[simp] theorem rs_impl_ValidWord : fa_impl_ValidWord.rs = [.tmp 2] := rfl
@[simp] theorem fz_impl_ValidWord : fa_impl_ValidWord.fz = true := rfl
theorem go_impl_ValidWord {args : List PV} {σ : List AObj} {r : PV × List AObj} (hl : args.length ≤ 18) (h : rE fns fa_impl_ValidWord σ.length [.code ac_impl_ValidWord] (frA 0 args) σ = some r) : ev fns i_impl_ValidWord args σ = some r := ev_go n_impl_ValidWord hl h
theorem l_impl_ValidWord_0 {ks : List KI} {l : Fr} {σ : List AObj} {n0 : Nat} : rE fns fa_impl_ValidWord n0 (.code lo_impl_ValidWord_0 :: ks) l σ = rE fns fa_impl_ValidWord n0 (.code lb_impl_ValidWord_0 :: .code lo_impl_ValidWord_0 :: ks) l σ := rE_loop
@[simp] theorem nt_impl_isCall : fa_impl_isCall.nt = 9 := rfl
@[simp] theorem rs_impl_isCall : fa_impl_isCall.rs = [.tmp 2] := rfl
@[simp] theorem fz_impl_isCall : fa_impl_isCall.fz = true := rfl
theorem go_impl_isCall {args : List PV} {σ : List AObj} {r : PV × List AObj} (hl : args.length ≤ 9) (h : rE fns fa_impl_isCall σ.length [.code ac_impl_isCall] (frA 0 args) σ = some r) : ev fns i_impl_isCall args σ = some r := ev_go n_impl_isCall hl h
@[simp] theorem nt_impl_isReturn : fa_impl_isReturn.nt = 9 := rfl
@[simp] theorem rs_impl_isReturn : fa_impl_isReturn.rs = [.tmp 2] := rfl
@[simp] theorem fz_impl_isReturn : fa_impl_isReturn.fz = true := rfl
theorem go_impl_isReturn {args : List PV} {σ : List AObj} {r : PV × List AObj} (hl : args.length ≤ 9) (h : rE fns fa_impl_isReturn σ.length [.code ac_impl_isReturn] (frA 0 args) σ = some r) : ev fns i_impl_isReturn args σ = some r := ev_go n_impl_isReturn hl h
@[simp] theorem nt_impl_size_int64 : fa_impl_size_int64.nt = 5 := rfl
@[simp] theorem rs_impl_size_int64 : fa_impl_size_int64.rs = [.tmp 2] := rfl
@[simp] theorem fz_impl_size_int64 : fa_impl_size_int64.fz = true := rfl
theorem go_impl_size_int64 {args : List PV} {σ : List AObj} {r : PV × List AObj} (hl : args.length ≤ 5) (h : rE fns fa_impl_size_int64 σ.length [.code ac_impl_size_int64] (frA 0 args) σ = some r) : ev fns i_impl_size_int64 args σ = some r := ev_go n_impl_size_int64 hl h
@[simp] theorem nt_impl_match : fa_impl_match.nt = 101 := rfl
@[simp] theorem rs_impl_match : fa_impl_match.rs = [.cell 2 5 true] := rfl
@[simp] theorem fz_impl_match : fa_impl_match.fz = true := rfl
theorem go_impl_match {args : List PV} {σ : List AObj} {r : PV × List AObj} (hl : args.length ≤ 101) (h : rE fns fa_impl_match σ.length [.code ac_impl_match] (frA 0 args) σ = some r) : ev fns i_impl_match args σ = some r := ev_go n_impl_match hl h
theorem l_impl_match_0 {ks : List KI} {l : Fr} {σ : List AObj} {n0 : Nat} : rE fns fa_impl_match n0 (.code lo_impl_match_0 :: ks) l σ = rE fns fa_impl_match n0 (.code lb_impl_match_0 :: .code lo_impl_match_0 :: ks) l σ := rE_loop
@[simp] theorem nt_impl_isMatched : fa_impl_isMatched.nt = 14 := rfl
@[simp] theorem rs_impl_isMatched : fa_impl_isMatched.rs = [.tmp 2] := rfl
@[simp] theorem fz_impl_isMatched : fa_impl_isMatched.fz = true := rfl
theorem go_impl_isMatched {args : List PV} {σ : List AObj} {r : PV × List AObj} (hl : args.length ≤ 14) (h : rE fns fa_impl_isMatched σ.length [.code ac_impl_isMatched] (frA 0 args) σ = some r) : ev fns i_impl_isMatched args σ = some r := ev_go n_impl_isMatched hl h
@[simp] theorem nt_impl_isBrackets : fa_impl_isBrackets.nt = 16 := rfl
@[simp] theorem rs_impl_isBrackets : fa_impl_isBrackets.rs = [.tmp 2] := rfl
@[simp] theorem fz_impl_isBrackets : fa_impl_isBrackets.fz = true := rfl
theorem go_impl_isBrackets {args : List PV} {σ : List AObj} {r : PV × List AObj} (hl : args.length ≤ 16) (h : rE fns fa_impl_isBrackets σ.length [.code ac_impl_isBrackets] (frA 0 args) σ = some r) : ev fns i_impl_isBrackets args σ = some r := ev_go n_impl_isBrackets hl h
@[simp] theorem nt_impl_ValidTreeEdit : fa_impl_ValidTreeEdit.nt = 56 := rfl
@[simp] theorem rs_impl_ValidTreeEdit : fa_impl_ValidTreeEdit.rs = [.tmp 2] := rfl
@[simp] theorem fz_impl_ValidTreeEdit : fa_impl_ValidTreeEdit.fz = true := rfl
theorem go_impl_ValidTreeEdit {args : List PV} {σ : List AObj} {r : PV × List AObj} (hl : args.length ≤ 56) (h : rE fns fa_impl_ValidTreeEdit σ.length [.code ac_impl_ValidTreeEdit] (frA 0 args) σ = some r) : ev fns i_impl_ValidTreeEdit args σ = some r := ev_go n_impl_ValidTreeEdit hl h
@[simp] theorem nt_laws_FnExactValidTreeEdit : fa_laws_FnExactValidTreeEdit.nt = 20 := rfl
@[simp] theorem rs_laws_FnExactValidTreeEdit : fa_laws_FnExactValidTreeEdit.rs = [.tmp 2] := rfl
@[simp] theorem fz_laws_FnExactValidTreeEdit : fa_laws_FnExactValidTreeEdit.fz = true := rfl
theorem go_laws_FnExactValidTreeEdit {args : List PV} {σ : List AObj} {r : PV × List AObj} (hl : args.length ≤ 20) (h : rE fns fa_laws_FnExactValidTreeEdit σ.length [.code ac_laws_FnExactValidTreeEdit] (frA 0 args) σ = some r) : ev fns i_laws_FnExactValidTreeEdit args σ = some r := ev_go n_laws_FnExactValidTreeEdit hl h
@[simp] theorem nt_spec_l07Inner : fa_spec_l07Inner.nt = 9 := rfl
@[simp] theorem rs_spec_l07Inner : fa_spec_l07Inner.rs = [.tmp 2] := rfl
@[simp] theorem fz_spec_l07Inner : fa_spec_l07Inner.fz = true := rfl
theorem go_spec_l07Inner {args : List PV} {σ : List AObj} {r : PV × List AObj} (hl : args.length ≤ 9) (h : rE fns fa_spec_l07Inner σ.length [.code ac_spec_l07Inner] (frA 0 args) σ = some r) : ev fns i_spec_l07Inner args σ = some r := ev_go n_spec_l07Inner hl h
@[simp] theorem nt_spec_l07Ok : fa_spec_l07Ok.nt = 121 := rfl
@[simp] theorem rs_spec_l07Ok : fa_spec_l07Ok.rs = [.tmp 2] := rfl
@[simp] theorem fz_spec_l07Ok : fa_spec_l07Ok.fz = true := rfl
theorem go_spec_l07Ok {args : List PV} {σ : List AObj} {r : PV × List AObj} (hl : args.length ≤ 121) (h : rE fns fa_spec_l07Ok σ.length [.code ac_spec_l07Ok] (frA 0 args) σ = some r) : ev fns i_spec_l07Ok args σ = some r := ev_go n_spec_l07Ok hl h
theorem l_spec_l07Ok_0 {ks : List KI} {l : Fr} {σ : List AObj} {n0 : Nat} : rE fns fa_spec_l07Ok n0 (.code lo_spec_l07Ok_0 :: ks) l σ = rE fns fa_spec_l07Ok n0 (.code lb_spec_l07Ok_0 :: .code lo_spec_l07Ok_0 :: ks) l σ := rE_loop
theorem l_spec_l07Ok_1 {ks : List KI} {l : Fr} {σ : List AObj} {n0 : Nat} : rE fns fa_spec_l07Ok n0 (.code lo_spec_l07Ok_1 :: ks) l σ = rE fns fa_spec_l07Ok n0 (.code lb_spec_l07Ok_1 :: .code lo_spec_l07Ok_1 :: ks) l σ := rE_loop
@[simp] theorem nt_spec_ValidProgram : fa_spec_ValidProgram.nt = 4 := rfl
@[simp] theorem rs_spec_ValidProgram : fa_spec_ValidProgram.rs = [.tmp 2] := rfl
@[simp] theorem fz_spec_ValidProgram : fa_spec_ValidProgram.fz = true := rfl
theorem go_spec_ValidProgram {args : List PV} {σ : List AObj} {r : PV × List AObj} (hl : args.length ≤ 4) (h : rE fns fa_spec_ValidProgram σ.length [.code ac_spec_ValidProgram] (frA 0 args) σ = some r) : ev fns i_spec_ValidProgram args σ = some r := ev_go n_spec_ValidProgram hl h
@[simp] theorem nt_impl_size_impl_Module : fa_impl_size_impl_Module.nt = 5 := rfl
@[simp] theorem rs_impl_size_impl_Module : fa_impl_size_impl_Module.rs = [.tmp 2] := rfl
@[simp] theorem fz_impl_size_impl_Module : fa_impl_size_impl_Module.fz = true := rfl
theorem go_impl_size_impl_Module {args : List PV} {σ : List AObj} {r : PV × List AObj} (hl : args.length ≤ 5) (h : rE fns fa_impl_size_impl_Module σ.length [.code ac_impl_size_impl_Module] (frA 0 args) σ = some r) : ev fns i_impl_size_impl_Module args σ = some r := ev_go n_impl_size_impl_Module hl h
@[simp] theorem nt_slices_IndexFunc_L_impl_Module : fa_slices_IndexFunc_L_impl_Module.nt = 19 := rfl
@[simp] theorem rs_slices_IndexFunc_L_impl_Module : fa_slices_IndexFunc_L_impl_Module.rs = [.tmp 4] := rfl
@[simp] theorem fz_slices_IndexFunc_L_impl_Module : fa_slices_IndexFunc_L_impl_Module.fz = true := rfl
theorem go_slices_IndexFunc_L_impl_Module {args : List PV} {σ : List AObj} {r : PV × List AObj} (hl : args.length ≤ 19) (h : rE fns fa_slices_IndexFunc_L_impl_Module σ.length [.code ac_slices_IndexFunc_L_impl_Module] (frA 0 args) σ = some r) : ev fns i_slices_IndexFunc_L_impl_Module args σ = some r := ev_go n_slices_IndexFunc_L_impl_Module hl h
theorem l_slices_IndexFunc_L_impl_Module_0 {ks : List KI} {l : Fr} {σ : List AObj} {n0 : Nat} : rE fns fa_slices_IndexFunc_L_impl_Module n0 (.code lo_slices_IndexFunc_L_impl_Module_0 :: ks) l σ = rE fns fa_slices_IndexFunc_L_impl_Module n0 (.code lb_slices_IndexFunc_L_impl_Module_0 :: .code lo_slices_IndexFunc_L_impl_Module_0 :: ks) l σ := rE_loop
@[simp] theorem nt_slices_ContainsFunc_L_impl_Module : fa_slices_ContainsFunc_L_impl_Module.nt = 9 := rfl
@[simp] theorem rs_slices_ContainsFunc_L_impl_Module : fa_slices_ContainsFunc_L_impl_Module.rs = [.tmp 4] := rfl
@[simp] theorem fz_slices_ContainsFunc_L_impl_Module : fa_slices_ContainsFunc_L_impl_Module.fz = true := rfl
theorem go_slices_ContainsFunc_L_impl_Module {args : List PV} {σ : List AObj} {r : PV × List AObj} (hl : args.length ≤ 9) (h : rE fns fa_slices_ContainsFunc_L_impl_Module σ.length [.code ac_slices_ContainsFunc_L_impl_Module] (frA 0 args) σ = some r) : ev fns i_slices_ContainsFunc_L_impl_Module args σ = some r := ev_go n_slices_ContainsFunc_L_impl_Module hl h
@[simp] theorem nt_slices_IndexFunc_L_impl_Link : fa_slices_IndexFunc_L_impl_Link.nt = 19 := rfl
@[simp] theorem rs_slices_IndexFunc_L_impl_Link : fa_slices_IndexFunc_L_impl_Link.rs = [.tmp 4] := rfl
@[simp] theorem fz_slices_IndexFunc_L_impl_Link : fa_slices_IndexFunc_L_impl_Link.fz = true := rfl
theorem go_slices_IndexFunc_L_impl_Link {args : List PV} {σ : List AObj} {r : PV × List AObj} (hl : args.length ≤ 19) (h : rE fns fa_slices_IndexFunc_L_impl_Link σ.length [.code ac_slices_IndexFunc_L_impl_Link] (frA 0 args) σ = some r) : ev fns i_slices_IndexFunc_L_impl_Link args σ = some r := ev_go n_slices_IndexFunc_L_impl_Link hl h
theorem l_slices_IndexFunc_L_impl_Link_0 {ks : List KI} {l : Fr} {σ : List AObj} {n0 : Nat} : rE fns fa_slices_IndexFunc_L_impl_Link n0 (.code lo_slices_IndexFunc_L_impl_Link_0 :: ks) l σ = rE fns fa_slices_IndexFunc_L_impl_Link n0 (.code lb_slices_IndexFunc_L_impl_Link_0 :: .code lo_slices_IndexFunc_L_impl_Link_0 :: ks) l σ := rE_loop
@[simp] theorem nt_slices_ContainsFunc_L_impl_Link : fa_slices_ContainsFunc_L_impl_Link.nt = 9 := rfl
@[simp] theorem rs_slices_ContainsFunc_L_impl_Link : fa_slices_ContainsFunc_L_impl_Link.rs = [.tmp 4] := rfl
@[simp] theorem fz_slices_ContainsFunc_L_impl_Link : fa_slices_ContainsFunc_L_impl_Link.fz = true := rfl
theorem go_slices_ContainsFunc_L_impl_Link {args : List PV} {σ : List AObj} {r : PV × List AObj} (hl : args.length ≤ 9) (h : rE fns fa_slices_ContainsFunc_L_impl_Link σ.length [.code ac_slices_ContainsFunc_L_impl_Link] (frA 0 args) σ = some r) : ev fns i_slices_ContainsFunc_L_impl_Link args σ = some r := ev_go n_slices_ContainsFunc_L_impl_Link hl h
@[simp] theorem nt_impl_isLetter : fa_impl_isLetter.nt = 9 := rfl
@[simp] theorem rs_impl_isLetter : fa_impl_isLetter.rs = [.tmp 2] := rfl
@[simp] theorem fz_impl_isLetter : fa_impl_isLetter.fz = true := rfl
theorem go_impl_isLetter {args : List PV} {σ : List AObj} {r : PV × List AObj} (hl : args.length ≤ 9) (h : rE fns fa_impl_isLetter σ.length [.code ac_impl_isLetter] (frA 0 args) σ = some r) : ev fns i_impl_isLetter args σ = some r := ev_go n_impl_isLetter hl h
@[simp] theorem nt_impl_ValidProgram_1_1 : fa_impl_ValidProgram_1_1.nt = 44 := rfl
@[simp] theorem rs_impl_ValidProgram_1_1 : fa_impl_ValidProgram_1_1.rs = [.tmp 4] := rfl
@[simp] theorem fz_impl_ValidProgram_1_1 : fa_impl_ValidProgram_1_1.fz = true := rfl
theorem go_impl_ValidProgram_1_1 {args : List PV} {σ : List AObj} {r : PV × List AObj} (hl : args.length ≤ 44) (h : rE fns fa_impl_ValidProgram_1_1 σ.length [.code ac_impl_ValidProgram_1_1] (frA 0 args) σ = some r) : ev fns i_impl_ValidProgram_1_1 args σ = some r := ev_go n_impl_ValidProgram_1_1 hl h
@[simp] theorem nt_impl_ValidProgram_1 : fa_impl_ValidProgram_1.nt = 20 := rfl
@[simp] theorem rs_impl_ValidProgram_1 : fa_impl_ValidProgram_1.rs = [.tmp 3] := rfl
@[simp] theorem fz_impl_ValidProgram_1 : fa_impl_ValidProgram_1.fz = true := rfl
theorem go_impl_ValidProgram_1 {args : List PV} {σ : List AObj} {r : PV × List AObj} (hl : args.length ≤ 20) (h : rE fns fa_impl_ValidProgram_1 σ.length [.code ac_impl_ValidProgram_1] (frA 0 args) σ = some r) : ev fns i_impl_ValidProgram_1 args σ = some r := ev_go n_impl_ValidProgram_1 hl h
@[simp] theorem nt_impl_ValidProgram : fa_impl_ValidProgram.nt = 16 := rfl
@[simp] theorem rs_impl_ValidProgram : fa_impl_ValidProgram.rs = [.tmp 2] := rfl
@[simp] theorem fz_impl_ValidProgram : fa_impl_ValidProgram.fz = true := rfl
theorem go_impl_ValidProgram {args : List PV} {σ : List AObj} {r : PV × List AObj} (hl : args.length ≤ 16) (h : rE fns fa_impl_ValidProgram σ.length [.code ac_impl_ValidProgram] (frA 0 args) σ = some r) : ev fns i_impl_ValidProgram args σ = some r := ev_go n_impl_ValidProgram hl h
@[simp] theorem nt_laws_FnExactValidProgram : fa_laws_FnExactValidProgram.nt = 27 := rfl
@[simp] theorem rs_laws_FnExactValidProgram : fa_laws_FnExactValidProgram.rs = [.tmp 2] := rfl
@[simp] theorem fz_laws_FnExactValidProgram : fa_laws_FnExactValidProgram.fz = true := rfl
theorem go_laws_FnExactValidProgram {args : List PV} {σ : List AObj} {r : PV × List AObj} (hl : args.length ≤ 27) (h : rE fns fa_laws_FnExactValidProgram σ.length [.code ac_laws_FnExactValidProgram] (frA 0 args) σ = some r) : ev fns i_laws_FnExactValidProgram args σ = some r := ev_go n_laws_FnExactValidProgram hl h
@[simp] theorem nt_laws_eqOutPush : fa_laws_eqOutPush.nt = 20 := rfl
@[simp] theorem rs_laws_eqOutPush : fa_laws_eqOutPush.rs = [.tmp 4] := rfl
@[simp] theorem fz_laws_eqOutPush : fa_laws_eqOutPush.fz = true := rfl
theorem go_laws_eqOutPush {args : List PV} {σ : List AObj} {r : PV × List AObj} (hl : args.length ≤ 20) (h : rE fns fa_laws_eqOutPush σ.length [.code ac_laws_eqOutPush] (frA 0 args) σ = some r) : ev fns i_laws_eqOutPush args σ = some r := ev_go n_laws_eqOutPush hl h
@[simp] theorem nt_laws_eqOutPushS : fa_laws_eqOutPushS.nt = 27 := rfl
@[simp] theorem rs_laws_eqOutPushS : fa_laws_eqOutPushS.rs = [.tmp 4] := rfl
@[simp] theorem fz_laws_eqOutPushS : fa_laws_eqOutPushS.fz = true := rfl
theorem go_laws_eqOutPushS {args : List PV} {σ : List AObj} {r : PV × List AObj} (hl : args.length ≤ 27) (h : rE fns fa_laws_eqOutPushS σ.length [.code ac_laws_eqOutPushS] (frA 0 args) σ = some r) : ev fns i_laws_eqOutPushS args σ = some r := ev_go n_laws_eqOutPushS hl h
theorem l_laws_eqOutPushS_0 {ks : List KI} {l : Fr} {σ : List AObj} {n0 : Nat} : rE fns fa_laws_eqOutPushS n0 (.code lo_laws_eqOutPushS_0 :: ks) l σ = rE fns fa_laws_eqOutPushS n0 (.code lb_laws_eqOutPushS_0 :: .code lo_laws_eqOutPushS_0 :: ks) l σ := rE_loop
@[simp] theorem nt_laws_eqOutPushSS : fa_laws_eqOutPushSS.nt = 27 := rfl
@[simp] theorem rs_laws_eqOutPushSS : fa_laws_eqOutPushSS.rs = [.tmp 4] := rfl
@[simp] theorem fz_laws_eqOutPushSS : fa_laws_eqOutPushSS.fz = true := rfl
theorem go_laws_eqOutPushSS {args : List PV} {σ : List AObj} {r : PV × List AObj} (hl : args.length ≤ 27) (h : rE fns fa_laws_eqOutPushSS σ.length [.code ac_laws_eqOutPushSS] (frA 0 args) σ = some r) : ev fns i_laws_eqOutPushSS args σ = some r := ev_go n_laws_eqOutPushSS hl h
theorem l_laws_eqOutPushSS_0 {ks : List KI} {l : Fr} {σ : List AObj} {n0 : Nat} : rE fns fa_laws_eqOutPushSS n0 (.code lo_laws_eqOutPushSS_0 :: ks) l σ = rE fns fa_laws_eqOutPushSS n0 (.code lb_laws_eqOutPushSS_0 :: .code lo_laws_eqOutPushSS_0 :: ks) l σ := rE_loop
@[simp] theorem nt_laws_eqOutMove : fa_laws_eqOutMove.nt = 15 := rfl
@[simp] theorem rs_laws_eqOutMove : fa_laws_eqOutMove.rs = [.tmp 4] := rfl
@[simp] theorem fz_laws_eqOutMove : fa_laws_eqOutMove.fz = true := rfl
theorem go_laws_eqOutMove {args : List PV} {σ : List AObj} {r : PV × List AObj} (hl : args.length ≤ 15) (h : rE fns fa_laws_eqOutMove σ.length [.code ac_laws_eqOutMove] (frA 0 args) σ = some r) : ev fns i_laws_eqOutMove args σ = some r := ev_go n_laws_eqOutMove hl h
@[simp] theorem nt_laws_eqOutMoveS : fa_laws_eqOutMoveS.nt = 27 := rfl
@[simp] theorem rs_laws_eqOutMoveS : fa_laws_eqOutMoveS.rs = [.tmp 4] := rfl
@[simp] theorem fz_laws_eqOutMoveS : fa_laws_eqOutMoveS.fz = true := rfl
theorem go_laws_eqOutMoveS {args : List PV} {σ : List AObj} {r : PV × List AObj} (hl : args.length ≤ 27) (h : rE fns fa_laws_eqOutMoveS σ.length [.code ac_laws_eqOutMoveS] (frA 0 args) σ = some r) : ev fns i_laws_eqOutMoveS args σ = some r := ev_go n_laws_eqOutMoveS hl h
theorem l_laws_eqOutMoveS_0 {ks : List KI} {l : Fr} {σ : List AObj} {n0 : Nat} : rE fns fa_laws_eqOutMoveS n0 (.code lo_laws_eqOutMoveS_0 :: ks) l σ = rE fns fa_laws_eqOutMoveS n0 (.code lb_laws_eqOutMoveS_0 :: .code lo_laws_eqOutMoveS_0 :: ks) l σ := rE_loop
@[simp] theorem nt_laws_eqOutMoveSS : fa_laws_eqOutMoveSS.nt = 27 := rfl
@[simp] theorem rs_laws_eqOutMoveSS : fa_laws_eqOutMoveSS.rs = [.tmp 4] := rfl
@[simp] theorem fz_laws_eqOutMoveSS : fa_laws_eqOutMoveSS.fz = true := rfl
theorem go_laws_eqOutMoveSS {args : List PV} {σ : List AObj} {r : PV × List AObj} (hl : args.length ≤ 27) (h : rE fns fa_laws_eqOutMoveSS σ.length [.code ac_laws_eqOutMoveSS] (frA 0 args) σ = some r) : ev fns i_laws_eqOutMoveSS args σ = some r := ev_go n_laws_eqOutMoveSS hl h
theorem l_laws_eqOutMoveSS_0 {ks : List KI} {l : Fr} {σ : List AObj} {n0 : Nat} : rE fns fa_laws_eqOutMoveSS n0 (.code lo_laws_eqOutMoveSS_0 :: ks) l σ = rE fns fa_laws_eqOutMoveSS n0 (.code lb_laws_eqOutMoveSS_0 :: .code lo_laws_eqOutMoveSS_0 :: ks) l σ := rE_loop
@[simp] theorem nt_laws_eqOutMoveSSS : fa_laws_eqOutMoveSSS.nt = 27 := rfl
@[simp] theorem rs_laws_eqOutMoveSSS : fa_laws_eqOutMoveSSS.rs = [.tmp 4] := rfl
@[simp] theorem fz_laws_eqOutMoveSSS : fa_laws_eqOutMoveSSS.fz = true := rfl
theorem go_laws_eqOutMoveSSS {args : List PV} {σ : List AObj} {r : PV × List AObj} (hl : args.length ≤ 27) (h : rE fns fa_laws_eqOutMoveSSS σ.length [.code ac_laws_eqOutMoveSSS] (frA 0 args) σ = some r) : ev fns i_laws_eqOutMoveSSS args σ = some r := ev_go n_laws_eqOutMoveSSS hl h
theorem l_laws_eqOutMoveSSS_0 {ks : List KI} {l : Fr} {σ : List AObj} {n0 : Nat} : rE fns fa_laws_eqOutMoveSSS n0 (.code lo_laws_eqOutMoveSSS_0 :: ks) l σ = rE fns fa_laws_eqOutMoveSSS n0 (.code lb_laws_eqOutMoveSSS_0 :: .code lo_laws_eqOutMoveSSS_0 :: ks) l σ := rE_loop
@[simp] theorem nt_laws_eqRewriter : fa_laws_eqRewriter.nt = 33 := rfl
@[simp] theorem rs_laws_eqRewriter : fa_laws_eqRewriter.rs = [.tmp 4] := rfl
@[simp] theorem fz_laws_eqRewriter : fa_laws_eqRewriter.fz = true := rfl
theorem go_laws_eqRewriter {args : List PV} {σ : List AObj} {r : PV × List AObj} (hl : args.length ≤ 33) (h : rE fns fa_laws_eqRewriter σ.length [.code ac_laws_eqRewriter] (frA 0 args) σ = some r) : ev fns i_laws_eqRewriter args σ = some r := ev_go n_laws_eqRewriter hl h
@[simp] theorem nt_laws_markText : fa_laws_markText.nt = 20 := rfl
@[simp] theorem rs_laws_markText : fa_laws_markText.rs = [.tmp 2] := rfl
@[simp] theorem fz_laws_markText : fa_laws_markText.fz = true := rfl
theorem go_laws_markText {args : List PV} {σ : List AObj} {r : PV × List AObj} (hl : args.length ≤ 20) (h : rE fns fa_laws_markText σ.length [.code ac_laws_markText] (frA 0 args) σ = some r) : ev fns i_laws_markText args σ = some r := ev_go n_laws_markText hl h
theorem l_laws_markText_0 {ks : List KI} {l : Fr} {σ : List AObj} {n0 : Nat} : rE fns fa_laws_markText n0 (.code lo_laws_markText_0 :: ks) l σ = rE fns fa_laws_markText n0 (.code lb_laws_markText_0 :: .code lo_laws_markText_0 :: ks) l σ := rE_loop
@[simp] theorem nt_laws_markOutPushS : fa_laws_markOutPushS.nt = 35 := rfl
@[simp] theorem rs_laws_markOutPushS : fa_laws_markOutPushS.rs = [.tmp 4] := rfl
@[simp] theorem fz_laws_markOutPushS : fa_laws_markOutPushS.fz = false := rfl
theorem go_laws_markOutPushS {args : List PV} {σ : List AObj} {r : PV × List AObj} (hl : args.length ≤ 35) (h : rE fns fa_laws_markOutPushS σ.length [.code ac_laws_markOutPushS] (frA 0 args) σ = some r) : ev fns i_laws_markOutPushS args σ = some r := ev_go n_laws_markOutPushS hl h
theorem l_laws_markOutPushS_0 {ks : List KI} {l : Fr} {σ : List AObj} {n0 : Nat} : rE fns fa_laws_markOutPushS n0 (.code lo_laws_markOutPushS_0 :: ks) l σ = rE fns fa_laws_markOutPushS n0 (.code lb_laws_markOutPushS_0 :: .code lo_laws_markOutPushS_0 :: ks) l σ := rE_loop
@[simp] theorem nt_laws_markOutPushSS : fa_laws_markOutPushSS.nt = 19 := rfl
@[simp] theorem rs_laws_markOutPushSS : fa_laws_markOutPushSS.rs = [.tmp 4] := rfl
@[simp] theorem fz_laws_markOutPushSS : fa_laws_markOutPushSS.fz = false := rfl
theorem go_laws_markOutPushSS {args : List PV} {σ : List AObj} {r : PV × List AObj} (hl : args.length ≤ 19) (h : rE fns fa_laws_markOutPushSS σ.length [.code ac_laws_markOutPushSS] (frA 0 args) σ = some r) : ev fns i_laws_markOutPushSS args σ = some r := ev_go n_laws_markOutPushSS hl h
theorem l_laws_markOutPushSS_0 {ks : List KI} {l : Fr} {σ : List AObj} {n0 : Nat} : rE fns fa_laws_markOutPushSS n0 (.code lo_laws_markOutPushSS_0 :: ks) l σ = rE fns fa_laws_markOutPushSS n0 (.code lb_laws_markOutPushSS_0 :: .code lo_laws_markOutPushSS_0 :: ks) l σ := rE_loop
@[simp] theorem nt_laws_markOutMoveS : fa_laws_markOutMoveS.nt = 28 := rfl
@[simp] theorem rs_laws_markOutMoveS : fa_laws_markOutMoveS.rs = [.tmp 4] := rfl
@[simp] theorem fz_laws_markOutMoveS : fa_laws_markOutMoveS.fz = false := rfl
theorem go_laws_markOutMoveS {args : List PV} {σ : List AObj} {r : PV × List AObj} (hl : args.length ≤ 28) (h : rE fns fa_laws_markOutMoveS σ.length [.code ac_laws_markOutMoveS] (frA 0 args) σ = some r) : ev fns i_laws_markOutMoveS args σ = some r := ev_go n_laws_markOutMoveS hl h
theorem l_laws_markOutMoveS_0 {ks : List KI} {l : Fr} {σ : List AObj} {n0 : Nat} : rE fns fa_laws_markOutMoveS n0 (.code lo_laws_markOutMoveS_0 :: ks) l σ = rE fns fa_laws_markOutMoveS n0 (.code lb_laws_markOutMoveS_0 :: .code lo_laws_markOutMoveS_0 :: ks) l σ := rE_loop
@[simp] theorem nt_laws_markOutMoveSS : fa_laws_markOutMoveSS.nt = 19 := rfl
@[simp] theorem rs_laws_markOutMoveSS : fa_laws_markOutMoveSS.rs = [.tmp 4] := rfl
@[simp] theorem fz_laws_markOutMoveSS : fa_laws_markOutMoveSS.fz = false := rfl
theorem go_laws_markOutMoveSS {args : List PV} {σ : List AObj} {r : PV × List AObj} (hl : args.length ≤ 19) (h : rE fns fa_laws_markOutMoveSS σ.length [.code ac_laws_markOutMoveSS] (frA 0 args) σ = some r) : ev fns i_laws_markOutMoveSS args σ = some r := ev_go n_laws_markOutMoveSS hl h
theorem l_laws_markOutMoveSS_0 {ks : List KI} {l : Fr} {σ : List AObj} {n0 : Nat} : rE fns fa_laws_markOutMoveSS n0 (.code lo_laws_markOutMoveSS_0 :: ks) l σ = rE fns fa_laws_markOutMoveSS n0 (.code lb_laws_markOutMoveSS_0 :: .code lo_laws_markOutMoveSS_0 :: ks) l σ := rE_loop
@[simp] theorem nt_laws_markOutMoveSSS : fa_laws_markOutMoveSSS.nt = 19 := rfl
@[simp] theorem rs_laws_markOutMoveSSS : fa_laws_markOutMoveSSS.rs = [.tmp 4] := rfl
@[simp] theorem fz_laws_markOutMoveSSS : fa_laws_markOutMoveSSS.fz = false := rfl
theorem go_laws_markOutMoveSSS {args : List PV} {σ : List AObj} {r : PV × List AObj} (hl : args.length ≤ 19) (h : rE fns fa_laws_markOutMoveSSS σ.length [.code ac_laws_markOutMoveSSS] (frA 0 args) σ = some r) : ev fns i_laws_markOutMoveSSS args σ = some r := ev_go n_laws_markOutMoveSSS hl h
theorem l_laws_markOutMoveSSS_0 {ks : List KI} {l : Fr} {σ : List AObj} {n0 : Nat} : rE fns fa_laws_markOutMoveSSS n0 (.code lo_laws_markOutMoveSSS_0 :: ks) l σ = rE fns fa_laws_markOutMoveSSS n0 (.code lb_laws_markOutMoveSSS_0 :: .code lo_laws_markOutMoveSSS_0 :: ks) l σ := rE_loop
@[simp] theorem nt_laws_markRewriter : fa_laws_markRewriter.nt = 18 := rfl
@[simp] theorem rs_laws_markRewriter : fa_laws_markRewriter.rs = [.tmp 4] := rfl
@[simp] theorem fz_laws_markRewriter : fa_laws_markRewriter.fz = false := rfl
theorem go_laws_markRewriter {args : List PV} {σ : List AObj} {r : PV × List AObj} (hl : args.length ≤ 18) (h : rE fns fa_laws_markRewriter σ.length [.code ac_laws_markRewriter] (frA 0 args) σ = some r) : ev fns i_laws_markRewriter args σ = some r := ev_go n_laws_markRewriter hl h
@[simp] theorem nt_laws_heldOutPushS : fa_laws_heldOutPushS.nt = 41 := rfl
@[simp] theorem rs_laws_heldOutPushS : fa_laws_heldOutPushS.rs = [.tmp 4] := rfl
@[simp] theorem fz_laws_heldOutPushS : fa_laws_heldOutPushS.fz = true := rfl
theorem go_laws_heldOutPushS {args : List PV} {σ : List AObj} {r : PV × List AObj} (hl : args.length ≤ 41) (h : rE fns fa_laws_heldOutPushS σ.length [.code ac_laws_heldOutPushS] (frA 0 args) σ = some r) : ev fns i_laws_heldOutPushS args σ = some r := ev_go n_laws_heldOutPushS hl h
theorem l_laws_heldOutPushS_0 {ks : List KI} {l : Fr} {σ : List AObj} {n0 : Nat} : rE fns fa_laws_heldOutPushS n0 (.code lo_laws_heldOutPushS_0 :: ks) l σ = rE fns fa_laws_heldOutPushS n0 (.code lb_laws_heldOutPushS_0 :: .code lo_laws_heldOutPushS_0 :: ks) l σ := rE_loop
@[simp] theorem nt_laws_heldOutPushSS : fa_laws_heldOutPushSS.nt = 21 := rfl
@[simp] theorem rs_laws_heldOutPushSS : fa_laws_heldOutPushSS.rs = [.tmp 4] := rfl
@[simp] theorem fz_laws_heldOutPushSS : fa_laws_heldOutPushSS.fz = true := rfl
theorem go_laws_heldOutPushSS {args : List PV} {σ : List AObj} {r : PV × List AObj} (hl : args.length ≤ 21) (h : rE fns fa_laws_heldOutPushSS σ.length [.code ac_laws_heldOutPushSS] (frA 0 args) σ = some r) : ev fns i_laws_heldOutPushSS args σ = some r := ev_go n_laws_heldOutPushSS hl h
theorem l_laws_heldOutPushSS_0 {ks : List KI} {l : Fr} {σ : List AObj} {n0 : Nat} : rE fns fa_laws_heldOutPushSS n0 (.code lo_laws_heldOutPushSS_0 :: ks) l σ = rE fns fa_laws_heldOutPushSS n0 (.code lb_laws_heldOutPushSS_0 :: .code lo_laws_heldOutPushSS_0 :: ks) l σ := rE_loop
@[simp] theorem nt_laws_heldOutMoveS : fa_laws_heldOutMoveS.nt = 32 := rfl
@[simp] theorem rs_laws_heldOutMoveS : fa_laws_heldOutMoveS.rs = [.tmp 4] := rfl
@[simp] theorem fz_laws_heldOutMoveS : fa_laws_heldOutMoveS.fz = true := rfl
theorem go_laws_heldOutMoveS {args : List PV} {σ : List AObj} {r : PV × List AObj} (hl : args.length ≤ 32) (h : rE fns fa_laws_heldOutMoveS σ.length [.code ac_laws_heldOutMoveS] (frA 0 args) σ = some r) : ev fns i_laws_heldOutMoveS args σ = some r := ev_go n_laws_heldOutMoveS hl h
theorem l_laws_heldOutMoveS_0 {ks : List KI} {l : Fr} {σ : List AObj} {n0 : Nat} : rE fns fa_laws_heldOutMoveS n0 (.code lo_laws_heldOutMoveS_0 :: ks) l σ = rE fns fa_laws_heldOutMoveS n0 (.code lb_laws_heldOutMoveS_0 :: .code lo_laws_heldOutMoveS_0 :: ks) l σ := rE_loop
@[simp] theorem nt_laws_heldOutMoveSS : fa_laws_heldOutMoveSS.nt = 21 := rfl
@[simp] theorem rs_laws_heldOutMoveSS : fa_laws_heldOutMoveSS.rs = [.tmp 4] := rfl
@[simp] theorem fz_laws_heldOutMoveSS : fa_laws_heldOutMoveSS.fz = true := rfl
theorem go_laws_heldOutMoveSS {args : List PV} {σ : List AObj} {r : PV × List AObj} (hl : args.length ≤ 21) (h : rE fns fa_laws_heldOutMoveSS σ.length [.code ac_laws_heldOutMoveSS] (frA 0 args) σ = some r) : ev fns i_laws_heldOutMoveSS args σ = some r := ev_go n_laws_heldOutMoveSS hl h
theorem l_laws_heldOutMoveSS_0 {ks : List KI} {l : Fr} {σ : List AObj} {n0 : Nat} : rE fns fa_laws_heldOutMoveSS n0 (.code lo_laws_heldOutMoveSS_0 :: ks) l σ = rE fns fa_laws_heldOutMoveSS n0 (.code lb_laws_heldOutMoveSS_0 :: .code lo_laws_heldOutMoveSS_0 :: ks) l σ := rE_loop
@[simp] theorem nt_laws_heldOutMoveSSS : fa_laws_heldOutMoveSSS.nt = 21 := rfl
@[simp] theorem rs_laws_heldOutMoveSSS : fa_laws_heldOutMoveSSS.rs = [.tmp 4] := rfl
@[simp] theorem fz_laws_heldOutMoveSSS : fa_laws_heldOutMoveSSS.fz = true := rfl
theorem go_laws_heldOutMoveSSS {args : List PV} {σ : List AObj} {r : PV × List AObj} (hl : args.length ≤ 21) (h : rE fns fa_laws_heldOutMoveSSS σ.length [.code ac_laws_heldOutMoveSSS] (frA 0 args) σ = some r) : ev fns i_laws_heldOutMoveSSS args σ = some r := ev_go n_laws_heldOutMoveSSS hl h
theorem l_laws_heldOutMoveSSS_0 {ks : List KI} {l : Fr} {σ : List AObj} {n0 : Nat} : rE fns fa_laws_heldOutMoveSSS n0 (.code lo_laws_heldOutMoveSSS_0 :: ks) l σ = rE fns fa_laws_heldOutMoveSSS n0 (.code lb_laws_heldOutMoveSSS_0 :: .code lo_laws_heldOutMoveSSS_0 :: ks) l σ := rE_loop
@[simp] theorem nt_laws_heldRewriter : fa_laws_heldRewriter.nt = 24 := rfl
@[simp] theorem rs_laws_heldRewriter : fa_laws_heldRewriter.rs = [.tmp 4] := rfl
@[simp] theorem fz_laws_heldRewriter : fa_laws_heldRewriter.fz = true := rfl
theorem go_laws_heldRewriter {args : List PV} {σ : List AObj} {r : PV × List AObj} (hl : args.length ≤ 24) (h : rE fns fa_laws_heldRewriter σ.length [.code ac_laws_heldRewriter] (frA 0 args) σ = some r) : ev fns i_laws_heldRewriter args σ = some r := ev_go n_laws_heldRewriter hl h
@[simp] theorem nt_spec_l06Plain : fa_spec_l06Plain.nt = 69 := rfl
@[simp] theorem rs_spec_l06Plain : fa_spec_l06Plain.rs = [.cell 4 5 true] := rfl
@[simp] theorem fz_spec_l06Plain : fa_spec_l06Plain.fz = false := rfl
theorem go_spec_l06Plain {args : List PV} {σ : List AObj} {r : PV × List AObj} (hl : args.length ≤ 69) (h : rE fns fa_spec_l06Plain σ.length [.code ac_spec_l06Plain] (frA 0 args) σ = some r) : ev fns i_spec_l06Plain args σ = some r := ev_go n_spec_l06Plain hl h
theorem l_spec_l06Plain_0 {ks : List KI} {l : Fr} {σ : List AObj} {n0 : Nat} : rE fns fa_spec_l06Plain n0 (.code lo_spec_l06Plain_0 :: ks) l σ = rE fns fa_spec_l06Plain n0 (.code lb_spec_l06Plain_0 :: .code lo_spec_l06Plain_0 :: ks) l σ := rE_loop
theorem l_spec_l06Plain_1 {ks : List KI} {l : Fr} {σ : List AObj} {n0 : Nat} : rE fns fa_spec_l06Plain n0 (.code lo_spec_l06Plain_1 :: ks) l σ = rE fns fa_spec_l06Plain n0 (.code lb_spec_l06Plain_1 :: .code lo_spec_l06Plain_1 :: ks) l σ := rE_loop
@[simp] theorem nt_spec_UnwrapRewriter : fa_spec_UnwrapRewriter.nt = 40 := rfl
@[simp] theorem rs_spec_UnwrapRewriter : fa_spec_UnwrapRewriter.rs = [.cell 2 5 true, .tmp 3] := rfl
@[simp] theorem fz_spec_UnwrapRewriter : fa_spec_UnwrapRewriter.fz = true := rfl
theorem go_spec_UnwrapRewriter {args : List PV} {σ : List AObj} {r : PV × List AObj} (hl : args.length ≤ 40) (h : rE fns fa_spec_UnwrapRewriter σ.length [.code ac_spec_UnwrapRewriter] (frA 0 args) σ = some r) : ev fns i_spec_UnwrapRewriter args σ = some r := ev_go n_spec_UnwrapRewriter hl h
@[simp] theorem nt_impl_builtRewriter : fa_impl_builtRewriter.nt = 88 := rfl
@[simp] theorem rs_impl_builtRewriter : fa_impl_builtRewriter.rs = [.cell 12 5 true] := rfl
@[simp] theorem fz_impl_builtRewriter : fa_impl_builtRewriter.fz = false := rfl
theorem go_impl_builtRewriter {args : List PV} {σ : List AObj} {r : PV × List AObj} (hl : args.length ≤ 88) (h : rE fns fa_impl_builtRewriter σ.length [.code ac_impl_builtRewriter] (frA 0 args) σ = some r) : ev fns i_impl_builtRewriter args σ = some r := ev_go n_impl_builtRewriter hl h
theorem l_impl_builtRewriter_0 {ks : List KI} {l : Fr} {σ : List AObj} {n0 : Nat} : rE fns fa_impl_builtRewriter n0 (.code lo_impl_builtRewriter_0 :: ks) l σ = rE fns fa_impl_builtRewriter n0 (.code lb_impl_builtRewriter_0 :: .code lo_impl_builtRewriter_0 :: ks) l σ := rE_loop
theorem l_impl_builtRewriter_1 {ks : List KI} {l : Fr} {σ : List AObj} {n0 : Nat} : rE fns fa_impl_builtRewriter n0 (.code lo_impl_builtRewriter_1 :: ks) l σ = rE fns fa_impl_builtRewriter n0 (.code lb_impl_builtRewriter_1 :: .code lo_impl_builtRewriter_1 :: ks) l σ := rE_loop
theorem l_impl_builtRewriter_2 {ks : List KI} {l : Fr} {σ : List AObj} {n0 : Nat} : rE fns fa_impl_builtRewriter n0 (.code lo_impl_builtRewriter_2 :: ks) l σ = rE fns fa_impl_builtRewriter n0 (.code lb_impl_builtRewriter_2 :: .code lo_impl_builtRewriter_2 :: ks) l σ := rE_loop
@[simp] theorem nt_impl_symbol : fa_impl_symbol.nt = 7 := rfl
@[simp] theorem rs_impl_symbol : fa_impl_symbol.rs = [.tmp 2] := rfl
@[simp] theorem fz_impl_symbol : fa_impl_symbol.fz = true := rfl
theorem go_impl_symbol {args : List PV} {σ : List AObj} {r : PV × List AObj} (hl : args.length ≤ 7) (h : rE fns fa_impl_symbol σ.length [.code ac_impl_symbol] (frA 0 args) σ = some r) : ev fns i_impl_symbol args σ = some r := ev_go n_impl_symbol hl h
@[simp] theorem nt_impl_UnwrapRewriter_1 : fa_impl_UnwrapRewriter_1.nt = 14 := rfl
@[simp] theorem rs_impl_UnwrapRewriter_1 : fa_impl_UnwrapRewriter_1.rs = [.cell 5 3 true] := rfl
@[simp] theorem fz_impl_UnwrapRewriter_1 : fa_impl_UnwrapRewriter_1.fz = true := rfl
theorem go_impl_UnwrapRewriter_1 {args : List PV} {σ : List AObj} {r : PV × List AObj} (hl : args.length ≤ 14) (h : rE fns fa_impl_UnwrapRewriter_1 σ.length [.code ac_impl_UnwrapRewriter_1] (frA 0 args) σ = some r) : ev fns i_impl_UnwrapRewriter_1 args σ = some r := ev_go n_impl_UnwrapRewriter_1 hl h
@[simp] theorem nt_impl_UnwrapRewriter_2 : fa_impl_UnwrapRewriter_2.nt = 14 := rfl
@[simp] theorem rs_impl_UnwrapRewriter_2 : fa_impl_UnwrapRewriter_2.rs = [.cell 6 2 true] := rfl
@[simp] theorem fz_impl_UnwrapRewriter_2 : fa_impl_UnwrapRewriter_2.fz = true := rfl
theorem go_impl_UnwrapRewriter_2 {args : List PV} {σ : List AObj} {r : PV × List AObj} (hl : args.length ≤ 14) (h : rE fns fa_impl_UnwrapRewriter_2 σ.length [.code ac_impl_UnwrapRewriter_2] (frA 0 args) σ = some r) : ev fns i_impl_UnwrapRewriter_2 args σ = some r := ev_go n_impl_UnwrapRewriter_2 hl h
@[simp] theorem nt_impl_UnwrapRewriter_3 : fa_impl_UnwrapRewriter_3.nt = 9 := rfl
@[simp] theorem rs_impl_UnwrapRewriter_3 : fa_impl_UnwrapRewriter_3.rs = [.cell 4 2 true] := rfl
@[simp] theorem fz_impl_UnwrapRewriter_3 : fa_impl_UnwrapRewriter_3.fz = true := rfl
theorem go_impl_UnwrapRewriter_3 {args : List PV} {σ : List AObj} {r : PV × List AObj} (hl : args.length ≤ 9) (h : rE fns fa_impl_UnwrapRewriter_3 σ.length [.code ac_impl_UnwrapRewriter_3] (frA 0 args) σ = some r) : ev fns i_impl_UnwrapRewriter_3 args σ = some r := ev_go n_impl_UnwrapRewriter_3 hl h
@[simp] theorem nt_impl_UnwrapRewriter : fa_impl_UnwrapRewriter.nt = 13 := rfl
@[simp] theorem rs_impl_UnwrapRewriter : fa_impl_UnwrapRewriter.rs = [.cell 2 5 true, .tmp 3] := rfl
@[simp] theorem fz_impl_UnwrapRewriter : fa_impl_UnwrapRewriter.fz = false := rfl
theorem go_impl_UnwrapRewriter {args : List PV} {σ : List AObj} {r : PV × List AObj} (hl : args.length ≤ 13) (h : rE fns fa_impl_UnwrapRewriter σ.length [.code ac_impl_UnwrapRewriter] (frA 0 args) σ = some r) : ev fns i_impl_UnwrapRewriter args σ = some r := ev_go n_impl_UnwrapRewriter hl h
@[simp] theorem nt_laws_FnExactUnwrapRewriter : fa_laws_FnExactUnwrapRewriter.nt = 66 := rfl
@[simp] theorem rs_laws_FnExactUnwrapRewriter : fa_laws_FnExactUnwrapRewriter.rs = [.tmp 2] := rfl
@[simp] theorem fz_laws_FnExactUnwrapRewriter : fa_laws_FnExactUnwrapRewriter.fz = true := rfl
theorem go_laws_FnExactUnwrapRewriter {args : List PV} {σ : List AObj} {r : PV × List AObj} (hl : args.length ≤ 66) (h : rE fns fa_laws_FnExactUnwrapRewriter σ.length [.code ac_laws_FnExactUnwrapRewriter] (frA 0 args) σ = some r) : ev fns i_laws_FnExactUnwrapRewriter args σ = some r := ev_go n_laws_FnExactUnwrapRewriter hl h
@[simp] theorem nt_spec_l06Letter : fa_spec_l06Letter.nt = 8 := rfl
@[simp] theorem rs_spec_l06Letter : fa_spec_l06Letter.rs = [.tmp 2] := rfl
@[simp] theorem fz_spec_l06Letter : fa_spec_l06Letter.fz = true := rfl
theorem go_spec_l06Letter {args : List PV} {σ : List AObj} {r : PV × List AObj} (hl : args.length ≤ 8) (h : rE fns fa_spec_l06Letter σ.length [.code ac_spec_l06Letter] (frA 0 args) σ = some r) : ev fns i_spec_l06Letter args σ = some r := ev_go n_spec_l06Letter hl h
@[simp] theorem nt_spec_ThinRewriter : fa_spec_ThinRewriter.nt = 28 := rfl
@[simp] theorem rs_spec_ThinRewriter : fa_spec_ThinRewriter.rs = [.cell 2 5 true, .tmp 3] := rfl
@[simp] theorem fz_spec_ThinRewriter : fa_spec_ThinRewriter.fz = true := rfl
theorem go_spec_ThinRewriter {args : List PV} {σ : List AObj} {r : PV × List AObj} (hl : args.length ≤ 28) (h : rE fns fa_spec_ThinRewriter σ.length [.code ac_spec_ThinRewriter] (frA 0 args) σ = some r) : ev fns i_spec_ThinRewriter args σ = some r := ev_go n_spec_ThinRewriter hl h
@[simp] theorem nt_impl_ThinRewriter_1 : fa_impl_ThinRewriter_1.nt = 9 := rfl
@[simp] theorem rs_impl_ThinRewriter_1 : fa_impl_ThinRewriter_1.rs = [.cell 4 3 true] := rfl
@[simp] theorem fz_impl_ThinRewriter_1 : fa_impl_ThinRewriter_1.fz = true := rfl
theorem go_impl_ThinRewriter_1 {args : List PV} {σ : List AObj} {r : PV × List AObj} (hl : args.length ≤ 9) (h : rE fns fa_impl_ThinRewriter_1 σ.length [.code ac_impl_ThinRewriter_1] (frA 0 args) σ = some r) : ev fns i_impl_ThinRewriter_1 args σ = some r := ev_go n_impl_ThinRewriter_1 hl h
@[simp] theorem nt_impl_ThinRewriter_2 : fa_impl_ThinRewriter_2.nt = 12 := rfl
@[simp] theorem rs_impl_ThinRewriter_2 : fa_impl_ThinRewriter_2.rs = [.cell 6 2 true] := rfl
@[simp] theorem fz_impl_ThinRewriter_2 : fa_impl_ThinRewriter_2.fz = true := rfl
theorem go_impl_ThinRewriter_2 {args : List PV} {σ : List AObj} {r : PV × List AObj} (hl : args.length ≤ 12) (h : rE fns fa_impl_ThinRewriter_2 σ.length [.code ac_impl_ThinRewriter_2] (frA 0 args) σ = some r) : ev fns i_impl_ThinRewriter_2 args σ = some r := ev_go n_impl_ThinRewriter_2 hl h
@[simp] theorem nt_impl_ThinRewriter_3 : fa_impl_ThinRewriter_3.nt = 23 := rfl
@[simp] theorem rs_impl_ThinRewriter_3 : fa_impl_ThinRewriter_3.rs = [.cell 5 2 true] := rfl
@[simp] theorem fz_impl_ThinRewriter_3 : fa_impl_ThinRewriter_3.fz = true := rfl
theorem go_impl_ThinRewriter_3 {args : List PV} {σ : List AObj} {r : PV × List AObj} (hl : args.length ≤ 23) (h : rE fns fa_impl_ThinRewriter_3 σ.length [.code ac_impl_ThinRewriter_3] (frA 0 args) σ = some r) : ev fns i_impl_ThinRewriter_3 args σ = some r := ev_go n_impl_ThinRewriter_3 hl h
@[simp] theorem nt_impl_ThinRewriter : fa_impl_ThinRewriter.nt = 10 := rfl
@[simp] theorem rs_impl_ThinRewriter : fa_impl_ThinRewriter.rs = [.cell 2 5 true, .tmp 3] := rfl
@[simp] theorem fz_impl_ThinRewriter : fa_impl_ThinRewriter.fz = false := rfl
theorem go_impl_ThinRewriter {args : List PV} {σ : List AObj} {r : PV × List AObj} (hl : args.length ≤ 10) (h : rE fns fa_impl_ThinRewriter σ.length [.code ac_impl_ThinRewriter] (frA 0 args) σ = some r) : ev fns i_impl_ThinRewriter args σ = some r := ev_go n_impl_ThinRewriter hl h
@[simp] theorem nt_laws_FnExactThinRewriter : fa_laws_FnExactThinRewriter.nt = 66 := rfl
@[simp] theorem rs_laws_FnExactThinRewriter : fa_laws_FnExactThinRewriter.rs = [.tmp 2] := rfl
@[simp] theorem fz_laws_FnExactThinRewriter : fa_laws_FnExactThinRewriter.fz = true := rfl
theorem go_laws_FnExactThinRewriter {args : List PV} {σ : List AObj} {r : PV × List AObj} (hl : args.length ≤ 66) (h : rE fns fa_laws_FnExactThinRewriter σ.length [.code ac_laws_FnExactThinRewriter] (frA 0 args) σ = some r) : ev fns i_laws_FnExactThinRewriter args σ = some r := ev_go n_laws_FnExactThinRewriter hl h
@[simp] theorem nt_spec_DropRewriter : fa_spec_DropRewriter.nt = 20 := rfl
@[simp] theorem rs_spec_DropRewriter : fa_spec_DropRewriter.rs = [.cell 2 5 true, .tmp 3] := rfl
@[simp] theorem fz_spec_DropRewriter : fa_spec_DropRewriter.fz = true := rfl
theorem go_spec_DropRewriter {args : List PV} {σ : List AObj} {r : PV × List AObj} (hl : args.length ≤ 20) (h : rE fns fa_spec_DropRewriter σ.length [.code ac_spec_DropRewriter] (frA 0 args) σ = some r) : ev fns i_spec_DropRewriter args σ = some r := ev_go n_spec_DropRewriter hl h
@[simp] theorem nt_impl_renaming_1 : fa_impl_renaming_1.nt = 10 := rfl
@[simp] theorem rs_impl_renaming_1 : fa_impl_renaming_1.rs = [.cell 5 3 true] := rfl
@[simp] theorem fz_impl_renaming_1 : fa_impl_renaming_1.fz = true := rfl
theorem go_impl_renaming_1 {args : List PV} {σ : List AObj} {r : PV × List AObj} (hl : args.length ≤ 10) (h : rE fns fa_impl_renaming_1 σ.length [.code ac_impl_renaming_1] (frA 0 args) σ = some r) : ev fns i_impl_renaming_1 args σ = some r := ev_go n_impl_renaming_1 hl h
@[simp] theorem nt_impl_renaming_2 : fa_impl_renaming_2.nt = 13 := rfl
@[simp] theorem rs_impl_renaming_2 : fa_impl_renaming_2.rs = [.cell 7 2 true] := rfl
@[simp] theorem fz_impl_renaming_2 : fa_impl_renaming_2.fz = true := rfl
theorem go_impl_renaming_2 {args : List PV} {σ : List AObj} {r : PV × List AObj} (hl : args.length ≤ 13) (h : rE fns fa_impl_renaming_2 σ.length [.code ac_impl_renaming_2] (frA 0 args) σ = some r) : ev fns i_impl_renaming_2 args σ = some r := ev_go n_impl_renaming_2 hl h
@[simp] theorem nt_impl_renaming_3 : fa_impl_renaming_3.nt = 11 := rfl
@[simp] theorem rs_impl_renaming_3 : fa_impl_renaming_3.rs = [.cell 5 2 true] := rfl
@[simp] theorem fz_impl_renaming_3 : fa_impl_renaming_3.fz = true := rfl
theorem go_impl_renaming_3 {args : List PV} {σ : List AObj} {r : PV × List AObj} (hl : args.length ≤ 11) (h : rE fns fa_impl_renaming_3 σ.length [.code ac_impl_renaming_3] (frA 0 args) σ = some r) : ev fns i_impl_renaming_3 args σ = some r := ev_go n_impl_renaming_3 hl h
@[simp] theorem nt_impl_renaming : fa_impl_renaming.nt = 7 := rfl
@[simp] theorem rs_impl_renaming : fa_impl_renaming.rs = [.cell 2 5 true] := rfl
@[simp] theorem fz_impl_renaming : fa_impl_renaming.fz = false := rfl
theorem go_impl_renaming {args : List PV} {σ : List AObj} {r : PV × List AObj} (hl : args.length ≤ 7) (h : rE fns fa_impl_renaming σ.length [.code ac_impl_renaming] (frA 0 args) σ = some r) : ev fns i_impl_renaming args σ = some r := ev_go n_impl_renaming hl h
@[simp] theorem nt_impl_DropRewriter_1 : fa_impl_DropRewriter_1.nt = 10 := rfl
@[simp] theorem rs_impl_DropRewriter_1 : fa_impl_DropRewriter_1.rs = [.tmp 3] := rfl
@[simp] theorem fz_impl_DropRewriter_1 : fa_impl_DropRewriter_1.fz = true := rfl
theorem go_impl_DropRewriter_1 {args : List PV} {σ : List AObj} {r : PV × List AObj} (hl : args.length ≤ 10) (h : rE fns fa_impl_DropRewriter_1 σ.length [.code ac_impl_DropRewriter_1] (frA 0 args) σ = some r) : ev fns i_impl_DropRewriter_1 args σ = some r := ev_go n_impl_DropRewriter_1 hl h
@[simp] theorem nt_impl_DropRewriter : fa_impl_DropRewriter.nt = 10 := rfl
@[simp] theorem rs_impl_DropRewriter : fa_impl_DropRewriter.rs = [.cell 2 5 true, .tmp 3] := rfl
@[simp] theorem fz_impl_DropRewriter : fa_impl_DropRewriter.fz = false := rfl
theorem go_impl_DropRewriter {args : List PV} {σ : List AObj} {r : PV × List AObj} (hl : args.length ≤ 10) (h : rE fns fa_impl_DropRewriter σ.length [.code ac_impl_DropRewriter] (frA 0 args) σ = some r) : ev fns i_impl_DropRewriter args σ = some r := ev_go n_impl_DropRewriter hl h
@[simp] theorem nt_laws_FnExactDropRewriter : fa_laws_FnExactDropRewriter.nt = 66 := rfl
@[simp] theorem rs_laws_FnExactDropRewriter : fa_laws_FnExactDropRewriter.rs = [.tmp 2] := rfl
@[simp] theorem fz_laws_FnExactDropRewriter : fa_laws_FnExactDropRewriter.fz = true := rfl
theorem go_laws_FnExactDropRewriter {args : List PV} {σ : List AObj} {r : PV × List AObj} (hl : args.length ≤ 66) (h : rE fns fa_laws_FnExactDropRewriter σ.length [.code ac_laws_FnExactDropRewriter] (frA 0 args) σ = some r) : ev fns i_laws_FnExactDropRewriter args σ = some r := ev_go n_laws_FnExactDropRewriter hl h
@[simp] theorem nt_laws_szOutPush : fa_laws_szOutPush.nt = 13 := rfl
@[simp] theorem rs_laws_szOutPush : fa_laws_szOutPush.rs = [.tmp 4] := rfl
@[simp] theorem fz_laws_szOutPush : fa_laws_szOutPush.fz = true := rfl
theorem go_laws_szOutPush {args : List PV} {σ : List AObj} {r : PV × List AObj} (hl : args.length ≤ 13) (h : rE fns fa_laws_szOutPush σ.length [.code ac_laws_szOutPush] (frA 0 args) σ = some r) : ev fns i_laws_szOutPush args σ = some r := ev_go n_laws_szOutPush hl h
@[simp] theorem nt_laws_szOutPushS : fa_laws_szOutPushS.nt = 27 := rfl
@[simp] theorem rs_laws_szOutPushS : fa_laws_szOutPushS.rs = [.tmp 4] := rfl
@[simp] theorem fz_laws_szOutPushS : fa_laws_szOutPushS.fz = true := rfl
theorem go_laws_szOutPushS {args : List PV} {σ : List AObj} {r : PV × List AObj} (hl : args.length ≤ 27) (h : rE fns fa_laws_szOutPushS σ.length [.code ac_laws_szOutPushS] (frA 0 args) σ = some r) : ev fns i_laws_szOutPushS args σ = some r := ev_go n_laws_szOutPushS hl h
theorem l_laws_szOutPushS_0 {ks : List KI} {l : Fr} {σ : List AObj} {n0 : Nat} : rE fns fa_laws_szOutPushS n0 (.code lo_laws_szOutPushS_0 :: ks) l σ = rE fns fa_laws_szOutPushS n0 (.code lb_laws_szOutPushS_0 :: .code lo_laws_szOutPushS_0 :: ks) l σ := rE_loop
@[simp] theorem nt_laws_szOutPushSS : fa_laws_szOutPushSS.nt = 27 := rfl
@[simp] theorem rs_laws_szOutPushSS : fa_laws_szOutPushSS.rs = [.tmp 4] := rfl
@[simp] theorem fz_laws_szOutPushSS : fa_laws_szOutPushSS.fz = true := rfl
theorem go_laws_szOutPushSS {args : List PV} {σ : List AObj} {r : PV × List AObj} (hl : args.length ≤ 27) (h : rE fns fa_laws_szOutPushSS σ.length [.code ac_laws_szOutPushSS] (frA 0 args) σ = some r) : ev fns i_laws_szOutPushSS args σ = some r := ev_go n_laws_szOutPushSS hl h
theorem l_laws_szOutPushSS_0 {ks : List KI} {l : Fr} {σ : List AObj} {n0 : Nat} : rE fns fa_laws_szOutPushSS n0 (.code lo_laws_szOutPushSS_0 :: ks) l σ = rE fns fa_laws_szOutPushSS n0 (.code lb_laws_szOutPushSS_0 :: .code lo_laws_szOutPushSS_0 :: ks) l σ := rE_loop
@[simp] theorem nt_laws_szOutMove : fa_laws_szOutMove.nt = 13 := rfl
@[simp] theorem rs_laws_szOutMove : fa_laws_szOutMove.rs = [.tmp 4] := rfl
@[simp] theorem fz_laws_szOutMove : fa_laws_szOutMove.fz = true := rfl
theorem go_laws_szOutMove {args : List PV} {σ : List AObj} {r : PV × List AObj} (hl : args.length ≤ 13) (h : rE fns fa_laws_szOutMove σ.length [.code ac_laws_szOutMove] (frA 0 args) σ = some r) : ev fns i_laws_szOutMove args σ = some r := ev_go n_laws_szOutMove hl h
@[simp] theorem nt_laws_szOutMoveS : fa_laws_szOutMoveS.nt = 27 := rfl
@[simp] theorem rs_laws_szOutMoveS : fa_laws_szOutMoveS.rs = [.tmp 4] := rfl
@[simp] theorem fz_laws_szOutMoveS : fa_laws_szOutMoveS.fz = true := rfl
theorem go_laws_szOutMoveS {args : List PV} {σ : List AObj} {r : PV × List AObj} (hl : args.length ≤ 27) (h : rE fns fa_laws_szOutMoveS σ.length [.code ac_laws_szOutMoveS] (frA 0 args) σ = some r) : ev fns i_laws_szOutMoveS args σ = some r := ev_go n_laws_szOutMoveS hl h
theorem l_laws_szOutMoveS_0 {ks : List KI} {l : Fr} {σ : List AObj} {n0 : Nat} : rE fns fa_laws_szOutMoveS n0 (.code lo_laws_szOutMoveS_0 :: ks) l σ = rE fns fa_laws_szOutMoveS n0 (.code lb_laws_szOutMoveS_0 :: .code lo_laws_szOutMoveS_0 :: ks) l σ := rE_loop
@[simp] theorem nt_laws_szOutMoveSS : fa_laws_szOutMoveSS.nt = 27 := rfl
@[simp] theorem rs_laws_szOutMoveSS : fa_laws_szOutMoveSS.rs = [.tmp 4] := rfl
@[simp] theorem fz_laws_szOutMoveSS : fa_laws_szOutMoveSS.fz = true := rfl
theorem go_laws_szOutMoveSS {args : List PV} {σ : List AObj} {r : PV × List AObj} (hl : args.length ≤ 27) (h : rE fns fa_laws_szOutMoveSS σ.length [.code ac_laws_szOutMoveSS] (frA 0 args) σ = some r) : ev fns i_laws_szOutMoveSS args σ = some r := ev_go n_laws_szOutMoveSS hl h
theorem l_laws_szOutMoveSS_0 {ks : List KI} {l : Fr} {σ : List AObj} {n0 : Nat} : rE fns fa_laws_szOutMoveSS n0 (.code lo_laws_szOutMoveSS_0 :: ks) l σ = rE fns fa_laws_szOutMoveSS n0 (.code lb_laws_szOutMoveSS_0 :: .code lo_laws_szOutMoveSS_0 :: ks) l σ := rE_loop
@[simp] theorem nt_laws_szOutMoveSSS : fa_laws_szOutMoveSSS.nt = 27 := rfl
@[simp] theorem rs_laws_szOutMoveSSS : fa_laws_szOutMoveSSS.rs = [.tmp 4] := rfl
@[simp] theorem fz_laws_szOutMoveSSS : fa_laws_szOutMoveSSS.fz = true := rfl
theorem go_laws_szOutMoveSSS {args : List PV} {σ : List AObj} {r : PV × List AObj} (hl : args.length ≤ 27) (h : rE fns fa_laws_szOutMoveSSS σ.length [.code ac_laws_szOutMoveSSS] (frA 0 args) σ = some r) : ev fns i_laws_szOutMoveSSS args σ = some r := ev_go n_laws_szOutMoveSSS hl h
theorem l_laws_szOutMoveSSS_0 {ks : List KI} {l : Fr} {σ : List AObj} {n0 : Nat} : rE fns fa_laws_szOutMoveSSS n0 (.code lo_laws_szOutMoveSSS_0 :: ks) l σ = rE fns fa_laws_szOutMoveSSS n0 (.code lb_laws_szOutMoveSSS_0 :: .code lo_laws_szOutMoveSSS_0 :: ks) l σ := rE_loop
@[simp] theorem nt_laws_szRewriter : fa_laws_szRewriter.nt = 24 := rfl
@[simp] theorem rs_laws_szRewriter : fa_laws_szRewriter.rs = [.tmp 4] := rfl
@[simp] theorem fz_laws_szRewriter : fa_laws_szRewriter.fz = true := rfl
theorem go_laws_szRewriter {args : List PV} {σ : List AObj} {r : PV × List AObj} (hl : args.length ≤ 24) (h : rE fns fa_laws_szRewriter σ.length [.code ac_laws_szRewriter] (frA 0 args) σ = some r) : ev fns i_laws_szRewriter args σ = some r := ev_go n_laws_szRewriter hl h
@[simp] theorem nt_spec_l06SameMoves : fa_spec_l06SameMoves.nt = 26 := rfl
@[simp] theorem rs_spec_l06SameMoves : fa_spec_l06SameMoves.rs = [.tmp 4] := rfl
@[simp] theorem fz_spec_l06SameMoves : fa_spec_l06SameMoves.fz = true := rfl
theorem go_spec_l06SameMoves {args : List PV} {σ : List AObj} {r : PV × List AObj} (hl : args.length ≤ 26) (h : rE fns fa_spec_l06SameMoves σ.length [.code ac_spec_l06SameMoves] (frA 0 args) σ = some r) : ev fns i_spec_l06SameMoves args σ = some r := ev_go n_spec_l06SameMoves hl h
theorem l_spec_l06SameMoves_0 {ks : List KI} {l : Fr} {σ : List AObj} {n0 : Nat} : rE fns fa_spec_l06SameMoves n0 (.code lo_spec_l06SameMoves_0 :: ks) l σ = rE fns fa_spec_l06SameMoves n0 (.code lb_spec_l06SameMoves_0 :: .code lo_spec_l06SameMoves_0 :: ks) l σ := rE_loop
@[simp] theorem nt_spec_SameRewriter : fa_spec_SameRewriter.nt = 163 := rfl
@[simp] theorem rs_spec_SameRewriter : fa_spec_SameRewriter.rs = [.tmp 4] := rfl
@[simp] theorem fz_spec_SameRewriter : fa_spec_SameRewriter.fz = true := rfl
theorem go_spec_SameRewriter {args : List PV} {σ : List AObj} {r : PV × List AObj} (hl : args.length ≤ 163) (h : rE fns fa_spec_SameRewriter σ.length [.code ac_spec_SameRewriter] (frA 0 args) σ = some r) : ev fns i_spec_SameRewriter args σ = some r := ev_go n_spec_SameRewriter hl h
theorem l_spec_SameRewriter_0 {ks : List KI} {l : Fr} {σ : List AObj} {n0 : Nat} : rE fns fa_spec_SameRewriter n0 (.code lo_spec_SameRewriter_0 :: ks) l σ = rE fns fa_spec_SameRewriter n0 (.code lb_spec_SameRewriter_0 :: .code lo_spec_SameRewriter_0 :: ks) l σ := rE_loop
theorem l_spec_SameRewriter_1 {ks : List KI} {l : Fr} {σ : List AObj} {n0 : Nat} : rE fns fa_spec_SameRewriter n0 (.code lo_spec_SameRewriter_1 :: ks) l σ = rE fns fa_spec_SameRewriter n0 (.code lb_spec_SameRewriter_1 :: .code lo_spec_SameRewriter_1 :: ks) l σ := rE_loop
theorem l_spec_SameRewriter_2 {ks : List KI} {l : Fr} {σ : List AObj} {n0 : Nat} : rE fns fa_spec_SameRewriter n0 (.code lo_spec_SameRewriter_2 :: ks) l σ = rE fns fa_spec_SameRewriter n0 (.code lb_spec_SameRewriter_2 :: .code lo_spec_SameRewriter_2 :: ks) l σ := rE_loop
theorem l_spec_SameRewriter_3 {ks : List KI} {l : Fr} {σ : List AObj} {n0 : Nat} : rE fns fa_spec_SameRewriter n0 (.code lo_spec_SameRewriter_3 :: ks) l σ = rE fns fa_spec_SameRewriter n0 (.code lb_spec_SameRewriter_3 :: .code lo_spec_SameRewriter_3 :: ks) l σ := rE_loop
theorem l_spec_SameRewriter_4 {ks : List KI} {l : Fr} {σ : List AObj} {n0 : Nat} : rE fns fa_spec_SameRewriter n0 (.code lo_spec_SameRewriter_4 :: ks) l σ = rE fns fa_spec_SameRewriter n0 (.code lb_spec_SameRewriter_4 :: .code lo_spec_SameRewriter_4 :: ks) l σ := rE_loop
@[simp] theorem nt_laws_toOutPush : fa_laws_toOutPush.nt = 14 := rfl
@[simp] theorem rs_laws_toOutPush : fa_laws_toOutPush.rs = [.cell 2 3 true] := rfl
@[simp] theorem fz_laws_toOutPush : fa_laws_toOutPush.fz = true := rfl
theorem go_laws_toOutPush {args : List PV} {σ : List AObj} {r : PV × List AObj} (hl : args.length ≤ 14) (h : rE fns fa_laws_toOutPush σ.length [.code ac_laws_toOutPush] (frA 0 args) σ = some r) : ev fns i_laws_toOutPush args σ = some r := ev_go n_laws_toOutPush hl h
@[simp] theorem nt_laws_toOutPushS : fa_laws_toOutPushS.nt = 23 := rfl
@[simp] theorem rs_laws_toOutPushS : fa_laws_toOutPushS.rs = [.tmp 2] := rfl
@[simp] theorem fz_laws_toOutPushS : fa_laws_toOutPushS.fz = true := rfl
theorem go_laws_toOutPushS {args : List PV} {σ : List AObj} {r : PV × List AObj} (hl : args.length ≤ 23) (h : rE fns fa_laws_toOutPushS σ.length [.code ac_laws_toOutPushS] (frA 0 args) σ = some r) : ev fns i_laws_toOutPushS args σ = some r := ev_go n_laws_toOutPushS hl h
theorem l_laws_toOutPushS_0 {ks : List KI} {l : Fr} {σ : List AObj} {n0 : Nat} : rE fns fa_laws_toOutPushS n0 (.code lo_laws_toOutPushS_0 :: ks) l σ = rE fns fa_laws_toOutPushS n0 (.code lb_laws_toOutPushS_0 :: .code lo_laws_toOutPushS_0 :: ks) l σ := rE_loop
@[simp] theorem nt_laws_toOutPushSS : fa_laws_toOutPushSS.nt = 23 := rfl
@[simp] theorem rs_laws_toOutPushSS : fa_laws_toOutPushSS.rs = [.tmp 2] := rfl
@[simp] theorem fz_laws_toOutPushSS : fa_laws_toOutPushSS.fz = true := rfl
theorem go_laws_toOutPushSS {args : List PV} {σ : List AObj} {r : PV × List AObj} (hl : args.length ≤ 23) (h : rE fns fa_laws_toOutPushSS σ.length [.code ac_laws_toOutPushSS] (frA 0 args) σ = some r) : ev fns i_laws_toOutPushSS args σ = some r := ev_go n_laws_toOutPushSS hl h
theorem l_laws_toOutPushSS_0 {ks : List KI} {l : Fr} {σ : List AObj} {n0 : Nat} : rE fns fa_laws_toOutPushSS n0 (.code lo_laws_toOutPushSS_0 :: ks) l σ = rE fns fa_laws_toOutPushSS n0 (.code lb_laws_toOutPushSS_0 :: .code lo_laws_toOutPushSS_0 :: ks) l σ := rE_loop
@[simp] theorem nt_laws_toOutMove : fa_laws_toOutMove.nt = 11 := rfl
@[simp] theorem rs_laws_toOutMove : fa_laws_toOutMove.rs = [.cell 2 2 true] := rfl
@[simp] theorem fz_laws_toOutMove : fa_laws_toOutMove.fz = true := rfl
theorem go_laws_toOutMove {args : List PV} {σ : List AObj} {r : PV × List AObj} (hl : args.length ≤ 11) (h : rE fns fa_laws_toOutMove σ.length [.code ac_laws_toOutMove] (frA 0 args) σ = some r) : ev fns i_laws_toOutMove args σ = some r := ev_go n_laws_toOutMove hl h
@[simp] theorem nt_laws_toOutMoveS : fa_laws_toOutMoveS.nt = 23 := rfl
@[simp] theorem rs_laws_toOutMoveS : fa_laws_toOutMoveS.rs = [.tmp 2] := rfl
@[simp] theorem fz_laws_toOutMoveS : fa_laws_toOutMoveS.fz = true := rfl
theorem go_laws_toOutMoveS {args : List PV} {σ : List AObj} {r : PV × List AObj} (hl : args.length ≤ 23) (h : rE fns fa_laws_toOutMoveS σ.length [.code ac_laws_toOutMoveS] (frA 0 args) σ = some r) : ev fns i_laws_toOutMoveS args σ = some r := ev_go n_laws_toOutMoveS hl h
theorem l_laws_toOutMoveS_0 {ks : List KI} {l : Fr} {σ : List AObj} {n0 : Nat} : rE fns fa_laws_toOutMoveS n0 (.code lo_laws_toOutMoveS_0 :: ks) l σ = rE fns fa_laws_toOutMoveS n0 (.code lb_laws_toOutMoveS_0 :: .code lo_laws_toOutMoveS_0 :: ks) l σ := rE_loop
@[simp] theorem nt_laws_toOutMoveSS : fa_laws_toOutMoveSS.nt = 23 := rfl
@[simp] theorem rs_laws_toOutMoveSS : fa_laws_toOutMoveSS.rs = [.tmp 2] := rfl
@[simp] theorem fz_laws_toOutMoveSS : fa_laws_toOutMoveSS.fz = true := rfl
theorem go_laws_toOutMoveSS {args : List PV} {σ : List AObj} {r : PV × List AObj} (hl : args.length ≤ 23) (h : rE fns fa_laws_toOutMoveSS σ.length [.code ac_laws_toOutMoveSS] (frA 0 args) σ = some r) : ev fns i_laws_toOutMoveSS args σ = some r := ev_go n_laws_toOutMoveSS hl h
theorem l_laws_toOutMoveSS_0 {ks : List KI} {l : Fr} {σ : List AObj} {n0 : Nat} : rE fns fa_laws_toOutMoveSS n0 (.code lo_laws_toOutMoveSS_0 :: ks) l σ = rE fns fa_laws_toOutMoveSS n0 (.code lb_laws_toOutMoveSS_0 :: .code lo_laws_toOutMoveSS_0 :: ks) l σ := rE_loop
@[simp] theorem nt_laws_toOutMoveSSS : fa_laws_toOutMoveSSS.nt = 23 := rfl
@[simp] theorem rs_laws_toOutMoveSSS : fa_laws_toOutMoveSSS.rs = [.tmp 2] := rfl
@[simp] theorem fz_laws_toOutMoveSSS : fa_laws_toOutMoveSSS.fz = true := rfl
theorem go_laws_toOutMoveSSS {args : List PV} {σ : List AObj} {r : PV × List AObj} (hl : args.length ≤ 23) (h : rE fns fa_laws_toOutMoveSSS σ.length [.code ac_laws_toOutMoveSSS] (frA 0 args) σ = some r) : ev fns i_laws_toOutMoveSSS args σ = some r := ev_go n_laws_toOutMoveSSS hl h
theorem l_laws_toOutMoveSSS_0 {ks : List KI} {l : Fr} {σ : List AObj} {n0 : Nat} : rE fns fa_laws_toOutMoveSSS n0 (.code lo_laws_toOutMoveSSS_0 :: ks) l σ = rE fns fa_laws_toOutMoveSSS n0 (.code lb_laws_toOutMoveSSS_0 :: .code lo_laws_toOutMoveSSS_0 :: ks) l σ := rE_loop
@[simp] theorem nt_laws_toRewriter : fa_laws_toRewriter.nt = 23 := rfl
@[simp] theorem rs_laws_toRewriter : fa_laws_toRewriter.rs = [.cell 2 5 true] := rfl
@[simp] theorem fz_laws_toRewriter : fa_laws_toRewriter.fz = true := rfl
theorem go_laws_toRewriter {args : List PV} {σ : List AObj} {r : PV × List AObj} (hl : args.length ≤ 23) (h : rE fns fa_laws_toRewriter σ.length [.code ac_laws_toRewriter] (frA 0 args) σ = some r) : ev fns i_laws_toRewriter args σ = some r := ev_go n_laws_toRewriter hl h
@[simp] theorem nt_slices_EqualFunc_L_L_impl_OutMove : fa_slices_EqualFunc_L_L_impl_OutMove.nt = 32 := rfl
@[simp] theorem rs_slices_EqualFunc_L_L_impl_OutMove : fa_slices_EqualFunc_L_L_impl_OutMove.rs = [.tmp 6] := rfl
@[simp] theorem fz_slices_EqualFunc_L_L_impl_OutMove : fa_slices_EqualFunc_L_L_impl_OutMove.fz = true := rfl
theorem go_slices_EqualFunc_L_L_impl_OutMove {args : List PV} {σ : List AObj} {r : PV × List AObj} (hl : args.length ≤ 32) (h : rE fns fa_slices_EqualFunc_L_L_impl_OutMove σ.length [.code ac_slices_EqualFunc_L_L_impl_OutMove] (frA 0 args) σ = some r) : ev fns i_slices_EqualFunc_L_L_impl_OutMove args σ = some r := ev_go n_slices_EqualFunc_L_L_impl_OutMove hl h
theorem l_slices_EqualFunc_L_L_impl_OutMove_0 {ks : List KI} {l : Fr} {σ : List AObj} {n0 : Nat} : rE fns fa_slices_EqualFunc_L_L_impl_OutMove n0 (.code lo_slices_EqualFunc_L_L_impl_OutMove_0 :: ks) l σ = rE fns fa_slices_EqualFunc_L_L_impl_OutMove n0 (.code lb_slices_EqualFunc_L_L_impl_OutMove_0 :: .code lo_slices_EqualFunc_L_L_impl_OutMove_0 :: ks) l σ := rE_loop
@[simp] theorem nt_slices_Equal_L_impl_OutMove : fa_slices_Equal_L_impl_OutMove.nt = 26 := rfl
@[simp] theorem rs_slices_Equal_L_impl_OutMove : fa_slices_Equal_L_impl_OutMove.rs = [.tmp 4] := rfl
@[simp] theorem fz_slices_Equal_L_impl_OutMove : fa_slices_Equal_L_impl_OutMove.fz = true := rfl
theorem go_slices_Equal_L_impl_OutMove {args : List PV} {σ : List AObj} {r : PV × List AObj} (hl : args.length ≤ 26) (h : rE fns fa_slices_Equal_L_impl_OutMove σ.length [.code ac_slices_Equal_L_impl_OutMove] (frA 0 args) σ = some r) : ev fns i_slices_Equal_L_impl_OutMove args σ = some r := ev_go n_slices_Equal_L_impl_OutMove hl h
theorem l_slices_Equal_L_impl_OutMove_0 {ks : List KI} {l : Fr} {σ : List AObj} {n0 : Nat} : rE fns fa_slices_Equal_L_impl_OutMove n0 (.code lo_slices_Equal_L_impl_OutMove_0 :: ks) l σ = rE fns fa_slices_Equal_L_impl_OutMove n0 (.code lb_slices_Equal_L_impl_OutMove_0 :: .code lo_slices_Equal_L_impl_OutMove_0 :: ks) l σ := rE_loop
@[simp] theorem nt_impl_SameRewriter_1 : fa_impl_SameRewriter_1.nt = 8 := rfl
@[simp] theorem rs_impl_SameRewriter_1 : fa_impl_SameRewriter_1.rs = [.tmp 4] := rfl
@[simp] theorem fz_impl_SameRewriter_1 : fa_impl_SameRewriter_1.fz = true := rfl
theorem go_impl_SameRewriter_1 {args : List PV} {σ : List AObj} {r : PV × List AObj} (hl : args.length ≤ 8) (h : rE fns fa_impl_SameRewriter_1 σ.length [.code ac_impl_SameRewriter_1] (frA 0 args) σ = some r) : ev fns i_impl_SameRewriter_1 args σ = some r := ev_go n_impl_SameRewriter_1 hl h
@[simp] theorem nt_slices_EqualFunc_L_L_impl_OutPush : fa_slices_EqualFunc_L_L_impl_OutPush.nt = 32 := rfl
@[simp] theorem rs_slices_EqualFunc_L_L_impl_OutPush : fa_slices_EqualFunc_L_L_impl_OutPush.rs = [.tmp 6] := rfl
@[simp] theorem fz_slices_EqualFunc_L_L_impl_OutPush : fa_slices_EqualFunc_L_L_impl_OutPush.fz = true := rfl
theorem go_slices_EqualFunc_L_L_impl_OutPush {args : List PV} {σ : List AObj} {r : PV × List AObj} (hl : args.length ≤ 32) (h : rE fns fa_slices_EqualFunc_L_L_impl_OutPush σ.length [.code ac_slices_EqualFunc_L_L_impl_OutPush] (frA 0 args) σ = some r) : ev fns i_slices_EqualFunc_L_L_impl_OutPush args σ = some r := ev_go n_slices_EqualFunc_L_L_impl_OutPush hl h
theorem l_slices_EqualFunc_L_L_impl_OutPush_0 {ks : List KI} {l : Fr} {σ : List AObj} {n0 : Nat} : rE fns fa_slices_EqualFunc_L_L_impl_OutPush n0 (.code lo_slices_EqualFunc_L_L_impl_OutPush_0 :: ks) l σ = rE fns fa_slices_EqualFunc_L_L_impl_OutPush n0 (.code lb_slices_EqualFunc_L_L_impl_OutPush_0 :: .code lo_slices_EqualFunc_L_L_impl_OutPush_0 :: ks) l σ := rE_loop
@[simp] theorem nt_slices_Equal_L_impl_OutPush : fa_slices_Equal_L_impl_OutPush.nt = 26 := rfl
@[simp] theorem rs_slices_Equal_L_impl_OutPush : fa_slices_Equal_L_impl_OutPush.rs = [.tmp 4] := rfl
@[simp] theorem fz_slices_Equal_L_impl_OutPush : fa_slices_Equal_L_impl_OutPush.fz = true := rfl
theorem go_slices_Equal_L_impl_OutPush {args : List PV} {σ : List AObj} {r : PV × List AObj} (hl : args.length ≤ 26) (h : rE fns fa_slices_Equal_L_impl_OutPush σ.length [.code ac_slices_Equal_L_impl_OutPush] (frA 0 args) σ = some r) : ev fns i_slices_Equal_L_impl_OutPush args σ = some r := ev_go n_slices_Equal_L_impl_OutPush hl h
theorem l_slices_Equal_L_impl_OutPush_0 {ks : List KI} {l : Fr} {σ : List AObj} {n0 : Nat} : rE fns fa_slices_Equal_L_impl_OutPush n0 (.code lo_slices_Equal_L_impl_OutPush_0 :: ks) l σ = rE fns fa_slices_Equal_L_impl_OutPush n0 (.code lb_slices_Equal_L_impl_OutPush_0 :: .code lo_slices_Equal_L_impl_OutPush_0 :: ks) l σ := rE_loop
@[simp] theorem nt_slices_EqualFunc_L_L_L_impl_OutMove : fa_slices_EqualFunc_L_L_L_impl_OutMove.nt = 32 := rfl
@[simp] theorem rs_slices_EqualFunc_L_L_L_impl_OutMove : fa_slices_EqualFunc_L_L_L_impl_OutMove.rs = [.tmp 6] := rfl
@[simp] theorem fz_slices_EqualFunc_L_L_L_impl_OutMove : fa_slices_EqualFunc_L_L_L_impl_OutMove.fz = true := rfl
theorem go_slices_EqualFunc_L_L_L_impl_OutMove {args : List PV} {σ : List AObj} {r : PV × List AObj} (hl : args.length ≤ 32) (h : rE fns fa_slices_EqualFunc_L_L_L_impl_OutMove σ.length [.code ac_slices_EqualFunc_L_L_L_impl_OutMove] (frA 0 args) σ = some r) : ev fns i_slices_EqualFunc_L_L_L_impl_OutMove args σ = some r := ev_go n_slices_EqualFunc_L_L_L_impl_OutMove hl h
theorem l_slices_EqualFunc_L_L_L_impl_OutMove_0 {ks : List KI} {l : Fr} {σ : List AObj} {n0 : Nat} : rE fns fa_slices_EqualFunc_L_L_L_impl_OutMove n0 (.code lo_slices_EqualFunc_L_L_L_impl_OutMove_0 :: ks) l σ = rE fns fa_slices_EqualFunc_L_L_L_impl_OutMove n0 (.code lb_slices_EqualFunc_L_L_L_impl_OutMove_0 :: .code lo_slices_EqualFunc_L_L_L_impl_OutMove_0 :: ks) l σ := rE_loop
@[simp] theorem nt_impl_SameRewriter : fa_impl_SameRewriter.nt = 41 := rfl
@[simp] theorem rs_impl_SameRewriter : fa_impl_SameRewriter.rs = [.tmp 4] := rfl
@[simp] theorem fz_impl_SameRewriter : fa_impl_SameRewriter.fz = true := rfl
theorem go_impl_SameRewriter {args : List PV} {σ : List AObj} {r : PV × List AObj} (hl : args.length ≤ 41) (h : rE fns fa_impl_SameRewriter σ.length [.code ac_impl_SameRewriter] (frA 0 args) σ = some r) : ev fns i_impl_SameRewriter args σ = some r := ev_go n_impl_SameRewriter hl h
@[simp] theorem nt_laws_FnExactSameRewriter : fa_laws_FnExactSameRewriter.nt = 45 := rfl
@[simp] theorem rs_laws_FnExactSameRewriter : fa_laws_FnExactSameRewriter.rs = [.tmp 4] := rfl
@[simp] theorem fz_laws_FnExactSameRewriter : fa_laws_FnExactSameRewriter.fz = true := rfl
theorem go_laws_FnExactSameRewriter {args : List PV} {σ : List AObj} {r : PV × List AObj} (hl : args.length ≤ 45) (h : rE fns fa_laws_FnExactSameRewriter σ.length [.code ac_laws_FnExactSameRewriter] (frA 0 args) σ = some r) : ev fns i_laws_FnExactSameRewriter args σ = some r := ev_go n_laws_FnExactSameRewriter hl h
@[simp] theorem nt_spec_RenameRewriter : fa_spec_RenameRewriter.nt = 110 := rfl
@[simp] theorem rs_spec_RenameRewriter : fa_spec_RenameRewriter.rs = [.cell 2 5 true, .tmp 3] := rfl
@[simp] theorem fz_spec_RenameRewriter : fa_spec_RenameRewriter.fz = true := rfl
theorem go_spec_RenameRewriter {args : List PV} {σ : List AObj} {r : PV × List AObj} (hl : args.length ≤ 110) (h : rE fns fa_spec_RenameRewriter σ.length [.code ac_spec_RenameRewriter] (frA 0 args) σ = some r) : ev fns i_spec_RenameRewriter args σ = some r := ev_go n_spec_RenameRewriter hl h
theorem l_spec_RenameRewriter_0 {ks : List KI} {l : Fr} {σ : List AObj} {n0 : Nat} : rE fns fa_spec_RenameRewriter n0 (.code lo_spec_RenameRewriter_0 :: ks) l σ = rE fns fa_spec_RenameRewriter n0 (.code lb_spec_RenameRewriter_0 :: .code lo_spec_RenameRewriter_0 :: ks) l σ := rE_loop
@[simp] theorem nt_impl_isInner : fa_impl_isInner.nt = 9 := rfl
@[simp] theorem rs_impl_isInner : fa_impl_isInner.rs = [.tmp 2] := rfl
@[simp] theorem fz_impl_isInner : fa_impl_isInner.fz = true := rfl
theorem go_impl_isInner {args : List PV} {σ : List AObj} {r : PV × List AObj} (hl : args.length ≤ 9) (h : rE fns fa_impl_isInner σ.length [.code ac_impl_isInner] (frA 0 args) σ = some r) : ev fns i_impl_isInner args σ = some r := ev_go n_impl_isInner hl h
@[simp] theorem nt_impl_RenameRewriter_1 : fa_impl_RenameRewriter_1.nt = 9 := rfl
@[simp] theorem rs_impl_RenameRewriter_1 : fa_impl_RenameRewriter_1.rs = [.tmp 3] := rfl
@[simp] theorem fz_impl_RenameRewriter_1 : fa_impl_RenameRewriter_1.fz = true := rfl
theorem go_impl_RenameRewriter_1 {args : List PV} {σ : List AObj} {r : PV × List AObj} (hl : args.length ≤ 9) (h : rE fns fa_impl_RenameRewriter_1 σ.length [.code ac_impl_RenameRewriter_1] (frA 0 args) σ = some r) : ev fns i_impl_RenameRewriter_1 args σ = some r := ev_go n_impl_RenameRewriter_1 hl h
@[simp] theorem nt_impl_RenameRewriter : fa_impl_RenameRewriter.nt = 54 := rfl
@[simp] theorem rs_impl_RenameRewriter : fa_impl_RenameRewriter.rs = [.cell 2 5 true, .tmp 3] := rfl
@[simp] theorem fz_impl_RenameRewriter : fa_impl_RenameRewriter.fz = false := rfl
theorem go_impl_RenameRewriter {args : List PV} {σ : List AObj} {r : PV × List AObj} (hl : args.length ≤ 54) (h : rE fns fa_impl_RenameRewriter σ.length [.code ac_impl_RenameRewriter] (frA 0 args) σ = some r) : ev fns i_impl_RenameRewriter args σ = some r := ev_go n_impl_RenameRewriter hl h
theorem l_impl_RenameRewriter_0 {ks : List KI} {l : Fr} {σ : List AObj} {n0 : Nat} : rE fns fa_impl_RenameRewriter n0 (.code lo_impl_RenameRewriter_0 :: ks) l σ = rE fns fa_impl_RenameRewriter n0 (.code lb_impl_RenameRewriter_0 :: .code lo_impl_RenameRewriter_0 :: ks) l σ := rE_loop
@[simp] theorem nt_laws_FnExactRenameRewriter : fa_laws_FnExactRenameRewriter.nt = 66 := rfl
@[simp] theorem rs_laws_FnExactRenameRewriter : fa_laws_FnExactRenameRewriter.rs = [.tmp 2] := rfl
@[simp] theorem fz_laws_FnExactRenameRewriter : fa_laws_FnExactRenameRewriter.fz = true := rfl
theorem go_laws_FnExactRenameRewriter {args : List PV} {σ : List AObj} {r : PV × List AObj} (hl : args.length ≤ 66) (h : rE fns fa_laws_FnExactRenameRewriter σ.length [.code ac_laws_FnExactRenameRewriter] (frA 0 args) σ = some r) : ev fns i_laws_FnExactRenameRewriter args σ = some r := ev_go n_laws_FnExactRenameRewriter hl h
@[simp] theorem nt_spec_l06Given : fa_spec_l06Given.nt = 13 := rfl
@[simp] theorem rs_spec_l06Given : fa_spec_l06Given.rs = [.tmp 4] := rfl
@[simp] theorem fz_spec_l06Given : fa_spec_l06Given.fz = true := rfl
theorem go_spec_l06Given {args : List PV} {σ : List AObj} {r : PV × List AObj} (hl : args.length ≤ 13) (h : rE fns fa_spec_l06Given σ.length [.code ac_spec_l06Given] (frA 0 args) σ = some r) : ev fns i_spec_l06Given args σ = some r := ev_go n_spec_l06Given hl h
@[simp] theorem nt_spec_l01Told : fa_spec_l01Told.nt = 8 := rfl
@[simp] theorem rs_spec_l01Told : fa_spec_l01Told.rs = [.tmp 2, .tmp 3] := rfl
@[simp] theorem fz_spec_l01Told : fa_spec_l01Told.fz = true := rfl
theorem go_spec_l01Told {args : List PV} {σ : List AObj} {r : PV × List AObj} (hl : args.length ≤ 8) (h : rE fns fa_spec_l01Told σ.length [.code ac_spec_l01Told] (frA 0 args) σ = some r) : ev fns i_spec_l01Told args σ = some r := ev_go n_spec_l01Told hl h
@[simp] theorem nt_spec_PutAt : fa_spec_PutAt.nt = 36 := rfl
@[simp] theorem rs_spec_PutAt : fa_spec_PutAt.rs = [.tmp 6, .tmp 7] := rfl
@[simp] theorem fz_spec_PutAt : fa_spec_PutAt.fz = true := rfl
theorem go_spec_PutAt {args : List PV} {σ : List AObj} {r : PV × List AObj} (hl : args.length ≤ 36) (h : rE fns fa_spec_PutAt σ.length [.code ac_spec_PutAt] (frA 0 args) σ = some r) : ev fns i_spec_PutAt args σ = some r := ev_go n_spec_PutAt hl h
@[simp] theorem nt_spec_l01Closed : fa_spec_l01Closed.nt = 31 := rfl
@[simp] theorem rs_spec_l01Closed : fa_spec_l01Closed.rs = [.tmp 4, .tmp 5] := rfl
@[simp] theorem fz_spec_l01Closed : fa_spec_l01Closed.fz = true := rfl
theorem go_spec_l01Closed {args : List PV} {σ : List AObj} {r : PV × List AObj} (hl : args.length ≤ 31) (h : rE fns fa_spec_l01Closed σ.length [.code ac_spec_l01Closed] (frA 0 args) σ = some r) : ev fns i_spec_l01Closed args σ = some r := ev_go n_spec_l01Closed hl h
@[simp] theorem nt_spec_CutMatched : fa_spec_CutMatched.nt = 25 := rfl
@[simp] theorem rs_spec_CutMatched : fa_spec_CutMatched.rs = [.tmp 4, .tmp 5] := rfl
@[simp] theorem fz_spec_CutMatched : fa_spec_CutMatched.fz = true := rfl
theorem go_spec_CutMatched {args : List PV} {σ : List AObj} {r : PV × List AObj} (hl : args.length ≤ 25) (h : rE fns fa_spec_CutMatched σ.length [.code ac_spec_CutMatched] (frA 0 args) σ = some r) : ev fns i_spec_CutMatched args σ = some r := ev_go n_spec_CutMatched hl h
@[simp] theorem nt_spec_l06Made : fa_spec_l06Made.nt = 199 := rfl
@[simp] theorem rs_spec_l06Made : fa_spec_l06Made.rs = [.tmp 4, .tmp 5] := rfl
@[simp] theorem fz_spec_l06Made : fa_spec_l06Made.fz = true := rfl
theorem go_spec_l06Made {args : List PV} {σ : List AObj} {r : PV × List AObj} (hl : args.length ≤ 199) (h : rE fns fa_spec_l06Made σ.length [.code ac_spec_l06Made] (frA 0 args) σ = some r) : ev fns i_spec_l06Made args σ = some r := ev_go n_spec_l06Made hl h
@[simp] theorem nt_spec_EditTree : fa_spec_EditTree.nt = 16 := rfl
@[simp] theorem rs_spec_EditTree : fa_spec_EditTree.rs = [.tmp 4, .tmp 5] := rfl
@[simp] theorem fz_spec_EditTree : fa_spec_EditTree.fz = true := rfl
theorem go_spec_EditTree {args : List PV} {σ : List AObj} {r : PV × List AObj} (hl : args.length ≤ 16) (h : rE fns fa_spec_EditTree σ.length [.code ac_spec_EditTree] (frA 0 args) σ = some r) : ev fns i_spec_EditTree args σ = some r := ev_go n_spec_EditTree hl h
@[simp] theorem nt_impl_orLimit : fa_impl_orLimit.nt = 8 := rfl
@[simp] theorem rs_impl_orLimit : fa_impl_orLimit.rs = [.tmp 2, .tmp 3] := rfl
@[simp] theorem fz_impl_orLimit : fa_impl_orLimit.fz = true := rfl
theorem go_impl_orLimit {args : List PV} {σ : List AObj} {r : PV × List AObj} (hl : args.length ≤ 8) (h : rE fns fa_impl_orLimit σ.length [.code ac_impl_orLimit] (frA 0 args) σ = some r) : ev fns i_impl_orLimit args σ = some r := ev_go n_impl_orLimit hl h
@[simp] theorem nt_impl_PutAt : fa_impl_PutAt.nt = 39 := rfl
@[simp] theorem rs_impl_PutAt : fa_impl_PutAt.rs = [.tmp 6, .tmp 7] := rfl
@[simp] theorem fz_impl_PutAt : fa_impl_PutAt.fz = true := rfl
theorem go_impl_PutAt {args : List PV} {σ : List AObj} {r : PV × List AObj} (hl : args.length ≤ 39) (h : rE fns fa_impl_PutAt σ.length [.code ac_impl_PutAt] (frA 0 args) σ = some r) : ev fns i_impl_PutAt args σ = some r := ev_go n_impl_PutAt hl h
@[simp] theorem nt_impl_bodyAt : fa_impl_bodyAt.nt = 34 := rfl
@[simp] theorem rs_impl_bodyAt : fa_impl_bodyAt.rs = [.tmp 4, .tmp 5] := rfl
@[simp] theorem fz_impl_bodyAt : fa_impl_bodyAt.fz = true := rfl
theorem go_impl_bodyAt {args : List PV} {σ : List AObj} {r : PV × List AObj} (hl : args.length ≤ 34) (h : rE fns fa_impl_bodyAt σ.length [.code ac_impl_bodyAt] (frA 0 args) σ = some r) : ev fns i_impl_bodyAt args σ = some r := ev_go n_impl_bodyAt hl h
@[simp] theorem nt_impl_CutMatched : fa_impl_CutMatched.nt = 25 := rfl
@[simp] theorem rs_impl_CutMatched : fa_impl_CutMatched.rs = [.tmp 4, .tmp 5] := rfl
@[simp] theorem fz_impl_CutMatched : fa_impl_CutMatched.fz = true := rfl
theorem go_impl_CutMatched {args : List PV} {σ : List AObj} {r : PV × List AObj} (hl : args.length ≤ 25) (h : rE fns fa_impl_CutMatched σ.length [.code ac_impl_CutMatched] (frA 0 args) σ = some r) : ev fns i_impl_CutMatched args σ = some r := ev_go n_impl_CutMatched hl h
@[simp] theorem nt_impl_editTree : fa_impl_editTree.nt = 121 := rfl
@[simp] theorem rs_impl_editTree : fa_impl_editTree.rs = [.tmp 4, .tmp 5] := rfl
@[simp] theorem fz_impl_editTree : fa_impl_editTree.fz = true := rfl
theorem go_impl_editTree {args : List PV} {σ : List AObj} {r : PV × List AObj} (hl : args.length ≤ 121) (h : rE fns fa_impl_editTree σ.length [.code ac_impl_editTree] (frA 0 args) σ = some r) : ev fns i_impl_editTree args σ = some r := ev_go n_impl_editTree hl h
@[simp] theorem nt_impl_EditTree : fa_impl_EditTree.nt = 19 := rfl
@[simp] theorem rs_impl_EditTree : fa_impl_EditTree.rs = [.tmp 4, .tmp 5] := rfl
@[simp] theorem fz_impl_EditTree : fa_impl_EditTree.fz = true := rfl
theorem go_impl_EditTree {args : List PV} {σ : List AObj} {r : PV × List AObj} (hl : args.length ≤ 19) (h : rE fns fa_impl_EditTree σ.length [.code ac_impl_EditTree] (frA 0 args) σ = some r) : ev fns i_impl_EditTree args σ = some r := ev_go n_impl_EditTree hl h
@[simp] theorem nt_laws_FnExactEditTree : fa_laws_FnExactEditTree.nt = 40 := rfl
@[simp] theorem rs_laws_FnExactEditTree : fa_laws_FnExactEditTree.rs = [.tmp 4] := rfl
@[simp] theorem fz_laws_FnExactEditTree : fa_laws_FnExactEditTree.fz = true := rfl
theorem go_laws_FnExactEditTree {args : List PV} {σ : List AObj} {r : PV × List AObj} (hl : args.length ≤ 40) (h : rE fns fa_laws_FnExactEditTree σ.length [.code ac_laws_FnExactEditTree] (frA 0 args) σ = some r) : ev fns i_laws_FnExactEditTree args σ = some r := ev_go n_laws_FnExactEditTree hl h
end Go.Proofs.Ytpjadhjjeafffaa
