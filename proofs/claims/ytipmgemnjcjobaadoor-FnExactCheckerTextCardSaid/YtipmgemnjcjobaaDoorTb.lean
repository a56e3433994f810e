/- The table of all functions; printed by a program (gen2.py). -/
import Derived.Test.YtipmgemnjcjobaaDoorAw30
import Derived.Test.YtipmgemnjcjobaaDoorG0
import Derived.Test.YtipmgemnjcjobaaDoorG1
set_option linter.unusedVariables false
set_option maxRecDepth 100000
namespace Go.Proofs.YtipmgemnjcjobaaDoor
open Aw
def tbl : List (FnE Tryd.prog) := [⟨i_laws_szBoolS, fa_laws_szBoolS, cf_laws_szBoolS⟩,
  ⟨i_laws_szPushS, fa_laws_szPushS, cf_laws_szPushS⟩,
  ⟨i_laws_szPushSS, fa_laws_szPushSS, cf_laws_szPushSS⟩,
  ⟨i_laws_szInt64S, fa_laws_szInt64S, cf_laws_szInt64S⟩,
  ⟨i_laws_szInt64SS, fa_laws_szInt64SS, cf_laws_szInt64SS⟩,
  ⟨i_laws_szInt64SSS, fa_laws_szInt64SSS, cf_laws_szInt64SSS⟩,
  ⟨i_laws_szChecker, fa_laws_szChecker, cf_laws_szChecker⟩,
  ⟨i_spec_l00In, fa_spec_l00In, cf_spec_l00In⟩,
  ⟨i_spec_l02List, fa_spec_l02List, cf_spec_l02List⟩,
  ⟨i_spec_l02Ok, fa_spec_l02Ok, cf_spec_l02Ok⟩,
  ⟨i_spec_Decimal, fa_spec_Decimal, cf_spec_Decimal⟩,
  ⟨i_spec_l02Row, fa_spec_l02Row, cf_spec_l02Row⟩,
  ⟨i_spec_CheckerText, fa_spec_CheckerText, cf_spec_CheckerText⟩,
  ⟨i_laws_toBoolS, fa_laws_toBoolS, cf_laws_toBoolS⟩,
  ⟨i_laws_toPush, fa_laws_toPush, cf_laws_toPush⟩,
  ⟨i_laws_toPushS, fa_laws_toPushS, cf_laws_toPushS⟩,
  ⟨i_laws_toPushSS, fa_laws_toPushSS, cf_laws_toPushSS⟩,
  ⟨i_laws_toInt64S, fa_laws_toInt64S, cf_laws_toInt64S⟩,
  ⟨i_laws_toInt64SS, fa_laws_toInt64SS, cf_laws_toInt64SS⟩,
  ⟨i_laws_toInt64SSS, fa_laws_toInt64SSS, cf_laws_toInt64SSS⟩,
  ⟨i_laws_toChecker, fa_laws_toChecker, cf_laws_toChecker⟩,
  ⟨i_internal_strconv_small, fa_internal_strconv_small, cf_internal_strconv_small⟩,
  ⟨i_internal_strconv_formatBase10, fa_internal_strconv_formatBase10, cf_internal_strconv_formatBase10⟩,
  ⟨i_internal_strconv_FormatInt, fa_internal_strconv_FormatInt, cf_internal_strconv_FormatInt⟩,
  ⟨i_strconv_FormatInt, fa_strconv_FormatInt, cf_strconv_FormatInt⟩,
  ⟨i_impl_decimal, fa_impl_decimal, cf_impl_decimal⟩,
  ⟨i_P_strings_Builder_copyCheck, fa_P_strings_Builder_copyCheck, cf_P_strings_Builder_copyCheck⟩,
  ⟨i_P_strings_Builder_WriteString, fa_P_strings_Builder_WriteString, cf_P_strings_Builder_WriteString⟩,
  ⟨i_P_strings_Builder_String, fa_P_strings_Builder_String, cf_P_strings_Builder_String⟩,
  ⟨i_impl_words, fa_impl_words, cf_impl_words⟩,
  ⟨i_impl_size_bool, fa_impl_size_bool, cf_impl_size_bool⟩,
  ⟨i_impl_within, fa_impl_within, cf_impl_within⟩,
  ⟨i_impl_Checker_isState, fa_impl_Checker_isState, cf_impl_Checker_isState⟩,
  ⟨i_impl_size_L_impl_Push, fa_impl_size_L_impl_Push, cf_impl_size_L_impl_Push⟩,
  ⟨i_impl_size_L_L_int64, fa_impl_size_L_L_int64, cf_impl_size_L_L_int64⟩,
  ⟨i_impl_size_L_int64, fa_impl_size_L_int64, cf_impl_size_L_int64⟩,
  ⟨i_impl_size_int64, fa_impl_size_int64, cf_impl_size_int64⟩,
  ⟨i_slices_IndexFunc_L_int64, fa_slices_IndexFunc_L_int64, cf_slices_IndexFunc_L_int64⟩,
  ⟨i_slices_ContainsFunc_L_int64, fa_slices_ContainsFunc_L_int64, cf_slices_ContainsFunc_L_int64⟩,
  ⟨i_impl_ValidChecker_1_1, fa_impl_ValidChecker_1_1, cf_impl_ValidChecker_1_1⟩,
  ⟨i_impl_ValidChecker_1, fa_impl_ValidChecker_1, cf_impl_ValidChecker_1⟩,
  ⟨i_impl_Checker_isMark, fa_impl_Checker_isMark, cf_impl_Checker_isMark⟩,
  ⟨i_impl_ValidChecker, fa_impl_ValidChecker, cf_impl_ValidChecker⟩,
  ⟨i_impl_yes, fa_impl_yes, cf_impl_yes⟩,
  ⟨i_slices_Grow_L_int64, fa_slices_Grow_L_int64, cf_slices_Grow_L_int64⟩,
  ⟨i_slices_Concat_L_int64, fa_slices_Concat_L_int64, cf_slices_Concat_L_int64⟩,
  ⟨i_impl_CheckerText, fa_impl_CheckerText, cf_impl_CheckerText⟩,
  ⟨i_laws_eqBoolS, fa_laws_eqBoolS, cf_laws_eqBoolS⟩,
  ⟨i_laws_eqPush, fa_laws_eqPush, cf_laws_eqPush⟩,
  ⟨i_laws_eqPushS, fa_laws_eqPushS, cf_laws_eqPushS⟩,
  ⟨i_laws_eqPushSS, fa_laws_eqPushSS, cf_laws_eqPushSS⟩,
  ⟨i_laws_eqInt64S, fa_laws_eqInt64S, cf_laws_eqInt64S⟩,
  ⟨i_laws_eqInt64SS, fa_laws_eqInt64SS, cf_laws_eqInt64SS⟩,
  ⟨i_laws_eqInt64SSS, fa_laws_eqInt64SSS, cf_laws_eqInt64SSS⟩,
  ⟨i_laws_eqChecker, fa_laws_eqChecker, cf_laws_eqChecker⟩,
  ⟨i_laws_FnExactCheckerText, fa_laws_FnExactCheckerText, cf_laws_FnExactCheckerText⟩,
  ⟨i_laws_szLink, fa_laws_szLink, cf_laws_szLink⟩,
  ⟨i_laws_szLinkS, fa_laws_szLinkS, cf_laws_szLinkS⟩,
  ⟨i_laws_szModule, fa_laws_szModule, cf_laws_szModule⟩,
  ⟨i_laws_szModuleS, fa_laws_szModuleS, cf_laws_szModuleS⟩,
  ⟨i_laws_szProgram, fa_laws_szProgram, cf_laws_szProgram⟩,
  ⟨i_spec_l01Call, fa_spec_l01Call, cf_spec_l01Call⟩,
  ⟨i_spec_l01Return, fa_spec_l01Return, cf_spec_l01Return⟩,
  ⟨i_spec_l06Brackets, fa_spec_l06Brackets, cf_spec_l06Brackets⟩,
  ⟨i_spec_l07Inner, fa_spec_l07Inner, cf_spec_l07Inner⟩,
  ⟨i_spec_l07Ok, fa_spec_l07Ok, cf_spec_l07Ok⟩,
  ⟨i_spec_l07Text, fa_spec_l07Text, cf_spec_l07Text⟩,
  ⟨i_spec_ProgramText, fa_spec_ProgramText, cf_spec_ProgramText⟩,
  ⟨i_laws_toLink, fa_laws_toLink, cf_laws_toLink⟩,
  ⟨i_laws_toLinkS, fa_laws_toLinkS, cf_laws_toLinkS⟩,
  ⟨i_laws_toModule, fa_laws_toModule, cf_laws_toModule⟩,
  ⟨i_laws_toModuleS, fa_laws_toModuleS, cf_laws_toModuleS⟩,
  ⟨i_laws_toProgram, fa_laws_toProgram, cf_laws_toProgram⟩,
  ⟨i_impl_size_impl_Module, fa_impl_size_impl_Module, cf_impl_size_impl_Module⟩,
  ⟨i_slices_IndexFunc_L_impl_Module, fa_slices_IndexFunc_L_impl_Module, cf_slices_IndexFunc_L_impl_Module⟩,
  ⟨i_slices_ContainsFunc_L_impl_Module, fa_slices_ContainsFunc_L_impl_Module, cf_slices_ContainsFunc_L_impl_Module⟩,
  ⟨i_slices_IndexFunc_L_impl_Link, fa_slices_IndexFunc_L_impl_Link, cf_slices_IndexFunc_L_impl_Link⟩,
  ⟨i_slices_ContainsFunc_L_impl_Link, fa_slices_ContainsFunc_L_impl_Link, cf_slices_ContainsFunc_L_impl_Link⟩,
  ⟨i_impl_isCall, fa_impl_isCall, cf_impl_isCall⟩,
  ⟨i_impl_isReturn, fa_impl_isReturn, cf_impl_isReturn⟩,
  ⟨i_impl_isBrackets, fa_impl_isBrackets, cf_impl_isBrackets⟩,
  ⟨i_impl_isLetter, fa_impl_isLetter, cf_impl_isLetter⟩,
  ⟨i_impl_ValidProgram_1_1, fa_impl_ValidProgram_1_1, cf_impl_ValidProgram_1_1⟩,
  ⟨i_impl_ValidProgram_1, fa_impl_ValidProgram_1, cf_impl_ValidProgram_1⟩,
  ⟨i_impl_ValidProgram, fa_impl_ValidProgram, cf_impl_ValidProgram⟩,
  ⟨i_impl_Link_isCallLink, fa_impl_Link_isCallLink, cf_impl_Link_isCallLink⟩,
  ⟨i_impl_ProgramText, fa_impl_ProgramText, cf_impl_ProgramText⟩,
  ⟨i_laws_eqLink, fa_laws_eqLink, cf_laws_eqLink⟩,
  ⟨i_laws_eqLinkS, fa_laws_eqLinkS, cf_laws_eqLinkS⟩,
  ⟨i_laws_eqModule, fa_laws_eqModule, cf_laws_eqModule⟩,
  ⟨i_laws_eqModuleS, fa_laws_eqModuleS, cf_laws_eqModuleS⟩,
  ⟨i_laws_eqProgram, fa_laws_eqProgram, cf_laws_eqProgram⟩,
  ⟨i_laws_FnExactProgramText, fa_laws_FnExactProgramText, cf_laws_FnExactProgramText⟩]
def fns : Fns := fnsOf tbl
theorem fnsOk : FnsOk Tryd.prog fns := fnsOf_ok tbl
theorem n_laws_szBoolS : fns i_laws_szBoolS = some fa_laws_szBoolS := rfl
@[simp] theorem c_laws_szBoolS (args : List PV) (σ : List AObj) : callM fns (ev fns) i_laws_szBoolS args σ = callN fns i_laws_szBoolS args σ := callM_np n_laws_szBoolS rfl rfl
theorem n_laws_szPushS : fns i_laws_szPushS = some fa_laws_szPushS := rfl
@[simp] theorem c_laws_szPushS (args : List PV) (σ : List AObj) : callM fns (ev fns) i_laws_szPushS args σ = callN fns i_laws_szPushS args σ := callM_np n_laws_szPushS rfl rfl
theorem n_laws_szPushSS : fns i_laws_szPushSS = some fa_laws_szPushSS := rfl
@[simp] theorem c_laws_szPushSS (args : List PV) (σ : List AObj) : callM fns (ev fns) i_laws_szPushSS args σ = callN fns i_laws_szPushSS args σ := callM_np n_laws_szPushSS rfl rfl
theorem n_laws_szInt64S : fns i_laws_szInt64S = some fa_laws_szInt64S := rfl
@[simp] theorem c_laws_szInt64S (args : List PV) (σ : List AObj) : callM fns (ev fns) i_laws_szInt64S args σ = callN fns i_laws_szInt64S args σ := callM_np n_laws_szInt64S rfl rfl
theorem n_laws_szInt64SS : fns i_laws_szInt64SS = some fa_laws_szInt64SS := rfl
@[simp] theorem c_laws_szInt64SS (args : List PV) (σ : List AObj) : callM fns (ev fns) i_laws_szInt64SS args σ = callN fns i_laws_szInt64SS args σ := callM_np n_laws_szInt64SS rfl rfl
theorem n_laws_szInt64SSS : fns i_laws_szInt64SSS = some fa_laws_szInt64SSS := rfl
@[simp] theorem c_laws_szInt64SSS (args : List PV) (σ : List AObj) : callM fns (ev fns) i_laws_szInt64SSS args σ = callN fns i_laws_szInt64SSS args σ := callM_np n_laws_szInt64SSS rfl rfl
theorem n_laws_szChecker : fns i_laws_szChecker = some fa_laws_szChecker := rfl
@[simp] theorem c_laws_szChecker (args : List PV) (σ : List AObj) : callM fns (ev fns) i_laws_szChecker args σ = callN fns i_laws_szChecker args σ := callM_np n_laws_szChecker rfl rfl
theorem n_spec_l00In : fns i_spec_l00In = some fa_spec_l00In := rfl
@[simp] theorem c_spec_l00In (args : List PV) (σ : List AObj) : callM fns (ev fns) i_spec_l00In args σ = callN fns i_spec_l00In args σ := callM_np n_spec_l00In rfl rfl
theorem n_spec_l02List : fns i_spec_l02List = some fa_spec_l02List := rfl
@[simp] theorem c_spec_l02List (args : List PV) (σ : List AObj) : callM fns (ev fns) i_spec_l02List args σ = callN fns i_spec_l02List args σ := callM_np n_spec_l02List rfl rfl
theorem n_spec_l02Ok : fns i_spec_l02Ok = some fa_spec_l02Ok := rfl
@[simp] theorem c_spec_l02Ok (args : List PV) (σ : List AObj) : callM fns (ev fns) i_spec_l02Ok args σ = callN fns i_spec_l02Ok args σ := callM_np n_spec_l02Ok rfl rfl
theorem n_spec_Decimal : fns i_spec_Decimal = some fa_spec_Decimal := rfl
@[simp] theorem c_spec_Decimal (args : List PV) (σ : List AObj) : callM fns (ev fns) i_spec_Decimal args σ = callN fns i_spec_Decimal args σ := callM_np n_spec_Decimal rfl rfl
theorem n_spec_l02Row : fns i_spec_l02Row = some fa_spec_l02Row := rfl
@[simp] theorem c_spec_l02Row (args : List PV) (σ : List AObj) : callM fns (ev fns) i_spec_l02Row args σ = callN fns i_spec_l02Row args σ := callM_np n_spec_l02Row rfl rfl
theorem n_spec_CheckerText : fns i_spec_CheckerText = some fa_spec_CheckerText := rfl
@[simp] theorem c_spec_CheckerText (args : List PV) (σ : List AObj) : callM fns (ev fns) i_spec_CheckerText args σ = callN fns i_spec_CheckerText args σ := callM_np n_spec_CheckerText rfl rfl
theorem n_laws_toBoolS : fns i_laws_toBoolS = some fa_laws_toBoolS := rfl
@[simp] theorem c_laws_toBoolS (args : List PV) (σ : List AObj) : callM fns (ev fns) i_laws_toBoolS args σ = callN fns i_laws_toBoolS args σ := callM_np n_laws_toBoolS rfl rfl
theorem n_laws_toPush : fns i_laws_toPush = some fa_laws_toPush := rfl
@[simp] theorem c_laws_toPush (args : List PV) (σ : List AObj) : callM fns (ev fns) i_laws_toPush args σ = callN fns i_laws_toPush args σ := callM_np n_laws_toPush rfl rfl
theorem n_laws_toPushS : fns i_laws_toPushS = some fa_laws_toPushS := rfl
@[simp] theorem c_laws_toPushS (args : List PV) (σ : List AObj) : callM fns (ev fns) i_laws_toPushS args σ = callN fns i_laws_toPushS args σ := callM_np n_laws_toPushS rfl rfl
theorem n_laws_toPushSS : fns i_laws_toPushSS = some fa_laws_toPushSS := rfl
@[simp] theorem c_laws_toPushSS (args : List PV) (σ : List AObj) : callM fns (ev fns) i_laws_toPushSS args σ = callN fns i_laws_toPushSS args σ := callM_np n_laws_toPushSS rfl rfl
theorem n_laws_toInt64S : fns i_laws_toInt64S = some fa_laws_toInt64S := rfl
@[simp] theorem c_laws_toInt64S (args : List PV) (σ : List AObj) : callM fns (ev fns) i_laws_toInt64S args σ = callN fns i_laws_toInt64S args σ := callM_np n_laws_toInt64S rfl rfl
theorem n_laws_toInt64SS : fns i_laws_toInt64SS = some fa_laws_toInt64SS := rfl
@[simp] theorem c_laws_toInt64SS (args : List PV) (σ : List AObj) : callM fns (ev fns) i_laws_toInt64SS args σ = callN fns i_laws_toInt64SS args σ := callM_np n_laws_toInt64SS rfl rfl
theorem n_laws_toInt64SSS : fns i_laws_toInt64SSS = some fa_laws_toInt64SSS := rfl
@[simp] theorem c_laws_toInt64SSS (args : List PV) (σ : List AObj) : callM fns (ev fns) i_laws_toInt64SSS args σ = callN fns i_laws_toInt64SSS args σ := callM_np n_laws_toInt64SSS rfl rfl
theorem n_laws_toChecker : fns i_laws_toChecker = some fa_laws_toChecker := rfl
@[simp] theorem c_laws_toChecker (args : List PV) (σ : List AObj) : callM fns (ev fns) i_laws_toChecker args σ = callN fns i_laws_toChecker args σ := callM_np n_laws_toChecker rfl rfl
theorem n_internal_strconv_small : fns i_internal_strconv_small = some fa_internal_strconv_small := rfl
@[simp] theorem c_internal_strconv_small (args : List PV) (σ : List AObj) : callM fns (ev fns) i_internal_strconv_small args σ = callN fns i_internal_strconv_small args σ := callM_np n_internal_strconv_small rfl rfl
theorem n_internal_strconv_formatBase10 : fns i_internal_strconv_formatBase10 = some fa_internal_strconv_formatBase10 := rfl
@[simp] theorem c_internal_strconv_formatBase10 (args : List PV) (σ : List AObj) : callM fns (ev fns) i_internal_strconv_formatBase10 args σ = callN fns i_internal_strconv_formatBase10 args σ := callM_np n_internal_strconv_formatBase10 rfl rfl
theorem n_internal_strconv_FormatInt : fns i_internal_strconv_FormatInt = some fa_internal_strconv_FormatInt := rfl
@[simp] theorem c_internal_strconv_FormatInt (args : List PV) (σ : List AObj) : callM fns (ev fns) i_internal_strconv_FormatInt args σ = callN fns i_internal_strconv_FormatInt args σ := callM_np n_internal_strconv_FormatInt rfl rfl
theorem n_strconv_FormatInt : fns i_strconv_FormatInt = some fa_strconv_FormatInt := rfl
@[simp] theorem c_strconv_FormatInt (args : List PV) (σ : List AObj) : callM fns (ev fns) i_strconv_FormatInt args σ = callN fns i_strconv_FormatInt args σ := callM_np n_strconv_FormatInt rfl rfl
theorem n_impl_decimal : fns i_impl_decimal = some fa_impl_decimal := rfl
@[simp] theorem c_impl_decimal (args : List PV) (σ : List AObj) : callM fns (ev fns) i_impl_decimal args σ = callN fns i_impl_decimal args σ := callM_np n_impl_decimal rfl rfl
theorem n_P_strings_Builder_copyCheck : fns i_P_strings_Builder_copyCheck = some fa_P_strings_Builder_copyCheck := rfl
@[simp] theorem c_P_strings_Builder_copyCheck (args : List PV) (σ : List AObj) : callM fns (ev fns) i_P_strings_Builder_copyCheck args σ = ev fns i_P_strings_Builder_copyCheck args σ := by simp [callM, n_P_strings_Builder_copyCheck, fa_P_strings_Builder_copyCheck]
theorem n_P_strings_Builder_WriteString : fns i_P_strings_Builder_WriteString = some fa_P_strings_Builder_WriteString := rfl
@[simp] theorem c_P_strings_Builder_WriteString (args : List PV) (σ : List AObj) : callM fns (ev fns) i_P_strings_Builder_WriteString args σ = ev fns i_P_strings_Builder_WriteString args σ := by simp [callM, n_P_strings_Builder_WriteString, fa_P_strings_Builder_WriteString]
theorem n_P_strings_Builder_String : fns i_P_strings_Builder_String = some fa_P_strings_Builder_String := rfl
@[simp] theorem c_P_strings_Builder_String (args : List PV) (σ : List AObj) : callM fns (ev fns) i_P_strings_Builder_String args σ = ev fns i_P_strings_Builder_String args σ := by simp [callM, n_P_strings_Builder_String, fa_P_strings_Builder_String]
theorem n_impl_words : fns i_impl_words = some fa_impl_words := rfl
@[simp] theorem c_impl_words (args : List PV) (σ : List AObj) : callM fns (ev fns) i_impl_words args σ = callN fns i_impl_words args σ := callM_np n_impl_words rfl rfl
theorem n_impl_size_bool : fns i_impl_size_bool = some fa_impl_size_bool := rfl
@[simp] theorem c_impl_size_bool (args : List PV) (σ : List AObj) : callM fns (ev fns) i_impl_size_bool args σ = callN fns i_impl_size_bool args σ := callM_np n_impl_size_bool rfl rfl
theorem n_impl_within : fns i_impl_within = some fa_impl_within := rfl
@[simp] theorem c_impl_within (args : List PV) (σ : List AObj) : callM fns (ev fns) i_impl_within args σ = callN fns i_impl_within args σ := callM_np n_impl_within rfl rfl
theorem n_impl_Checker_isState : fns i_impl_Checker_isState = some fa_impl_Checker_isState := rfl
@[simp] theorem c_impl_Checker_isState (args : List PV) (σ : List AObj) : callM fns (ev fns) i_impl_Checker_isState args σ = callN fns i_impl_Checker_isState args σ := callM_np n_impl_Checker_isState rfl rfl
theorem n_impl_size_L_impl_Push : fns i_impl_size_L_impl_Push = some fa_impl_size_L_impl_Push := rfl
@[simp] theorem c_impl_size_L_impl_Push (args : List PV) (σ : List AObj) : callM fns (ev fns) i_impl_size_L_impl_Push args σ = callN fns i_impl_size_L_impl_Push args σ := callM_np n_impl_size_L_impl_Push rfl rfl
theorem n_impl_size_L_L_int64 : fns i_impl_size_L_L_int64 = some fa_impl_size_L_L_int64 := rfl
@[simp] theorem c_impl_size_L_L_int64 (args : List PV) (σ : List AObj) : callM fns (ev fns) i_impl_size_L_L_int64 args σ = callN fns i_impl_size_L_L_int64 args σ := callM_np n_impl_size_L_L_int64 rfl rfl
theorem n_impl_size_L_int64 : fns i_impl_size_L_int64 = some fa_impl_size_L_int64 := rfl
@[simp] theorem c_impl_size_L_int64 (args : List PV) (σ : List AObj) : callM fns (ev fns) i_impl_size_L_int64 args σ = callN fns i_impl_size_L_int64 args σ := callM_np n_impl_size_L_int64 rfl rfl
theorem n_impl_size_int64 : fns i_impl_size_int64 = some fa_impl_size_int64 := rfl
@[simp] theorem c_impl_size_int64 (args : List PV) (σ : List AObj) : callM fns (ev fns) i_impl_size_int64 args σ = callN fns i_impl_size_int64 args σ := callM_np n_impl_size_int64 rfl rfl
theorem n_slices_IndexFunc_L_int64 : fns i_slices_IndexFunc_L_int64 = some fa_slices_IndexFunc_L_int64 := rfl
@[simp] theorem c_slices_IndexFunc_L_int64 (args : List PV) (σ : List AObj) : callM fns (ev fns) i_slices_IndexFunc_L_int64 args σ = callN fns i_slices_IndexFunc_L_int64 args σ := callM_np n_slices_IndexFunc_L_int64 rfl rfl
theorem n_slices_ContainsFunc_L_int64 : fns i_slices_ContainsFunc_L_int64 = some fa_slices_ContainsFunc_L_int64 := rfl
@[simp] theorem c_slices_ContainsFunc_L_int64 (args : List PV) (σ : List AObj) : callM fns (ev fns) i_slices_ContainsFunc_L_int64 args σ = callN fns i_slices_ContainsFunc_L_int64 args σ := callM_np n_slices_ContainsFunc_L_int64 rfl rfl
theorem n_impl_ValidChecker_1_1 : fns i_impl_ValidChecker_1_1 = some fa_impl_ValidChecker_1_1 := rfl
@[simp] theorem c_impl_ValidChecker_1_1 (args : List PV) (σ : List AObj) : callM fns (ev fns) i_impl_ValidChecker_1_1 args σ = callN fns i_impl_ValidChecker_1_1 args σ := callM_np n_impl_ValidChecker_1_1 rfl rfl
theorem n_impl_ValidChecker_1 : fns i_impl_ValidChecker_1 = some fa_impl_ValidChecker_1 := rfl
@[simp] theorem c_impl_ValidChecker_1 (args : List PV) (σ : List AObj) : callM fns (ev fns) i_impl_ValidChecker_1 args σ = callN fns i_impl_ValidChecker_1 args σ := callM_np n_impl_ValidChecker_1 rfl rfl
theorem n_impl_Checker_isMark : fns i_impl_Checker_isMark = some fa_impl_Checker_isMark := rfl
@[simp] theorem c_impl_Checker_isMark (args : List PV) (σ : List AObj) : callM fns (ev fns) i_impl_Checker_isMark args σ = callN fns i_impl_Checker_isMark args σ := callM_np n_impl_Checker_isMark rfl rfl
theorem n_impl_ValidChecker : fns i_impl_ValidChecker = some fa_impl_ValidChecker := rfl
@[simp] theorem c_impl_ValidChecker (args : List PV) (σ : List AObj) : callM fns (ev fns) i_impl_ValidChecker args σ = callN fns i_impl_ValidChecker args σ := callM_np n_impl_ValidChecker rfl rfl
theorem n_impl_yes : fns i_impl_yes = some fa_impl_yes := rfl
@[simp] theorem c_impl_yes (args : List PV) (σ : List AObj) : callM fns (ev fns) i_impl_yes args σ = callN fns i_impl_yes args σ := callM_np n_impl_yes rfl rfl
theorem n_slices_Grow_L_int64 : fns i_slices_Grow_L_int64 = some fa_slices_Grow_L_int64 := rfl
@[simp] theorem c_slices_Grow_L_int64 (args : List PV) (σ : List AObj) : callM fns (ev fns) i_slices_Grow_L_int64 args σ = callN fns i_slices_Grow_L_int64 args σ := callM_np n_slices_Grow_L_int64 rfl rfl
theorem n_slices_Concat_L_int64 : fns i_slices_Concat_L_int64 = some fa_slices_Concat_L_int64 := rfl
@[simp] theorem c_slices_Concat_L_int64 (args : List PV) (σ : List AObj) : callM fns (ev fns) i_slices_Concat_L_int64 args σ = callN fns i_slices_Concat_L_int64 args σ := callM_np n_slices_Concat_L_int64 rfl rfl
theorem n_impl_CheckerText : fns i_impl_CheckerText = some fa_impl_CheckerText := rfl
@[simp] theorem c_impl_CheckerText (args : List PV) (σ : List AObj) : callM fns (ev fns) i_impl_CheckerText args σ = callN fns i_impl_CheckerText args σ := callM_np n_impl_CheckerText rfl rfl
theorem n_laws_eqBoolS : fns i_laws_eqBoolS = some fa_laws_eqBoolS := rfl
@[simp] theorem c_laws_eqBoolS (args : List PV) (σ : List AObj) : callM fns (ev fns) i_laws_eqBoolS args σ = callN fns i_laws_eqBoolS args σ := callM_np n_laws_eqBoolS rfl rfl
theorem n_laws_eqPush : fns i_laws_eqPush = some fa_laws_eqPush := rfl
@[simp] theorem c_laws_eqPush (args : List PV) (σ : List AObj) : callM fns (ev fns) i_laws_eqPush args σ = callN fns i_laws_eqPush args σ := callM_np n_laws_eqPush rfl rfl
theorem n_laws_eqPushS : fns i_laws_eqPushS = some fa_laws_eqPushS := rfl
@[simp] theorem c_laws_eqPushS (args : List PV) (σ : List AObj) : callM fns (ev fns) i_laws_eqPushS args σ = callN fns i_laws_eqPushS args σ := callM_np n_laws_eqPushS rfl rfl
theorem n_laws_eqPushSS : fns i_laws_eqPushSS = some fa_laws_eqPushSS := rfl
@[simp] theorem c_laws_eqPushSS (args : List PV) (σ : List AObj) : callM fns (ev fns) i_laws_eqPushSS args σ = callN fns i_laws_eqPushSS args σ := callM_np n_laws_eqPushSS rfl rfl
theorem n_laws_eqInt64S : fns i_laws_eqInt64S = some fa_laws_eqInt64S := rfl
@[simp] theorem c_laws_eqInt64S (args : List PV) (σ : List AObj) : callM fns (ev fns) i_laws_eqInt64S args σ = callN fns i_laws_eqInt64S args σ := callM_np n_laws_eqInt64S rfl rfl
theorem n_laws_eqInt64SS : fns i_laws_eqInt64SS = some fa_laws_eqInt64SS := rfl
@[simp] theorem c_laws_eqInt64SS (args : List PV) (σ : List AObj) : callM fns (ev fns) i_laws_eqInt64SS args σ = callN fns i_laws_eqInt64SS args σ := callM_np n_laws_eqInt64SS rfl rfl
theorem n_laws_eqInt64SSS : fns i_laws_eqInt64SSS = some fa_laws_eqInt64SSS := rfl
@[simp] theorem c_laws_eqInt64SSS (args : List PV) (σ : List AObj) : callM fns (ev fns) i_laws_eqInt64SSS args σ = callN fns i_laws_eqInt64SSS args σ := callM_np n_laws_eqInt64SSS rfl rfl
theorem n_laws_eqChecker : fns i_laws_eqChecker = some fa_laws_eqChecker := rfl
@[simp] theorem c_laws_eqChecker (args : List PV) (σ : List AObj) : callM fns (ev fns) i_laws_eqChecker args σ = callN fns i_laws_eqChecker args σ := callM_np n_laws_eqChecker rfl rfl
theorem n_laws_FnExactCheckerText : fns i_laws_FnExactCheckerText = some fa_laws_FnExactCheckerText := rfl
@[simp] theorem c_laws_FnExactCheckerText (args : List PV) (σ : List AObj) : callM fns (ev fns) i_laws_FnExactCheckerText args σ = callN fns i_laws_FnExactCheckerText args σ := callM_np n_laws_FnExactCheckerText rfl rfl
theorem n_laws_szLink : fns i_laws_szLink = some fa_laws_szLink := rfl
@[simp] theorem c_laws_szLink (args : List PV) (σ : List AObj) : callM fns (ev fns) i_laws_szLink args σ = callN fns i_laws_szLink args σ := callM_np n_laws_szLink rfl rfl
theorem n_laws_szLinkS : fns i_laws_szLinkS = some fa_laws_szLinkS := rfl
@[simp] theorem c_laws_szLinkS (args : List PV) (σ : List AObj) : callM fns (ev fns) i_laws_szLinkS args σ = callN fns i_laws_szLinkS args σ := callM_np n_laws_szLinkS rfl rfl
theorem n_laws_szModule : fns i_laws_szModule = some fa_laws_szModule := rfl
@[simp] theorem c_laws_szModule (args : List PV) (σ : List AObj) : callM fns (ev fns) i_laws_szModule args σ = callN fns i_laws_szModule args σ := callM_np n_laws_szModule rfl rfl
theorem n_laws_szModuleS : fns i_laws_szModuleS = some fa_laws_szModuleS := rfl
@[simp] theorem c_laws_szModuleS (args : List PV) (σ : List AObj) : callM fns (ev fns) i_laws_szModuleS args σ = callN fns i_laws_szModuleS args σ := callM_np n_laws_szModuleS rfl rfl
theorem n_laws_szProgram : fns i_laws_szProgram = some fa_laws_szProgram := rfl
@[simp] theorem c_laws_szProgram (args : List PV) (σ : List AObj) : callM fns (ev fns) i_laws_szProgram args σ = callN fns i_laws_szProgram args σ := callM_np n_laws_szProgram rfl rfl
theorem n_spec_l01Call : fns i_spec_l01Call = some fa_spec_l01Call := rfl
@[simp] theorem c_spec_l01Call (args : List PV) (σ : List AObj) : callM fns (ev fns) i_spec_l01Call args σ = callN fns i_spec_l01Call args σ := callM_np n_spec_l01Call rfl rfl
theorem n_spec_l01Return : fns i_spec_l01Return = some fa_spec_l01Return := rfl
@[simp] theorem c_spec_l01Return (args : List PV) (σ : List AObj) : callM fns (ev fns) i_spec_l01Return args σ = callN fns i_spec_l01Return args σ := callM_np n_spec_l01Return rfl rfl
theorem n_spec_l06Brackets : fns i_spec_l06Brackets = some fa_spec_l06Brackets := rfl
@[simp] theorem c_spec_l06Brackets (args : List PV) (σ : List AObj) : callM fns (ev fns) i_spec_l06Brackets args σ = callN fns i_spec_l06Brackets args σ := callM_np n_spec_l06Brackets rfl rfl
theorem n_spec_l07Inner : fns i_spec_l07Inner = some fa_spec_l07Inner := rfl
@[simp] theorem c_spec_l07Inner (args : List PV) (σ : List AObj) : callM fns (ev fns) i_spec_l07Inner args σ = callN fns i_spec_l07Inner args σ := callM_np n_spec_l07Inner rfl rfl
theorem n_spec_l07Ok : fns i_spec_l07Ok = some fa_spec_l07Ok := rfl
@[simp] theorem c_spec_l07Ok (args : List PV) (σ : List AObj) : callM fns (ev fns) i_spec_l07Ok args σ = callN fns i_spec_l07Ok args σ := callM_np n_spec_l07Ok rfl rfl
theorem n_spec_l07Text : fns i_spec_l07Text = some fa_spec_l07Text := rfl
@[simp] theorem c_spec_l07Text (args : List PV) (σ : List AObj) : callM fns (ev fns) i_spec_l07Text args σ = callN fns i_spec_l07Text args σ := callM_np n_spec_l07Text rfl rfl
theorem n_spec_ProgramText : fns i_spec_ProgramText = some fa_spec_ProgramText := rfl
@[simp] theorem c_spec_ProgramText (args : List PV) (σ : List AObj) : callM fns (ev fns) i_spec_ProgramText args σ = callN fns i_spec_ProgramText args σ := callM_np n_spec_ProgramText rfl rfl
theorem n_laws_toLink : fns i_laws_toLink = some fa_laws_toLink := rfl
@[simp] theorem c_laws_toLink (args : List PV) (σ : List AObj) : callM fns (ev fns) i_laws_toLink args σ = callN fns i_laws_toLink args σ := callM_np n_laws_toLink rfl rfl
theorem n_laws_toLinkS : fns i_laws_toLinkS = some fa_laws_toLinkS := rfl
@[simp] theorem c_laws_toLinkS (args : List PV) (σ : List AObj) : callM fns (ev fns) i_laws_toLinkS args σ = callN fns i_laws_toLinkS args σ := callM_np n_laws_toLinkS rfl rfl
theorem n_laws_toModule : fns i_laws_toModule = some fa_laws_toModule := rfl
@[simp] theorem c_laws_toModule (args : List PV) (σ : List AObj) : callM fns (ev fns) i_laws_toModule args σ = callN fns i_laws_toModule args σ := callM_np n_laws_toModule rfl rfl
theorem n_laws_toModuleS : fns i_laws_toModuleS = some fa_laws_toModuleS := rfl
@[simp] theorem c_laws_toModuleS (args : List PV) (σ : List AObj) : callM fns (ev fns) i_laws_toModuleS args σ = callN fns i_laws_toModuleS args σ := callM_np n_laws_toModuleS rfl rfl
theorem n_laws_toProgram : fns i_laws_toProgram = some fa_laws_toProgram := rfl
@[simp] theorem c_laws_toProgram (args : List PV) (σ : List AObj) : callM fns (ev fns) i_laws_toProgram args σ = callN fns i_laws_toProgram args σ := callM_np n_laws_toProgram rfl rfl
theorem n_impl_size_impl_Module : fns i_impl_size_impl_Module = some fa_impl_size_impl_Module := rfl
@[simp] theorem c_impl_size_impl_Module (args : List PV) (σ : List AObj) : callM fns (ev fns) i_impl_size_impl_Module args σ = callN fns i_impl_size_impl_Module args σ := callM_np n_impl_size_impl_Module rfl rfl
theorem n_slices_IndexFunc_L_impl_Module : fns i_slices_IndexFunc_L_impl_Module = some fa_slices_IndexFunc_L_impl_Module := rfl
@[simp] theorem c_slices_IndexFunc_L_impl_Module (args : List PV) (σ : List AObj) : callM fns (ev fns) i_slices_IndexFunc_L_impl_Module args σ = callN fns i_slices_IndexFunc_L_impl_Module args σ := callM_np n_slices_IndexFunc_L_impl_Module rfl rfl
theorem n_slices_ContainsFunc_L_impl_Module : fns i_slices_ContainsFunc_L_impl_Module = some fa_slices_ContainsFunc_L_impl_Module := rfl
@[simp] theorem c_slices_ContainsFunc_L_impl_Module (args : List PV) (σ : List AObj) : callM fns (ev fns) i_slices_ContainsFunc_L_impl_Module args σ = callN fns i_slices_ContainsFunc_L_impl_Module args σ := callM_np n_slices_ContainsFunc_L_impl_Module rfl rfl
theorem n_slices_IndexFunc_L_impl_Link : fns i_slices_IndexFunc_L_impl_Link = some fa_slices_IndexFunc_L_impl_Link := rfl
@[simp] theorem c_slices_IndexFunc_L_impl_Link (args : List PV) (σ : List AObj) : callM fns (ev fns) i_slices_IndexFunc_L_impl_Link args σ = callN fns i_slices_IndexFunc_L_impl_Link args σ := callM_np n_slices_IndexFunc_L_impl_Link rfl rfl
theorem n_slices_ContainsFunc_L_impl_Link : fns i_slices_ContainsFunc_L_impl_Link = some fa_slices_ContainsFunc_L_impl_Link := rfl
@[simp] theorem c_slices_ContainsFunc_L_impl_Link (args : List PV) (σ : List AObj) : callM fns (ev fns) i_slices_ContainsFunc_L_impl_Link args σ = callN fns i_slices_ContainsFunc_L_impl_Link args σ := callM_np n_slices_ContainsFunc_L_impl_Link rfl rfl
theorem n_impl_isCall : fns i_impl_isCall = some fa_impl_isCall := rfl
@[simp] theorem c_impl_isCall (args : List PV) (σ : List AObj) : callM fns (ev fns) i_impl_isCall args σ = callN fns i_impl_isCall args σ := callM_np n_impl_isCall rfl rfl
theorem n_impl_isReturn : fns i_impl_isReturn = some fa_impl_isReturn := rfl
@[simp] theorem c_impl_isReturn (args : List PV) (σ : List AObj) : callM fns (ev fns) i_impl_isReturn args σ = callN fns i_impl_isReturn args σ := callM_np n_impl_isReturn rfl rfl
theorem n_impl_isBrackets : fns i_impl_isBrackets = some fa_impl_isBrackets := rfl
@[simp] theorem c_impl_isBrackets (args : List PV) (σ : List AObj) : callM fns (ev fns) i_impl_isBrackets args σ = callN fns i_impl_isBrackets args σ := callM_np n_impl_isBrackets rfl rfl
theorem n_impl_isLetter : fns i_impl_isLetter = some fa_impl_isLetter := rfl
@[simp] theorem c_impl_isLetter (args : List PV) (σ : List AObj) : callM fns (ev fns) i_impl_isLetter args σ = callN fns i_impl_isLetter args σ := callM_np n_impl_isLetter rfl rfl
theorem n_impl_ValidProgram_1_1 : fns i_impl_ValidProgram_1_1 = some fa_impl_ValidProgram_1_1 := rfl
@[simp] theorem c_impl_ValidProgram_1_1 (args : List PV) (σ : List AObj) : callM fns (ev fns) i_impl_ValidProgram_1_1 args σ = callN fns i_impl_ValidProgram_1_1 args σ := callM_np n_impl_ValidProgram_1_1 rfl rfl
theorem n_impl_ValidProgram_1 : fns i_impl_ValidProgram_1 = some fa_impl_ValidProgram_1 := rfl
@[simp] theorem c_impl_ValidProgram_1 (args : List PV) (σ : List AObj) : callM fns (ev fns) i_impl_ValidProgram_1 args σ = callN fns i_impl_ValidProgram_1 args σ := callM_np n_impl_ValidProgram_1 rfl rfl
theorem n_impl_ValidProgram : fns i_impl_ValidProgram = some fa_impl_ValidProgram := rfl
@[simp] theorem c_impl_ValidProgram (args : List PV) (σ : List AObj) : callM fns (ev fns) i_impl_ValidProgram args σ = callN fns i_impl_ValidProgram args σ := callM_np n_impl_ValidProgram rfl rfl
theorem n_impl_Link_isCallLink : fns i_impl_Link_isCallLink = some fa_impl_Link_isCallLink := rfl
@[simp] theorem c_impl_Link_isCallLink (args : List PV) (σ : List AObj) : callM fns (ev fns) i_impl_Link_isCallLink args σ = callN fns i_impl_Link_isCallLink args σ := callM_np n_impl_Link_isCallLink rfl rfl
theorem n_impl_ProgramText : fns i_impl_ProgramText = some fa_impl_ProgramText := rfl
@[simp] theorem c_impl_ProgramText (args : List PV) (σ : List AObj) : callM fns (ev fns) i_impl_ProgramText args σ = callN fns i_impl_ProgramText args σ := callM_np n_impl_ProgramText rfl rfl
theorem n_laws_eqLink : fns i_laws_eqLink = some fa_laws_eqLink := rfl
@[simp] theorem c_laws_eqLink (args : List PV) (σ : List AObj) : callM fns (ev fns) i_laws_eqLink args σ = callN fns i_laws_eqLink args σ := callM_np n_laws_eqLink rfl rfl
theorem n_laws_eqLinkS : fns i_laws_eqLinkS = some fa_laws_eqLinkS := rfl
@[simp] theorem c_laws_eqLinkS (args : List PV) (σ : List AObj) : callM fns (ev fns) i_laws_eqLinkS args σ = callN fns i_laws_eqLinkS args σ := callM_np n_laws_eqLinkS rfl rfl
theorem n_laws_eqModule : fns i_laws_eqModule = some fa_laws_eqModule := rfl
@[simp] theorem c_laws_eqModule (args : List PV) (σ : List AObj) : callM fns (ev fns) i_laws_eqModule args σ = callN fns i_laws_eqModule args σ := callM_np n_laws_eqModule rfl rfl
theorem n_laws_eqModuleS : fns i_laws_eqModuleS = some fa_laws_eqModuleS := rfl
@[simp] theorem c_laws_eqModuleS (args : List PV) (σ : List AObj) : callM fns (ev fns) i_laws_eqModuleS args σ = callN fns i_laws_eqModuleS args σ := callM_np n_laws_eqModuleS rfl rfl
theorem n_laws_eqProgram : fns i_laws_eqProgram = some fa_laws_eqProgram := rfl
@[simp] theorem c_laws_eqProgram (args : List PV) (σ : List AObj) : callM fns (ev fns) i_laws_eqProgram args σ = callN fns i_laws_eqProgram args σ := callM_np n_laws_eqProgram rfl rfl
theorem n_laws_FnExactProgramText : fns i_laws_FnExactProgramText = some fa_laws_FnExactProgramText := rfl
@[simp] theorem c_laws_FnExactProgramText (args : List PV) (σ : List AObj) : callM fns (ev fns) i_laws_FnExactProgramText args σ = callN fns i_laws_FnExactProgramText args σ := callM_np n_laws_FnExactProgramText rfl rfl
@[simp] theorem nt_laws_szBoolS : fa_laws_szBoolS.nt = 12 := rfl
@[simp] theorem rs_laws_szBoolS : fa_laws_szBoolS.rs = [.tmp 4] := rfl
@[simp] theorem fz_laws_szBoolS : fa_laws_szBoolS.fz = true := rfl
@[simp] theorem rsh_laws_szBoolS : fa_laws_szBoolS.rsh = .any := rfl
theorem go_laws_szBoolS {args : List PV} {σ : List AObj} {r : PV × List AObj} (hl : args.length ≤ 12) (h : rE fns fa_laws_szBoolS σ.length [.code ac_laws_szBoolS] (frA 0 args) σ = some r) : ev fns i_laws_szBoolS args σ = some r := ev_go n_laws_szBoolS rfl hl h
@[simp] theorem nt_laws_szPushS : fa_laws_szPushS.nt = 12 := rfl
@[simp] theorem rs_laws_szPushS : fa_laws_szPushS.rs = [.tmp 4] := rfl
@[simp] theorem fz_laws_szPushS : fa_laws_szPushS.fz = true := rfl
@[simp] theorem rsh_laws_szPushS : fa_laws_szPushS.rsh = .any := rfl
theorem go_laws_szPushS {args : List PV} {σ : List AObj} {r : PV × List AObj} (hl : args.length ≤ 12) (h : rE fns fa_laws_szPushS σ.length [.code ac_laws_szPushS] (frA 0 args) σ = some r) : ev fns i_laws_szPushS args σ = some r := ev_go n_laws_szPushS rfl hl h
@[simp] theorem nt_laws_szPushSS : fa_laws_szPushSS.nt = 27 := rfl
@[simp] theorem rs_laws_szPushSS : fa_laws_szPushSS.rs = [.tmp 4] := rfl
@[simp] theorem fz_laws_szPushSS : fa_laws_szPushSS.fz = true := rfl
@[simp] theorem rsh_laws_szPushSS : fa_laws_szPushSS.rsh = .any := rfl
theorem go_laws_szPushSS {args : List PV} {σ : List AObj} {r : PV × List AObj} (hl : args.length ≤ 27) (h : rE fns fa_laws_szPushSS σ.length [.code ac_laws_szPushSS] (frA 0 args) σ = some r) : ev fns i_laws_szPushSS args σ = some r := ev_go n_laws_szPushSS rfl hl h
theorem l_laws_szPushSS_0 {ks : List KI} {l : Fr} {σ : List AObj} {n0 : Nat} : rE fns fa_laws_szPushSS n0 (.code lo_laws_szPushSS_0 :: ks) l σ = rE fns fa_laws_szPushSS n0 (.code lb_laws_szPushSS_0 :: .code lo_laws_szPushSS_0 :: ks) l σ := rE_loop
@[simp] theorem nt_laws_szInt64S : fa_laws_szInt64S.nt = 12 := rfl
@[simp] theorem rs_laws_szInt64S : fa_laws_szInt64S.rs = [.tmp 4] := rfl
@[simp] theorem fz_laws_szInt64S : fa_laws_szInt64S.fz = true := rfl
@[simp] theorem rsh_laws_szInt64S : fa_laws_szInt64S.rsh = .any := rfl
theorem go_laws_szInt64S {args : List PV} {σ : List AObj} {r : PV × List AObj} (hl : args.length ≤ 12) (h : rE fns fa_laws_szInt64S σ.length [.code ac_laws_szInt64S] (frA 0 args) σ = some r) : ev fns i_laws_szInt64S args σ = some r := ev_go n_laws_szInt64S rfl hl h
@[simp] theorem nt_laws_szInt64SS : fa_laws_szInt64SS.nt = 27 := rfl
@[simp] theorem rs_laws_szInt64SS : fa_laws_szInt64SS.rs = [.tmp 4] := rfl
@[simp] theorem fz_laws_szInt64SS : fa_laws_szInt64SS.fz = true := rfl
@[simp] theorem rsh_laws_szInt64SS : fa_laws_szInt64SS.rsh = .any := rfl
theorem go_laws_szInt64SS {args : List PV} {σ : List AObj} {r : PV × List AObj} (hl : args.length ≤ 27) (h : rE fns fa_laws_szInt64SS σ.length [.code ac_laws_szInt64SS] (frA 0 args) σ = some r) : ev fns i_laws_szInt64SS args σ = some r := ev_go n_laws_szInt64SS rfl hl h
theorem l_laws_szInt64SS_0 {ks : List KI} {l : Fr} {σ : List AObj} {n0 : Nat} : rE fns fa_laws_szInt64SS n0 (.code lo_laws_szInt64SS_0 :: ks) l σ = rE fns fa_laws_szInt64SS n0 (.code lb_laws_szInt64SS_0 :: .code lo_laws_szInt64SS_0 :: ks) l σ := rE_loop
@[simp] theorem nt_laws_szInt64SSS : fa_laws_szInt64SSS.nt = 27 := rfl
@[simp] theorem rs_laws_szInt64SSS : fa_laws_szInt64SSS.rs = [.tmp 4] := rfl
@[simp] theorem fz_laws_szInt64SSS : fa_laws_szInt64SSS.fz = true := rfl
@[simp] theorem rsh_laws_szInt64SSS : fa_laws_szInt64SSS.rsh = .any := rfl
theorem go_laws_szInt64SSS {args : List PV} {σ : List AObj} {r : PV × List AObj} (hl : args.length ≤ 27) (h : rE fns fa_laws_szInt64SSS σ.length [.code ac_laws_szInt64SSS] (frA 0 args) σ = some r) : ev fns i_laws_szInt64SSS args σ = some r := ev_go n_laws_szInt64SSS rfl hl h
theorem l_laws_szInt64SSS_0 {ks : List KI} {l : Fr} {σ : List AObj} {n0 : Nat} : rE fns fa_laws_szInt64SSS n0 (.code lo_laws_szInt64SSS_0 :: ks) l σ = rE fns fa_laws_szInt64SSS n0 (.code lb_laws_szInt64SSS_0 :: .code lo_laws_szInt64SSS_0 :: ks) l σ := rE_loop
@[simp] theorem nt_laws_szChecker : fa_laws_szChecker.nt = 30 := rfl
@[simp] theorem rs_laws_szChecker : fa_laws_szChecker.rs = [.tmp 4] := rfl
@[simp] theorem fz_laws_szChecker : fa_laws_szChecker.fz = true := rfl
@[simp] theorem rsh_laws_szChecker : fa_laws_szChecker.rsh = .any := rfl
theorem go_laws_szChecker {args : List PV} {σ : List AObj} {r : PV × List AObj} (hl : args.length ≤ 30) (h : rE fns fa_laws_szChecker σ.length [.code ac_laws_szChecker] (frA 0 args) σ = some r) : ev fns i_laws_szChecker args σ = some r := ev_go n_laws_szChecker rfl hl h
@[simp] theorem nt_spec_l00In : fa_spec_l00In.nt = 15 := rfl
@[simp] theorem rs_spec_l00In : fa_spec_l00In.rs = [.tmp 6] := rfl
@[simp] theorem fz_spec_l00In : fa_spec_l00In.fz = true := rfl
@[simp] theorem rsh_spec_l00In : fa_spec_l00In.rsh = .any := rfl
theorem go_spec_l00In {args : List PV} {σ : List AObj} {r : PV × List AObj} (hl : args.length ≤ 15) (h : rE fns fa_spec_l00In σ.length [.code ac_spec_l00In] (frA 0 args) σ = some r) : ev fns i_spec_l00In args σ = some r := ev_go n_spec_l00In rfl hl h
@[simp] theorem nt_spec_l02List : fa_spec_l02List.nt = 26 := rfl
@[simp] theorem rs_spec_l02List : fa_spec_l02List.rs = [.tmp 6] := rfl
@[simp] theorem fz_spec_l02List : fa_spec_l02List.fz = true := rfl
@[simp] theorem rsh_spec_l02List : fa_spec_l02List.rsh = .any := rfl
theorem go_spec_l02List {args : List PV} {σ : List AObj} {r : PV × List AObj} (hl : args.length ≤ 26) (h : rE fns fa_spec_l02List σ.length [.code ac_spec_l02List] (frA 0 args) σ = some r) : ev fns i_spec_l02List args σ = some r := ev_go n_spec_l02List rfl hl h
theorem l_spec_l02List_0 {ks : List KI} {l : Fr} {σ : List AObj} {n0 : Nat} : rE fns fa_spec_l02List n0 (.code lo_spec_l02List_0 :: ks) l σ = rE fns fa_spec_l02List n0 (.code lb_spec_l02List_0 :: .code lo_spec_l02List_0 :: ks) l σ := rE_loop
@[simp] theorem nt_spec_l02Ok : fa_spec_l02Ok.nt = 155 := rfl
@[simp] theorem rs_spec_l02Ok : fa_spec_l02Ok.rs = [.tmp 2] := rfl
@[simp] theorem fz_spec_l02Ok : fa_spec_l02Ok.fz = true := rfl
@[simp] theorem rsh_spec_l02Ok : fa_spec_l02Ok.rsh = .any := rfl
theorem go_spec_l02Ok {args : List PV} {σ : List AObj} {r : PV × List AObj} (hl : args.length ≤ 155) (h : rE fns fa_spec_l02Ok σ.length [.code ac_spec_l02Ok] (frA 0 args) σ = some r) : ev fns i_spec_l02Ok args σ = some r := ev_go n_spec_l02Ok rfl hl h
theorem l_spec_l02Ok_0 {ks : List KI} {l : Fr} {σ : List AObj} {n0 : Nat} : rE fns fa_spec_l02Ok n0 (.code lo_spec_l02Ok_0 :: ks) l σ = rE fns fa_spec_l02Ok n0 (.code lb_spec_l02Ok_0 :: .code lo_spec_l02Ok_0 :: ks) l σ := rE_loop
theorem l_spec_l02Ok_1 {ks : List KI} {l : Fr} {σ : List AObj} {n0 : Nat} : rE fns fa_spec_l02Ok n0 (.code lo_spec_l02Ok_1 :: ks) l σ = rE fns fa_spec_l02Ok n0 (.code lb_spec_l02Ok_1 :: .code lo_spec_l02Ok_1 :: ks) l σ := rE_loop
@[simp] theorem nt_spec_Decimal : fa_spec_Decimal.nt = 20 := rfl
@[simp] theorem rs_spec_Decimal : fa_spec_Decimal.rs = [.tmp 2] := rfl
@[simp] theorem fz_spec_Decimal : fa_spec_Decimal.fz = true := rfl
@[simp] theorem rsh_spec_Decimal : fa_spec_Decimal.rsh = .any := rfl
theorem go_spec_Decimal {args : List PV} {σ : List AObj} {r : PV × List AObj} (hl : args.length ≤ 20) (h : rE fns fa_spec_Decimal σ.length [.code ac_spec_Decimal] (frA 0 args) σ = some r) : ev fns i_spec_Decimal args σ = some r := ev_go n_spec_Decimal rfl hl h
@[simp] theorem nt_spec_l02Row : fa_spec_l02Row.nt = 21 := rfl
@[simp] theorem rs_spec_l02Row : fa_spec_l02Row.rs = [.tmp 4] := rfl
@[simp] theorem fz_spec_l02Row : fa_spec_l02Row.fz = true := rfl
@[simp] theorem rsh_spec_l02Row : fa_spec_l02Row.rsh = .any := rfl
theorem go_spec_l02Row {args : List PV} {σ : List AObj} {r : PV × List AObj} (hl : args.length ≤ 21) (h : rE fns fa_spec_l02Row σ.length [.code ac_spec_l02Row] (frA 0 args) σ = some r) : ev fns i_spec_l02Row args σ = some r := ev_go n_spec_l02Row rfl hl h
theorem l_spec_l02Row_0 {ks : List KI} {l : Fr} {σ : List AObj} {n0 : Nat} : rE fns fa_spec_l02Row n0 (.code lo_spec_l02Row_0 :: ks) l σ = rE fns fa_spec_l02Row n0 (.code lb_spec_l02Row_0 :: .code lo_spec_l02Row_0 :: ks) l σ := rE_loop
@[simp] theorem nt_spec_CheckerText : fa_spec_CheckerText.nt = 84 := rfl
@[simp] theorem rs_spec_CheckerText : fa_spec_CheckerText.rs = [.tmp 2] := rfl
@[simp] theorem fz_spec_CheckerText : fa_spec_CheckerText.fz = true := rfl
@[simp] theorem rsh_spec_CheckerText : fa_spec_CheckerText.rsh = .any := rfl
theorem go_spec_CheckerText {args : List PV} {σ : List AObj} {r : PV × List AObj} (hl : args.length ≤ 84) (h : rE fns fa_spec_CheckerText σ.length [.code ac_spec_CheckerText] (frA 0 args) σ = some r) : ev fns i_spec_CheckerText args σ = some r := ev_go n_spec_CheckerText rfl hl h
theorem l_spec_CheckerText_0 {ks : List KI} {l : Fr} {σ : List AObj} {n0 : Nat} : rE fns fa_spec_CheckerText n0 (.code lo_spec_CheckerText_0 :: ks) l σ = rE fns fa_spec_CheckerText n0 (.code lb_spec_CheckerText_0 :: .code lo_spec_CheckerText_0 :: ks) l σ := rE_loop
theorem l_spec_CheckerText_1 {ks : List KI} {l : Fr} {σ : List AObj} {n0 : Nat} : rE fns fa_spec_CheckerText n0 (.code lo_spec_CheckerText_1 :: ks) l σ = rE fns fa_spec_CheckerText n0 (.code lb_spec_CheckerText_1 :: .code lo_spec_CheckerText_1 :: ks) l σ := rE_loop
@[simp] theorem nt_laws_toBoolS : fa_laws_toBoolS.nt = 22 := rfl
@[simp] theorem rs_laws_toBoolS : fa_laws_toBoolS.rs = [.tmp 2] := rfl
@[simp] theorem fz_laws_toBoolS : fa_laws_toBoolS.fz = true := rfl
@[simp] theorem rsh_laws_toBoolS : fa_laws_toBoolS.rsh = .any := rfl
theorem go_laws_toBoolS {args : List PV} {σ : List AObj} {r : PV × List AObj} (hl : args.length ≤ 22) (h : rE fns fa_laws_toBoolS σ.length [.code ac_laws_toBoolS] (frA 0 args) σ = some r) : ev fns i_laws_toBoolS args σ = some r := ev_go n_laws_toBoolS rfl hl h
theorem l_laws_toBoolS_0 {ks : List KI} {l : Fr} {σ : List AObj} {n0 : Nat} : rE fns fa_laws_toBoolS n0 (.code lo_laws_toBoolS_0 :: ks) l σ = rE fns fa_laws_toBoolS n0 (.code lb_laws_toBoolS_0 :: .code lo_laws_toBoolS_0 :: ks) l σ := rE_loop
@[simp] theorem nt_laws_toPush : fa_laws_toPush.nt = 11 := rfl
@[simp] theorem rs_laws_toPush : fa_laws_toPush.rs = [.cell 2 2 true] := rfl
@[simp] theorem fz_laws_toPush : fa_laws_toPush.fz = true := rfl
@[simp] theorem rsh_laws_toPush : fa_laws_toPush.rsh = .any := rfl
theorem go_laws_toPush {args : List PV} {σ : List AObj} {r : PV × List AObj} (hl : args.length ≤ 11) (h : rE fns fa_laws_toPush σ.length [.code ac_laws_toPush] (frA 0 args) σ = some r) : ev fns i_laws_toPush args σ = some r := ev_go n_laws_toPush rfl hl h
@[simp] theorem nt_laws_toPushS : fa_laws_toPushS.nt = 23 := rfl
@[simp] theorem rs_laws_toPushS : fa_laws_toPushS.rs = [.tmp 2] := rfl
@[simp] theorem fz_laws_toPushS : fa_laws_toPushS.fz = true := rfl
@[simp] theorem rsh_laws_toPushS : fa_laws_toPushS.rsh = .any := rfl
theorem go_laws_toPushS {args : List PV} {σ : List AObj} {r : PV × List AObj} (hl : args.length ≤ 23) (h : rE fns fa_laws_toPushS σ.length [.code ac_laws_toPushS] (frA 0 args) σ = some r) : ev fns i_laws_toPushS args σ = some r := ev_go n_laws_toPushS rfl hl h
theorem l_laws_toPushS_0 {ks : List KI} {l : Fr} {σ : List AObj} {n0 : Nat} : rE fns fa_laws_toPushS n0 (.code lo_laws_toPushS_0 :: ks) l σ = rE fns fa_laws_toPushS n0 (.code lb_laws_toPushS_0 :: .code lo_laws_toPushS_0 :: ks) l σ := rE_loop
@[simp] theorem nt_laws_toPushSS : fa_laws_toPushSS.nt = 23 := rfl
@[simp] theorem rs_laws_toPushSS : fa_laws_toPushSS.rs = [.tmp 2] := rfl
@[simp] theorem fz_laws_toPushSS : fa_laws_toPushSS.fz = true := rfl
@[simp] theorem rsh_laws_toPushSS : fa_laws_toPushSS.rsh = .any := rfl
theorem go_laws_toPushSS {args : List PV} {σ : List AObj} {r : PV × List AObj} (hl : args.length ≤ 23) (h : rE fns fa_laws_toPushSS σ.length [.code ac_laws_toPushSS] (frA 0 args) σ = some r) : ev fns i_laws_toPushSS args σ = some r := ev_go n_laws_toPushSS rfl hl h
theorem l_laws_toPushSS_0 {ks : List KI} {l : Fr} {σ : List AObj} {n0 : Nat} : rE fns fa_laws_toPushSS n0 (.code lo_laws_toPushSS_0 :: ks) l σ = rE fns fa_laws_toPushSS n0 (.code lb_laws_toPushSS_0 :: .code lo_laws_toPushSS_0 :: ks) l σ := rE_loop
@[simp] theorem nt_laws_toInt64S : fa_laws_toInt64S.nt = 22 := rfl
@[simp] theorem rs_laws_toInt64S : fa_laws_toInt64S.rs = [.tmp 2] := rfl
@[simp] theorem fz_laws_toInt64S : fa_laws_toInt64S.fz = true := rfl
@[simp] theorem rsh_laws_toInt64S : fa_laws_toInt64S.rsh = .any := rfl
theorem go_laws_toInt64S {args : List PV} {σ : List AObj} {r : PV × List AObj} (hl : args.length ≤ 22) (h : rE fns fa_laws_toInt64S σ.length [.code ac_laws_toInt64S] (frA 0 args) σ = some r) : ev fns i_laws_toInt64S args σ = some r := ev_go n_laws_toInt64S rfl hl h
theorem l_laws_toInt64S_0 {ks : List KI} {l : Fr} {σ : List AObj} {n0 : Nat} : rE fns fa_laws_toInt64S n0 (.code lo_laws_toInt64S_0 :: ks) l σ = rE fns fa_laws_toInt64S n0 (.code lb_laws_toInt64S_0 :: .code lo_laws_toInt64S_0 :: ks) l σ := rE_loop
@[simp] theorem nt_laws_toInt64SS : fa_laws_toInt64SS.nt = 23 := rfl
@[simp] theorem rs_laws_toInt64SS : fa_laws_toInt64SS.rs = [.tmp 2] := rfl
@[simp] theorem fz_laws_toInt64SS : fa_laws_toInt64SS.fz = true := rfl
@[simp] theorem rsh_laws_toInt64SS : fa_laws_toInt64SS.rsh = .any := rfl
theorem go_laws_toInt64SS {args : List PV} {σ : List AObj} {r : PV × List AObj} (hl : args.length ≤ 23) (h : rE fns fa_laws_toInt64SS σ.length [.code ac_laws_toInt64SS] (frA 0 args) σ = some r) : ev fns i_laws_toInt64SS args σ = some r := ev_go n_laws_toInt64SS rfl hl h
theorem l_laws_toInt64SS_0 {ks : List KI} {l : Fr} {σ : List AObj} {n0 : Nat} : rE fns fa_laws_toInt64SS n0 (.code lo_laws_toInt64SS_0 :: ks) l σ = rE fns fa_laws_toInt64SS n0 (.code lb_laws_toInt64SS_0 :: .code lo_laws_toInt64SS_0 :: ks) l σ := rE_loop
@[simp] theorem nt_laws_toInt64SSS : fa_laws_toInt64SSS.nt = 23 := rfl
@[simp] theorem rs_laws_toInt64SSS : fa_laws_toInt64SSS.rs = [.tmp 2] := rfl
@[simp] theorem fz_laws_toInt64SSS : fa_laws_toInt64SSS.fz = true := rfl
@[simp] theorem rsh_laws_toInt64SSS : fa_laws_toInt64SSS.rsh = .any := rfl
theorem go_laws_toInt64SSS {args : List PV} {σ : List AObj} {r : PV × List AObj} (hl : args.length ≤ 23) (h : rE fns fa_laws_toInt64SSS σ.length [.code ac_laws_toInt64SSS] (frA 0 args) σ = some r) : ev fns i_laws_toInt64SSS args σ = some r := ev_go n_laws_toInt64SSS rfl hl h
theorem l_laws_toInt64SSS_0 {ks : List KI} {l : Fr} {σ : List AObj} {n0 : Nat} : rE fns fa_laws_toInt64SSS n0 (.code lo_laws_toInt64SSS_0 :: ks) l σ = rE fns fa_laws_toInt64SSS n0 (.code lb_laws_toInt64SSS_0 :: .code lo_laws_toInt64SSS_0 :: ks) l σ := rE_loop
@[simp] theorem nt_laws_toChecker : fa_laws_toChecker.nt = 27 := rfl
@[simp] theorem rs_laws_toChecker : fa_laws_toChecker.rs = [.cell 2 6 true] := rfl
@[simp] theorem fz_laws_toChecker : fa_laws_toChecker.fz = true := rfl
@[simp] theorem rsh_laws_toChecker : fa_laws_toChecker.rsh = .any := rfl
theorem go_laws_toChecker {args : List PV} {σ : List AObj} {r : PV × List AObj} (hl : args.length ≤ 27) (h : rE fns fa_laws_toChecker σ.length [.code ac_laws_toChecker] (frA 0 args) σ = some r) : ev fns i_laws_toChecker args σ = some r := ev_go n_laws_toChecker rfl hl h
@[simp] theorem nt_internal_strconv_small : fa_internal_strconv_small.nt = 15 := rfl
@[simp] theorem rs_internal_strconv_small : fa_internal_strconv_small.rs = [.tmp 2] := rfl
@[simp] theorem fz_internal_strconv_small : fa_internal_strconv_small.fz = true := rfl
@[simp] theorem rsh_internal_strconv_small : fa_internal_strconv_small.rsh = .any := rfl
theorem go_internal_strconv_small {args : List PV} {σ : List AObj} {r : PV × List AObj} (hl : args.length ≤ 15) (h : rE fns fa_internal_strconv_small σ.length [.code ac_internal_strconv_small] (frA 0 args) σ = some r) : ev fns i_internal_strconv_small args σ = some r := ev_go n_internal_strconv_small rfl hl h
@[simp] theorem nt_internal_strconv_formatBase10 : fa_internal_strconv_formatBase10.nt = 167 := rfl
@[simp] theorem rs_internal_strconv_formatBase10 : fa_internal_strconv_formatBase10.rs = [] := rfl
@[simp] theorem fz_internal_strconv_formatBase10 : fa_internal_strconv_formatBase10.fz = true := rfl
@[simp] theorem rsh_internal_strconv_formatBase10 : fa_internal_strconv_formatBase10.rsh = .any := rfl
theorem go_internal_strconv_formatBase10 {args : List PV} {σ : List AObj} {r : PV × List AObj} (hl : args.length ≤ 167) (h : rE fns fa_internal_strconv_formatBase10 σ.length [.code ac_internal_strconv_formatBase10] (frA 0 args) σ = some r) : ev fns i_internal_strconv_formatBase10 args σ = some r := ev_go n_internal_strconv_formatBase10 rfl hl h
theorem l_internal_strconv_formatBase10_0 {ks : List KI} {l : Fr} {σ : List AObj} {n0 : Nat} : rE fns fa_internal_strconv_formatBase10 n0 (.code lo_internal_strconv_formatBase10_0 :: ks) l σ = rE fns fa_internal_strconv_formatBase10 n0 (.code lb_internal_strconv_formatBase10_0 :: .code lo_internal_strconv_formatBase10_0 :: ks) l σ := rE_loop
@[simp] theorem nt_internal_strconv_FormatInt : fa_internal_strconv_FormatInt.nt = 54 := rfl
@[simp] theorem rs_internal_strconv_FormatInt : fa_internal_strconv_FormatInt.rs = [.tmp 4] := rfl
@[simp] theorem fz_internal_strconv_FormatInt : fa_internal_strconv_FormatInt.fz = true := rfl
@[simp] theorem rsh_internal_strconv_FormatInt : fa_internal_strconv_FormatInt.rsh = .any := rfl
theorem go_internal_strconv_FormatInt {args : List PV} {σ : List AObj} {r : PV × List AObj} (hl : args.length ≤ 54) (h : rE fns fa_internal_strconv_FormatInt σ.length [.code ac_internal_strconv_FormatInt] (frA 0 args) σ = some r) : ev fns i_internal_strconv_FormatInt args σ = some r := ev_go n_internal_strconv_FormatInt rfl hl h
@[simp] theorem nt_strconv_FormatInt : fa_strconv_FormatInt.nt = 8 := rfl
@[simp] theorem rs_strconv_FormatInt : fa_strconv_FormatInt.rs = [.tmp 4] := rfl
@[simp] theorem fz_strconv_FormatInt : fa_strconv_FormatInt.fz = true := rfl
@[simp] theorem rsh_strconv_FormatInt : fa_strconv_FormatInt.rsh = .any := rfl
theorem go_strconv_FormatInt {args : List PV} {σ : List AObj} {r : PV × List AObj} (hl : args.length ≤ 8) (h : rE fns fa_strconv_FormatInt σ.length [.code ac_strconv_FormatInt] (frA 0 args) σ = some r) : ev fns i_strconv_FormatInt args σ = some r := ev_go n_strconv_FormatInt rfl hl h
@[simp] theorem nt_impl_decimal : fa_impl_decimal.nt = 5 := rfl
@[simp] theorem rs_impl_decimal : fa_impl_decimal.rs = [.tmp 2] := rfl
@[simp] theorem fz_impl_decimal : fa_impl_decimal.fz = true := rfl
@[simp] theorem rsh_impl_decimal : fa_impl_decimal.rsh = .any := rfl
theorem go_impl_decimal {args : List PV} {σ : List AObj} {r : PV × List AObj} (hl : args.length ≤ 5) (h : rE fns fa_impl_decimal σ.length [.code ac_impl_decimal] (frA 0 args) σ = some r) : ev fns i_impl_decimal args σ = some r := ev_go n_impl_decimal rfl hl h
@[simp] theorem nt_P_strings_Builder_copyCheck : fa_P_strings_Builder_copyCheck.nt = 20 := rfl
@[simp] theorem rs_P_strings_Builder_copyCheck : fa_P_strings_Builder_copyCheck.rs = [] := rfl
@[simp] theorem fz_P_strings_Builder_copyCheck : fa_P_strings_Builder_copyCheck.fz = false := rfl
@[simp] theorem rsh_P_strings_Builder_copyCheck : fa_P_strings_Builder_copyCheck.rsh = .any := rfl
theorem go_P_strings_Builder_copyCheck {args : List PV} {σ : List AObj} {r : PV × List AObj} (hl : args.length ≤ 20) (h : rE fns fa_P_strings_Builder_copyCheck σ.length [.code ac_P_strings_Builder_copyCheck] (frA 0 args) σ = some r) : ev fns i_P_strings_Builder_copyCheck args σ = some r := ev_go n_P_strings_Builder_copyCheck rfl hl h
@[simp] theorem nt_P_strings_Builder_WriteString : fa_P_strings_Builder_WriteString.nt = 19 := rfl
@[simp] theorem rs_P_strings_Builder_WriteString : fa_P_strings_Builder_WriteString.rs = [.tmp 4, .tmp 5] := rfl
@[simp] theorem fz_P_strings_Builder_WriteString : fa_P_strings_Builder_WriteString.fz = false := rfl
@[simp] theorem rsh_P_strings_Builder_WriteString : fa_P_strings_Builder_WriteString.rsh = .any := rfl
theorem go_P_strings_Builder_WriteString {args : List PV} {σ : List AObj} {r : PV × List AObj} (hl : args.length ≤ 19) (h : rE fns fa_P_strings_Builder_WriteString σ.length [.code ac_P_strings_Builder_WriteString] (frA 0 args) σ = some r) : ev fns i_P_strings_Builder_WriteString args σ = some r := ev_go n_P_strings_Builder_WriteString rfl hl h
@[simp] theorem nt_P_strings_Builder_String : fa_P_strings_Builder_String.nt = 14 := rfl
@[simp] theorem rs_P_strings_Builder_String : fa_P_strings_Builder_String.rs = [.tmp 2] := rfl
@[simp] theorem fz_P_strings_Builder_String : fa_P_strings_Builder_String.fz = false := rfl
@[simp] theorem rsh_P_strings_Builder_String : fa_P_strings_Builder_String.rsh = .any := rfl
theorem go_P_strings_Builder_String {args : List PV} {σ : List AObj} {r : PV × List AObj} (hl : args.length ≤ 14) (h : rE fns fa_P_strings_Builder_String σ.length [.code ac_P_strings_Builder_String] (frA 0 args) σ = some r) : ev fns i_P_strings_Builder_String args σ = some r := ev_go n_P_strings_Builder_String rfl hl h
@[simp] theorem nt_impl_words : fa_impl_words.nt = 24 := rfl
@[simp] theorem rs_impl_words : fa_impl_words.rs = [.tmp 4] := rfl
@[simp] theorem fz_impl_words : fa_impl_words.fz = true := rfl
@[simp] theorem rsh_impl_words : fa_impl_words.rsh = .any := rfl
theorem go_impl_words {args : List PV} {σ : List AObj} {r : PV × List AObj} (hl : args.length ≤ 24) (h : rE fns fa_impl_words σ.length [.code ac_impl_words] (frA 0 args) σ = some r) : ev fns i_impl_words args σ = some r := ev_go n_impl_words rfl hl h
theorem l_impl_words_0 {ks : List KI} {l : Fr} {σ : List AObj} {n0 : Nat} : rE fns fa_impl_words n0 (.code lo_impl_words_0 :: ks) l σ = rE fns fa_impl_words n0 (.code lb_impl_words_0 :: .code lo_impl_words_0 :: ks) l σ := rE_loop
@[simp] theorem nt_impl_size_bool : fa_impl_size_bool.nt = 5 := rfl
@[simp] theorem rs_impl_size_bool : fa_impl_size_bool.rs = [.tmp 2] := rfl
@[simp] theorem fz_impl_size_bool : fa_impl_size_bool.fz = true := rfl
@[simp] theorem rsh_impl_size_bool : fa_impl_size_bool.rsh = .any := rfl
theorem go_impl_size_bool {args : List PV} {σ : List AObj} {r : PV × List AObj} (hl : args.length ≤ 5) (h : rE fns fa_impl_size_bool σ.length [.code ac_impl_size_bool] (frA 0 args) σ = some r) : ev fns i_impl_size_bool args σ = some r := ev_go n_impl_size_bool rfl hl h
@[simp] theorem nt_impl_within : fa_impl_within.nt = 15 := rfl
@[simp] theorem rs_impl_within : fa_impl_within.rs = [.tmp 6] := rfl
@[simp] theorem fz_impl_within : fa_impl_within.fz = true := rfl
@[simp] theorem rsh_impl_within : fa_impl_within.rsh = .any := rfl
theorem go_impl_within {args : List PV} {σ : List AObj} {r : PV × List AObj} (hl : args.length ≤ 15) (h : rE fns fa_impl_within σ.length [.code ac_impl_within] (frA 0 args) σ = some r) : ev fns i_impl_within args σ = some r := ev_go n_impl_within rfl hl h
@[simp] theorem nt_impl_Checker_isState : fa_impl_Checker_isState.nt = 11 := rfl
@[simp] theorem rs_impl_Checker_isState : fa_impl_Checker_isState.rs = [.tmp 4] := rfl
@[simp] theorem fz_impl_Checker_isState : fa_impl_Checker_isState.fz = true := rfl
@[simp] theorem rsh_impl_Checker_isState : fa_impl_Checker_isState.rsh = .any := rfl
theorem go_impl_Checker_isState {args : List PV} {σ : List AObj} {r : PV × List AObj} (hl : args.length ≤ 11) (h : rE fns fa_impl_Checker_isState σ.length [.code ac_impl_Checker_isState] (frA 0 args) σ = some r) : ev fns i_impl_Checker_isState args σ = some r := ev_go n_impl_Checker_isState rfl hl h
@[simp] theorem nt_impl_size_L_impl_Push : fa_impl_size_L_impl_Push.nt = 5 := rfl
@[simp] theorem rs_impl_size_L_impl_Push : fa_impl_size_L_impl_Push.rs = [.tmp 2] := rfl
@[simp] theorem fz_impl_size_L_impl_Push : fa_impl_size_L_impl_Push.fz = true := rfl
@[simp] theorem rsh_impl_size_L_impl_Push : fa_impl_size_L_impl_Push.rsh = .any := rfl
theorem go_impl_size_L_impl_Push {args : List PV} {σ : List AObj} {r : PV × List AObj} (hl : args.length ≤ 5) (h : rE fns fa_impl_size_L_impl_Push σ.length [.code ac_impl_size_L_impl_Push] (frA 0 args) σ = some r) : ev fns i_impl_size_L_impl_Push args σ = some r := ev_go n_impl_size_L_impl_Push rfl hl h
@[simp] theorem nt_impl_size_L_L_int64 : fa_impl_size_L_L_int64.nt = 5 := rfl
@[simp] theorem rs_impl_size_L_L_int64 : fa_impl_size_L_L_int64.rs = [.tmp 2] := rfl
@[simp] theorem fz_impl_size_L_L_int64 : fa_impl_size_L_L_int64.fz = true := rfl
@[simp] theorem rsh_impl_size_L_L_int64 : fa_impl_size_L_L_int64.rsh = .any := rfl
theorem go_impl_size_L_L_int64 {args : List PV} {σ : List AObj} {r : PV × List AObj} (hl : args.length ≤ 5) (h : rE fns fa_impl_size_L_L_int64 σ.length [.code ac_impl_size_L_L_int64] (frA 0 args) σ = some r) : ev fns i_impl_size_L_L_int64 args σ = some r := ev_go n_impl_size_L_L_int64 rfl hl h
@[simp] theorem nt_impl_size_L_int64 : fa_impl_size_L_int64.nt = 5 := rfl
@[simp] theorem rs_impl_size_L_int64 : fa_impl_size_L_int64.rs = [.tmp 2] := rfl
@[simp] theorem fz_impl_size_L_int64 : fa_impl_size_L_int64.fz = true := rfl
@[simp] theorem rsh_impl_size_L_int64 : fa_impl_size_L_int64.rsh = .any := rfl
theorem go_impl_size_L_int64 {args : List PV} {σ : List AObj} {r : PV × List AObj} (hl : args.length ≤ 5) (h : rE fns fa_impl_size_L_int64 σ.length [.code ac_impl_size_L_int64] (frA 0 args) σ = some r) : ev fns i_impl_size_L_int64 args σ = some r := ev_go n_impl_size_L_int64 rfl hl h
@[simp] theorem nt_impl_size_int64 : fa_impl_size_int64.nt = 5 := rfl
@[simp] theorem rs_impl_size_int64 : fa_impl_size_int64.rs = [.tmp 2] := rfl
@[simp] theorem fz_impl_size_int64 : fa_impl_size_int64.fz = true := rfl
@[simp] theorem rsh_impl_size_int64 : fa_impl_size_int64.rsh = .any := rfl
theorem go_impl_size_int64 {args : List PV} {σ : List AObj} {r : PV × List AObj} (hl : args.length ≤ 5) (h : rE fns fa_impl_size_int64 σ.length [.code ac_impl_size_int64] (frA 0 args) σ = some r) : ev fns i_impl_size_int64 args σ = some r := ev_go n_impl_size_int64 rfl hl h
@[simp] theorem nt_slices_IndexFunc_L_int64 : fa_slices_IndexFunc_L_int64.nt = 19 := rfl
@[simp] theorem rs_slices_IndexFunc_L_int64 : fa_slices_IndexFunc_L_int64.rs = [.tmp 4] := rfl
@[simp] theorem fz_slices_IndexFunc_L_int64 : fa_slices_IndexFunc_L_int64.fz = true := rfl
@[simp] theorem rsh_slices_IndexFunc_L_int64 : fa_slices_IndexFunc_L_int64.rsh = .any := rfl
theorem go_slices_IndexFunc_L_int64 {args : List PV} {σ : List AObj} {r : PV × List AObj} (hl : args.length ≤ 19) (h : rE fns fa_slices_IndexFunc_L_int64 σ.length [.code ac_slices_IndexFunc_L_int64] (frA 0 args) σ = some r) : ev fns i_slices_IndexFunc_L_int64 args σ = some r := ev_go n_slices_IndexFunc_L_int64 rfl hl h
theorem l_slices_IndexFunc_L_int64_0 {ks : List KI} {l : Fr} {σ : List AObj} {n0 : Nat} : rE fns fa_slices_IndexFunc_L_int64 n0 (.code lo_slices_IndexFunc_L_int64_0 :: ks) l σ = rE fns fa_slices_IndexFunc_L_int64 n0 (.code lb_slices_IndexFunc_L_int64_0 :: .code lo_slices_IndexFunc_L_int64_0 :: ks) l σ := rE_loop
@[simp] theorem nt_slices_ContainsFunc_L_int64 : fa_slices_ContainsFunc_L_int64.nt = 9 := rfl
@[simp] theorem rs_slices_ContainsFunc_L_int64 : fa_slices_ContainsFunc_L_int64.rs = [.tmp 4] := rfl
@[simp] theorem fz_slices_ContainsFunc_L_int64 : fa_slices_ContainsFunc_L_int64.fz = true := rfl
@[simp] theorem rsh_slices_ContainsFunc_L_int64 : fa_slices_ContainsFunc_L_int64.rsh = .any := rfl
theorem go_slices_ContainsFunc_L_int64 {args : List PV} {σ : List AObj} {r : PV × List AObj} (hl : args.length ≤ 9) (h : rE fns fa_slices_ContainsFunc_L_int64 σ.length [.code ac_slices_ContainsFunc_L_int64] (frA 0 args) σ = some r) : ev fns i_slices_ContainsFunc_L_int64 args σ = some r := ev_go n_slices_ContainsFunc_L_int64 rfl hl h
@[simp] theorem nt_impl_ValidChecker_1_1 : fa_impl_ValidChecker_1_1.nt = 8 := rfl
@[simp] theorem rs_impl_ValidChecker_1_1 : fa_impl_ValidChecker_1_1.rs = [.tmp 3] := rfl
@[simp] theorem fz_impl_ValidChecker_1_1 : fa_impl_ValidChecker_1_1.fz = true := rfl
@[simp] theorem rsh_impl_ValidChecker_1_1 : fa_impl_ValidChecker_1_1.rsh = .any := rfl
theorem go_impl_ValidChecker_1_1 {args : List PV} {σ : List AObj} {r : PV × List AObj} (hl : args.length ≤ 8) (h : rE fns fa_impl_ValidChecker_1_1 σ.length [.code ac_impl_ValidChecker_1_1] (frA 0 args) σ = some r) : ev fns i_impl_ValidChecker_1_1 args σ = some r := ev_go n_impl_ValidChecker_1_1 rfl hl h
@[simp] theorem nt_impl_ValidChecker_1 : fa_impl_ValidChecker_1.nt = 16 := rfl
@[simp] theorem rs_impl_ValidChecker_1 : fa_impl_ValidChecker_1.rs = [.tmp 5] := rfl
@[simp] theorem fz_impl_ValidChecker_1 : fa_impl_ValidChecker_1.fz = true := rfl
@[simp] theorem rsh_impl_ValidChecker_1 : fa_impl_ValidChecker_1.rsh = .any := rfl
theorem go_impl_ValidChecker_1 {args : List PV} {σ : List AObj} {r : PV × List AObj} (hl : args.length ≤ 16) (h : rE fns fa_impl_ValidChecker_1 σ.length [.code ac_impl_ValidChecker_1] (frA 0 args) σ = some r) : ev fns i_impl_ValidChecker_1 args σ = some r := ev_go n_impl_ValidChecker_1 rfl hl h
@[simp] theorem nt_impl_Checker_isMark : fa_impl_Checker_isMark.nt = 10 := rfl
@[simp] theorem rs_impl_Checker_isMark : fa_impl_Checker_isMark.rs = [.tmp 4] := rfl
@[simp] theorem fz_impl_Checker_isMark : fa_impl_Checker_isMark.fz = true := rfl
@[simp] theorem rsh_impl_Checker_isMark : fa_impl_Checker_isMark.rsh = .any := rfl
theorem go_impl_Checker_isMark {args : List PV} {σ : List AObj} {r : PV × List AObj} (hl : args.length ≤ 10) (h : rE fns fa_impl_Checker_isMark σ.length [.code ac_impl_Checker_isMark] (frA 0 args) σ = some r) : ev fns i_impl_Checker_isMark args σ = some r := ev_go n_impl_Checker_isMark rfl hl h
@[simp] theorem nt_impl_ValidChecker : fa_impl_ValidChecker.nt = 120 := rfl
@[simp] theorem rs_impl_ValidChecker : fa_impl_ValidChecker.rs = [.tmp 2] := rfl
@[simp] theorem fz_impl_ValidChecker : fa_impl_ValidChecker.fz = true := rfl
@[simp] theorem rsh_impl_ValidChecker : fa_impl_ValidChecker.rsh = .any := rfl
theorem go_impl_ValidChecker {args : List PV} {σ : List AObj} {r : PV × List AObj} (hl : args.length ≤ 120) (h : rE fns fa_impl_ValidChecker σ.length [.code ac_impl_ValidChecker] (frA 0 args) σ = some r) : ev fns i_impl_ValidChecker args σ = some r := ev_go n_impl_ValidChecker rfl hl h
theorem l_impl_ValidChecker_0 {ks : List KI} {l : Fr} {σ : List AObj} {n0 : Nat} : rE fns fa_impl_ValidChecker n0 (.code lo_impl_ValidChecker_0 :: ks) l σ = rE fns fa_impl_ValidChecker n0 (.code lb_impl_ValidChecker_0 :: .code lo_impl_ValidChecker_0 :: ks) l σ := rE_loop
theorem l_impl_ValidChecker_1 {ks : List KI} {l : Fr} {σ : List AObj} {n0 : Nat} : rE fns fa_impl_ValidChecker n0 (.code lo_impl_ValidChecker_1 :: ks) l σ = rE fns fa_impl_ValidChecker n0 (.code lb_impl_ValidChecker_1 :: .code lo_impl_ValidChecker_1 :: ks) l σ := rE_loop
@[simp] theorem nt_impl_yes : fa_impl_yes.nt = 4 := rfl
@[simp] theorem rs_impl_yes : fa_impl_yes.rs = [.tmp 2] := rfl
@[simp] theorem fz_impl_yes : fa_impl_yes.fz = true := rfl
@[simp] theorem rsh_impl_yes : fa_impl_yes.rsh = .any := rfl
theorem go_impl_yes {args : List PV} {σ : List AObj} {r : PV × List AObj} (hl : args.length ≤ 4) (h : rE fns fa_impl_yes σ.length [.code ac_impl_yes] (frA 0 args) σ = some r) : ev fns i_impl_yes args σ = some r := ev_go n_impl_yes rfl hl h
@[simp] theorem nt_slices_Grow_L_int64 : fa_slices_Grow_L_int64.nt = 27 := rfl
@[simp] theorem rs_slices_Grow_L_int64 : fa_slices_Grow_L_int64.rs = [.tmp 4] := rfl
@[simp] theorem fz_slices_Grow_L_int64 : fa_slices_Grow_L_int64.fz = false := rfl
@[simp] theorem rsh_slices_Grow_L_int64 : fa_slices_Grow_L_int64.rsh = .any := rfl
theorem go_slices_Grow_L_int64 {args : List PV} {σ : List AObj} {r : PV × List AObj} (hl : args.length ≤ 27) (h : rE fns fa_slices_Grow_L_int64 σ.length [.code ac_slices_Grow_L_int64] (frA 0 args) σ = some r) : ev fns i_slices_Grow_L_int64 args σ = some r := ev_go n_slices_Grow_L_int64 rfl hl h
@[simp] theorem nt_slices_Concat_L_int64 : fa_slices_Concat_L_int64.nt = 36 := rfl
@[simp] theorem rs_slices_Concat_L_int64 : fa_slices_Concat_L_int64.rs = [.tmp 2] := rfl
@[simp] theorem fz_slices_Concat_L_int64 : fa_slices_Concat_L_int64.fz = false := rfl
@[simp] theorem rsh_slices_Concat_L_int64 : fa_slices_Concat_L_int64.rsh = .any := rfl
theorem go_slices_Concat_L_int64 {args : List PV} {σ : List AObj} {r : PV × List AObj} (hl : args.length ≤ 36) (h : rE fns fa_slices_Concat_L_int64 σ.length [.code ac_slices_Concat_L_int64] (frA 0 args) σ = some r) : ev fns i_slices_Concat_L_int64 args σ = some r := ev_go n_slices_Concat_L_int64 rfl hl h
theorem l_slices_Concat_L_int64_0 {ks : List KI} {l : Fr} {σ : List AObj} {n0 : Nat} : rE fns fa_slices_Concat_L_int64 n0 (.code lo_slices_Concat_L_int64_0 :: ks) l σ = rE fns fa_slices_Concat_L_int64 n0 (.code lb_slices_Concat_L_int64_0 :: .code lo_slices_Concat_L_int64_0 :: ks) l σ := rE_loop
theorem l_slices_Concat_L_int64_1 {ks : List KI} {l : Fr} {σ : List AObj} {n0 : Nat} : rE fns fa_slices_Concat_L_int64 n0 (.code lo_slices_Concat_L_int64_1 :: ks) l σ = rE fns fa_slices_Concat_L_int64 n0 (.code lb_slices_Concat_L_int64_1 :: .code lo_slices_Concat_L_int64_1 :: ks) l σ := rE_loop
@[simp] theorem nt_impl_CheckerText : fa_impl_CheckerText.nt = 77 := rfl
@[simp] theorem rs_impl_CheckerText : fa_impl_CheckerText.rs = [.tmp 2] := rfl
@[simp] theorem fz_impl_CheckerText : fa_impl_CheckerText.fz = true := rfl
@[simp] theorem rsh_impl_CheckerText : fa_impl_CheckerText.rsh = .any := rfl
theorem go_impl_CheckerText {args : List PV} {σ : List AObj} {r : PV × List AObj} (hl : args.length ≤ 77) (h : rE fns fa_impl_CheckerText σ.length [.code ac_impl_CheckerText] (frA 0 args) σ = some r) : ev fns i_impl_CheckerText args σ = some r := ev_go n_impl_CheckerText rfl hl h
theorem l_impl_CheckerText_0 {ks : List KI} {l : Fr} {σ : List AObj} {n0 : Nat} : rE fns fa_impl_CheckerText n0 (.code lo_impl_CheckerText_0 :: ks) l σ = rE fns fa_impl_CheckerText n0 (.code lb_impl_CheckerText_0 :: .code lo_impl_CheckerText_0 :: ks) l σ := rE_loop
theorem l_impl_CheckerText_1 {ks : List KI} {l : Fr} {σ : List AObj} {n0 : Nat} : rE fns fa_impl_CheckerText n0 (.code lo_impl_CheckerText_1 :: ks) l σ = rE fns fa_impl_CheckerText n0 (.code lb_impl_CheckerText_1 :: .code lo_impl_CheckerText_1 :: ks) l σ := rE_loop
@[simp] theorem nt_laws_eqBoolS : fa_laws_eqBoolS.nt = 26 := rfl
@[simp] theorem rs_laws_eqBoolS : fa_laws_eqBoolS.rs = [.tmp 4] := rfl
@[simp] theorem fz_laws_eqBoolS : fa_laws_eqBoolS.fz = true := rfl
@[simp] theorem rsh_laws_eqBoolS : fa_laws_eqBoolS.rsh = .any := rfl
theorem go_laws_eqBoolS {args : List PV} {σ : List AObj} {r : PV × List AObj} (hl : args.length ≤ 26) (h : rE fns fa_laws_eqBoolS σ.length [.code ac_laws_eqBoolS] (frA 0 args) σ = some r) : ev fns i_laws_eqBoolS args σ = some r := ev_go n_laws_eqBoolS rfl hl h
theorem l_laws_eqBoolS_0 {ks : List KI} {l : Fr} {σ : List AObj} {n0 : Nat} : rE fns fa_laws_eqBoolS n0 (.code lo_laws_eqBoolS_0 :: ks) l σ = rE fns fa_laws_eqBoolS n0 (.code lb_laws_eqBoolS_0 :: .code lo_laws_eqBoolS_0 :: ks) l σ := rE_loop
@[simp] theorem nt_laws_eqPush : fa_laws_eqPush.nt = 15 := rfl
@[simp] theorem rs_laws_eqPush : fa_laws_eqPush.rs = [.tmp 4] := rfl
@[simp] theorem fz_laws_eqPush : fa_laws_eqPush.fz = true := rfl
@[simp] theorem rsh_laws_eqPush : fa_laws_eqPush.rsh = .any := rfl
theorem go_laws_eqPush {args : List PV} {σ : List AObj} {r : PV × List AObj} (hl : args.length ≤ 15) (h : rE fns fa_laws_eqPush σ.length [.code ac_laws_eqPush] (frA 0 args) σ = some r) : ev fns i_laws_eqPush args σ = some r := ev_go n_laws_eqPush rfl hl h
@[simp] theorem nt_laws_eqPushS : fa_laws_eqPushS.nt = 27 := rfl
@[simp] theorem rs_laws_eqPushS : fa_laws_eqPushS.rs = [.tmp 4] := rfl
@[simp] theorem fz_laws_eqPushS : fa_laws_eqPushS.fz = true := rfl
@[simp] theorem rsh_laws_eqPushS : fa_laws_eqPushS.rsh = .any := rfl
theorem go_laws_eqPushS {args : List PV} {σ : List AObj} {r : PV × List AObj} (hl : args.length ≤ 27) (h : rE fns fa_laws_eqPushS σ.length [.code ac_laws_eqPushS] (frA 0 args) σ = some r) : ev fns i_laws_eqPushS args σ = some r := ev_go n_laws_eqPushS rfl hl h
theorem l_laws_eqPushS_0 {ks : List KI} {l : Fr} {σ : List AObj} {n0 : Nat} : rE fns fa_laws_eqPushS n0 (.code lo_laws_eqPushS_0 :: ks) l σ = rE fns fa_laws_eqPushS n0 (.code lb_laws_eqPushS_0 :: .code lo_laws_eqPushS_0 :: ks) l σ := rE_loop
@[simp] theorem nt_laws_eqPushSS : fa_laws_eqPushSS.nt = 27 := rfl
@[simp] theorem rs_laws_eqPushSS : fa_laws_eqPushSS.rs = [.tmp 4] := rfl
@[simp] theorem fz_laws_eqPushSS : fa_laws_eqPushSS.fz = true := rfl
@[simp] theorem rsh_laws_eqPushSS : fa_laws_eqPushSS.rsh = .any := rfl
theorem go_laws_eqPushSS {args : List PV} {σ : List AObj} {r : PV × List AObj} (hl : args.length ≤ 27) (h : rE fns fa_laws_eqPushSS σ.length [.code ac_laws_eqPushSS] (frA 0 args) σ = some r) : ev fns i_laws_eqPushSS args σ = some r := ev_go n_laws_eqPushSS rfl hl h
theorem l_laws_eqPushSS_0 {ks : List KI} {l : Fr} {σ : List AObj} {n0 : Nat} : rE fns fa_laws_eqPushSS n0 (.code lo_laws_eqPushSS_0 :: ks) l σ = rE fns fa_laws_eqPushSS n0 (.code lb_laws_eqPushSS_0 :: .code lo_laws_eqPushSS_0 :: ks) l σ := rE_loop
@[simp] theorem nt_laws_eqInt64S : fa_laws_eqInt64S.nt = 26 := rfl
@[simp] theorem rs_laws_eqInt64S : fa_laws_eqInt64S.rs = [.tmp 4] := rfl
@[simp] theorem fz_laws_eqInt64S : fa_laws_eqInt64S.fz = true := rfl
@[simp] theorem rsh_laws_eqInt64S : fa_laws_eqInt64S.rsh = .any := rfl
theorem go_laws_eqInt64S {args : List PV} {σ : List AObj} {r : PV × List AObj} (hl : args.length ≤ 26) (h : rE fns fa_laws_eqInt64S σ.length [.code ac_laws_eqInt64S] (frA 0 args) σ = some r) : ev fns i_laws_eqInt64S args σ = some r := ev_go n_laws_eqInt64S rfl hl h
theorem l_laws_eqInt64S_0 {ks : List KI} {l : Fr} {σ : List AObj} {n0 : Nat} : rE fns fa_laws_eqInt64S n0 (.code lo_laws_eqInt64S_0 :: ks) l σ = rE fns fa_laws_eqInt64S n0 (.code lb_laws_eqInt64S_0 :: .code lo_laws_eqInt64S_0 :: ks) l σ := rE_loop
@[simp] theorem nt_laws_eqInt64SS : fa_laws_eqInt64SS.nt = 27 := rfl
@[simp] theorem rs_laws_eqInt64SS : fa_laws_eqInt64SS.rs = [.tmp 4] := rfl
@[simp] theorem fz_laws_eqInt64SS : fa_laws_eqInt64SS.fz = true := rfl
@[simp] theorem rsh_laws_eqInt64SS : fa_laws_eqInt64SS.rsh = .any := rfl
theorem go_laws_eqInt64SS {args : List PV} {σ : List AObj} {r : PV × List AObj} (hl : args.length ≤ 27) (h : rE fns fa_laws_eqInt64SS σ.length [.code ac_laws_eqInt64SS] (frA 0 args) σ = some r) : ev fns i_laws_eqInt64SS args σ = some r := ev_go n_laws_eqInt64SS rfl hl h
theorem l_laws_eqInt64SS_0 {ks : List KI} {l : Fr} {σ : List AObj} {n0 : Nat} : rE fns fa_laws_eqInt64SS n0 (.code lo_laws_eqInt64SS_0 :: ks) l σ = rE fns fa_laws_eqInt64SS n0 (.code lb_laws_eqInt64SS_0 :: .code lo_laws_eqInt64SS_0 :: ks) l σ := rE_loop
@[simp] theorem nt_laws_eqInt64SSS : fa_laws_eqInt64SSS.nt = 27 := rfl
@[simp] theorem rs_laws_eqInt64SSS : fa_laws_eqInt64SSS.rs = [.tmp 4] := rfl
@[simp] theorem fz_laws_eqInt64SSS : fa_laws_eqInt64SSS.fz = true := rfl
@[simp] theorem rsh_laws_eqInt64SSS : fa_laws_eqInt64SSS.rsh = .any := rfl
theorem go_laws_eqInt64SSS {args : List PV} {σ : List AObj} {r : PV × List AObj} (hl : args.length ≤ 27) (h : rE fns fa_laws_eqInt64SSS σ.length [.code ac_laws_eqInt64SSS] (frA 0 args) σ = some r) : ev fns i_laws_eqInt64SSS args σ = some r := ev_go n_laws_eqInt64SSS rfl hl h
theorem l_laws_eqInt64SSS_0 {ks : List KI} {l : Fr} {σ : List AObj} {n0 : Nat} : rE fns fa_laws_eqInt64SSS n0 (.code lo_laws_eqInt64SSS_0 :: ks) l σ = rE fns fa_laws_eqInt64SSS n0 (.code lb_laws_eqInt64SSS_0 :: .code lo_laws_eqInt64SSS_0 :: ks) l σ := rE_loop
@[simp] theorem nt_laws_eqChecker : fa_laws_eqChecker.nt = 39 := rfl
@[simp] theorem rs_laws_eqChecker : fa_laws_eqChecker.rs = [.tmp 4] := rfl
@[simp] theorem fz_laws_eqChecker : fa_laws_eqChecker.fz = true := rfl
@[simp] theorem rsh_laws_eqChecker : fa_laws_eqChecker.rsh = .any := rfl
theorem go_laws_eqChecker {args : List PV} {σ : List AObj} {r : PV × List AObj} (hl : args.length ≤ 39) (h : rE fns fa_laws_eqChecker σ.length [.code ac_laws_eqChecker] (frA 0 args) σ = some r) : ev fns i_laws_eqChecker args σ = some r := ev_go n_laws_eqChecker rfl hl h
@[simp] theorem nt_laws_FnExactCheckerText : fa_laws_FnExactCheckerText.nt = 27 := rfl
@[simp] theorem rs_laws_FnExactCheckerText : fa_laws_FnExactCheckerText.rs = [.tmp 2] := rfl
@[simp] theorem fz_laws_FnExactCheckerText : fa_laws_FnExactCheckerText.fz = true := rfl
@[simp] theorem rsh_laws_FnExactCheckerText : fa_laws_FnExactCheckerText.rsh = .any := rfl
theorem go_laws_FnExactCheckerText {args : List PV} {σ : List AObj} {r : PV × List AObj} (hl : args.length ≤ 27) (h : rE fns fa_laws_FnExactCheckerText σ.length [.code ac_laws_FnExactCheckerText] (frA 0 args) σ = some r) : ev fns i_laws_FnExactCheckerText args σ = some r := ev_go n_laws_FnExactCheckerText rfl hl h
@[simp] theorem nt_laws_szLink : fa_laws_szLink.nt = 13 := rfl
@[simp] theorem rs_laws_szLink : fa_laws_szLink.rs = [.tmp 4] := rfl
@[simp] theorem fz_laws_szLink : fa_laws_szLink.fz = true := rfl
@[simp] theorem rsh_laws_szLink : fa_laws_szLink.rsh = .any := rfl
theorem go_laws_szLink {args : List PV} {σ : List AObj} {r : PV × List AObj} (hl : args.length ≤ 13) (h : rE fns fa_laws_szLink σ.length [.code ac_laws_szLink] (frA 0 args) σ = some r) : ev fns i_laws_szLink args σ = some r := ev_go n_laws_szLink rfl hl h
@[simp] theorem nt_laws_szLinkS : fa_laws_szLinkS.nt = 27 := rfl
@[simp] theorem rs_laws_szLinkS : fa_laws_szLinkS.rs = [.tmp 4] := rfl
@[simp] theorem fz_laws_szLinkS : fa_laws_szLinkS.fz = true := rfl
@[simp] theorem rsh_laws_szLinkS : fa_laws_szLinkS.rsh = .any := rfl
theorem go_laws_szLinkS {args : List PV} {σ : List AObj} {r : PV × List AObj} (hl : args.length ≤ 27) (h : rE fns fa_laws_szLinkS σ.length [.code ac_laws_szLinkS] (frA 0 args) σ = some r) : ev fns i_laws_szLinkS args σ = some r := ev_go n_laws_szLinkS rfl hl h
theorem l_laws_szLinkS_0 {ks : List KI} {l : Fr} {σ : List AObj} {n0 : Nat} : rE fns fa_laws_szLinkS n0 (.code lo_laws_szLinkS_0 :: ks) l σ = rE fns fa_laws_szLinkS n0 (.code lb_laws_szLinkS_0 :: .code lo_laws_szLinkS_0 :: ks) l σ := rE_loop
@[simp] theorem nt_laws_szModule : fa_laws_szModule.nt = 12 := rfl
@[simp] theorem rs_laws_szModule : fa_laws_szModule.rs = [.tmp 4] := rfl
@[simp] theorem fz_laws_szModule : fa_laws_szModule.fz = true := rfl
@[simp] theorem rsh_laws_szModule : fa_laws_szModule.rsh = .any := rfl
theorem go_laws_szModule {args : List PV} {σ : List AObj} {r : PV × List AObj} (hl : args.length ≤ 12) (h : rE fns fa_laws_szModule σ.length [.code ac_laws_szModule] (frA 0 args) σ = some r) : ev fns i_laws_szModule args σ = some r := ev_go n_laws_szModule rfl hl h
@[simp] theorem nt_laws_szModuleS : fa_laws_szModuleS.nt = 27 := rfl
@[simp] theorem rs_laws_szModuleS : fa_laws_szModuleS.rs = [.tmp 4] := rfl
@[simp] theorem fz_laws_szModuleS : fa_laws_szModuleS.fz = true := rfl
@[simp] theorem rsh_laws_szModuleS : fa_laws_szModuleS.rsh = .any := rfl
theorem go_laws_szModuleS {args : List PV} {σ : List AObj} {r : PV × List AObj} (hl : args.length ≤ 27) (h : rE fns fa_laws_szModuleS σ.length [.code ac_laws_szModuleS] (frA 0 args) σ = some r) : ev fns i_laws_szModuleS args σ = some r := ev_go n_laws_szModuleS rfl hl h
theorem l_laws_szModuleS_0 {ks : List KI} {l : Fr} {σ : List AObj} {n0 : Nat} : rE fns fa_laws_szModuleS n0 (.code lo_laws_szModuleS_0 :: ks) l σ = rE fns fa_laws_szModuleS n0 (.code lb_laws_szModuleS_0 :: .code lo_laws_szModuleS_0 :: ks) l σ := rE_loop
@[simp] theorem nt_laws_szProgram : fa_laws_szProgram.nt = 12 := rfl
@[simp] theorem rs_laws_szProgram : fa_laws_szProgram.rs = [.tmp 4] := rfl
@[simp] theorem fz_laws_szProgram : fa_laws_szProgram.fz = true := rfl
@[simp] theorem rsh_laws_szProgram : fa_laws_szProgram.rsh = .any := rfl
theorem go_laws_szProgram {args : List PV} {σ : List AObj} {r : PV × List AObj} (hl : args.length ≤ 12) (h : rE fns fa_laws_szProgram σ.length [.code ac_laws_szProgram] (frA 0 args) σ = some r) : ev fns i_laws_szProgram args σ = some r := ev_go n_laws_szProgram rfl hl h
@[simp] theorem nt_spec_l01Call : fa_spec_l01Call.nt = 9 := rfl
@[simp] theorem rs_spec_l01Call : fa_spec_l01Call.rs = [.tmp 2] := rfl
@[simp] theorem fz_spec_l01Call : fa_spec_l01Call.fz = true := rfl
@[simp] theorem rsh_spec_l01Call : fa_spec_l01Call.rsh = .any := rfl
theorem go_spec_l01Call {args : List PV} {σ : List AObj} {r : PV × List AObj} (hl : args.length ≤ 9) (h : rE fns fa_spec_l01Call σ.length [.code ac_spec_l01Call] (frA 0 args) σ = some r) : ev fns i_spec_l01Call args σ = some r := ev_go n_spec_l01Call rfl hl h
@[simp] theorem nt_spec_l01Return : fa_spec_l01Return.nt = 9 := rfl
@[simp] theorem rs_spec_l01Return : fa_spec_l01Return.rs = [.tmp 2] := rfl
@[simp] theorem fz_spec_l01Return : fa_spec_l01Return.fz = true := rfl
@[simp] theorem rsh_spec_l01Return : fa_spec_l01Return.rsh = .any := rfl
theorem go_spec_l01Return {args : List PV} {σ : List AObj} {r : PV × List AObj} (hl : args.length ≤ 9) (h : rE fns fa_spec_l01Return σ.length [.code ac_spec_l01Return] (frA 0 args) σ = some r) : ev fns i_spec_l01Return args σ = some r := ev_go n_spec_l01Return rfl hl h
@[simp] theorem nt_spec_l06Brackets : fa_spec_l06Brackets.nt = 16 := rfl
@[simp] theorem rs_spec_l06Brackets : fa_spec_l06Brackets.rs = [.tmp 2] := rfl
@[simp] theorem fz_spec_l06Brackets : fa_spec_l06Brackets.fz = true := rfl
@[simp] theorem rsh_spec_l06Brackets : fa_spec_l06Brackets.rsh = .any := rfl
theorem go_spec_l06Brackets {args : List PV} {σ : List AObj} {r : PV × List AObj} (hl : args.length ≤ 16) (h : rE fns fa_spec_l06Brackets σ.length [.code ac_spec_l06Brackets] (frA 0 args) σ = some r) : ev fns i_spec_l06Brackets args σ = some r := ev_go n_spec_l06Brackets rfl hl h
@[simp] theorem nt_spec_l07Inner : fa_spec_l07Inner.nt = 9 := rfl
@[simp] theorem rs_spec_l07Inner : fa_spec_l07Inner.rs = [.tmp 2] := rfl
@[simp] theorem fz_spec_l07Inner : fa_spec_l07Inner.fz = true := rfl
@[simp] theorem rsh_spec_l07Inner : fa_spec_l07Inner.rsh = .any := rfl
theorem go_spec_l07Inner {args : List PV} {σ : List AObj} {r : PV × List AObj} (hl : args.length ≤ 9) (h : rE fns fa_spec_l07Inner σ.length [.code ac_spec_l07Inner] (frA 0 args) σ = some r) : ev fns i_spec_l07Inner args σ = some r := ev_go n_spec_l07Inner rfl hl h
@[simp] theorem nt_spec_l07Ok : fa_spec_l07Ok.nt = 121 := rfl
@[simp] theorem rs_spec_l07Ok : fa_spec_l07Ok.rs = [.tmp 2] := rfl
@[simp] theorem fz_spec_l07Ok : fa_spec_l07Ok.fz = true := rfl
@[simp] theorem rsh_spec_l07Ok : fa_spec_l07Ok.rsh = .any := rfl
theorem go_spec_l07Ok {args : List PV} {σ : List AObj} {r : PV × List AObj} (hl : args.length ≤ 121) (h : rE fns fa_spec_l07Ok σ.length [.code ac_spec_l07Ok] (frA 0 args) σ = some r) : ev fns i_spec_l07Ok args σ = some r := ev_go n_spec_l07Ok rfl hl h
theorem l_spec_l07Ok_0 {ks : List KI} {l : Fr} {σ : List AObj} {n0 : Nat} : rE fns fa_spec_l07Ok n0 (.code lo_spec_l07Ok_0 :: ks) l σ = rE fns fa_spec_l07Ok n0 (.code lb_spec_l07Ok_0 :: .code lo_spec_l07Ok_0 :: ks) l σ := rE_loop
theorem l_spec_l07Ok_1 {ks : List KI} {l : Fr} {σ : List AObj} {n0 : Nat} : rE fns fa_spec_l07Ok n0 (.code lo_spec_l07Ok_1 :: ks) l σ = rE fns fa_spec_l07Ok n0 (.code lb_spec_l07Ok_1 :: .code lo_spec_l07Ok_1 :: ks) l σ := rE_loop
@[simp] theorem nt_spec_l07Text : fa_spec_l07Text.nt = 79 := rfl
@[simp] theorem rs_spec_l07Text : fa_spec_l07Text.rs = [.tmp 2] := rfl
@[simp] theorem fz_spec_l07Text : fa_spec_l07Text.fz = true := rfl
@[simp] theorem rsh_spec_l07Text : fa_spec_l07Text.rsh = .any := rfl
theorem go_spec_l07Text {args : List PV} {σ : List AObj} {r : PV × List AObj} (hl : args.length ≤ 79) (h : rE fns fa_spec_l07Text σ.length [.code ac_spec_l07Text] (frA 0 args) σ = some r) : ev fns i_spec_l07Text args σ = some r := ev_go n_spec_l07Text rfl hl h
theorem l_spec_l07Text_0 {ks : List KI} {l : Fr} {σ : List AObj} {n0 : Nat} : rE fns fa_spec_l07Text n0 (.code lo_spec_l07Text_0 :: ks) l σ = rE fns fa_spec_l07Text n0 (.code lb_spec_l07Text_0 :: .code lo_spec_l07Text_0 :: ks) l σ := rE_loop
theorem l_spec_l07Text_1 {ks : List KI} {l : Fr} {σ : List AObj} {n0 : Nat} : rE fns fa_spec_l07Text n0 (.code lo_spec_l07Text_1 :: ks) l σ = rE fns fa_spec_l07Text n0 (.code lb_spec_l07Text_1 :: .code lo_spec_l07Text_1 :: ks) l σ := rE_loop
@[simp] theorem nt_spec_ProgramText : fa_spec_ProgramText.nt = 6 := rfl
@[simp] theorem rs_spec_ProgramText : fa_spec_ProgramText.rs = [.tmp 2] := rfl
@[simp] theorem fz_spec_ProgramText : fa_spec_ProgramText.fz = true := rfl
@[simp] theorem rsh_spec_ProgramText : fa_spec_ProgramText.rsh = .any := rfl
theorem go_spec_ProgramText {args : List PV} {σ : List AObj} {r : PV × List AObj} (hl : args.length ≤ 6) (h : rE fns fa_spec_ProgramText σ.length [.code ac_spec_ProgramText] (frA 0 args) σ = some r) : ev fns i_spec_ProgramText args σ = some r := ev_go n_spec_ProgramText rfl hl h
@[simp] theorem nt_laws_toLink : fa_laws_toLink.nt = 17 := rfl
@[simp] theorem rs_laws_toLink : fa_laws_toLink.rs = [.cell 2 4 true] := rfl
@[simp] theorem fz_laws_toLink : fa_laws_toLink.fz = true := rfl
@[simp] theorem rsh_laws_toLink : fa_laws_toLink.rsh = .any := rfl
theorem go_laws_toLink {args : List PV} {σ : List AObj} {r : PV × List AObj} (hl : args.length ≤ 17) (h : rE fns fa_laws_toLink σ.length [.code ac_laws_toLink] (frA 0 args) σ = some r) : ev fns i_laws_toLink args σ = some r := ev_go n_laws_toLink rfl hl h
@[simp] theorem nt_laws_toLinkS : fa_laws_toLinkS.nt = 23 := rfl
@[simp] theorem rs_laws_toLinkS : fa_laws_toLinkS.rs = [.tmp 2] := rfl
@[simp] theorem fz_laws_toLinkS : fa_laws_toLinkS.fz = true := rfl
@[simp] theorem rsh_laws_toLinkS : fa_laws_toLinkS.rsh = .any := rfl
theorem go_laws_toLinkS {args : List PV} {σ : List AObj} {r : PV × List AObj} (hl : args.length ≤ 23) (h : rE fns fa_laws_toLinkS σ.length [.code ac_laws_toLinkS] (frA 0 args) σ = some r) : ev fns i_laws_toLinkS args σ = some r := ev_go n_laws_toLinkS rfl hl h
theorem l_laws_toLinkS_0 {ks : List KI} {l : Fr} {σ : List AObj} {n0 : Nat} : rE fns fa_laws_toLinkS n0 (.code lo_laws_toLinkS_0 :: ks) l σ = rE fns fa_laws_toLinkS n0 (.code lb_laws_toLinkS_0 :: .code lo_laws_toLinkS_0 :: ks) l σ := rE_loop
@[simp] theorem nt_laws_toModule : fa_laws_toModule.nt = 12 := rfl
@[simp] theorem rs_laws_toModule : fa_laws_toModule.rs = [.cell 2 2 true] := rfl
@[simp] theorem fz_laws_toModule : fa_laws_toModule.fz = true := rfl
@[simp] theorem rsh_laws_toModule : fa_laws_toModule.rsh = .any := rfl
theorem go_laws_toModule {args : List PV} {σ : List AObj} {r : PV × List AObj} (hl : args.length ≤ 12) (h : rE fns fa_laws_toModule σ.length [.code ac_laws_toModule] (frA 0 args) σ = some r) : ev fns i_laws_toModule args σ = some r := ev_go n_laws_toModule rfl hl h
@[simp] theorem nt_laws_toModuleS : fa_laws_toModuleS.nt = 23 := rfl
@[simp] theorem rs_laws_toModuleS : fa_laws_toModuleS.rs = [.tmp 2] := rfl
@[simp] theorem fz_laws_toModuleS : fa_laws_toModuleS.fz = true := rfl
@[simp] theorem rsh_laws_toModuleS : fa_laws_toModuleS.rsh = .any := rfl
theorem go_laws_toModuleS {args : List PV} {σ : List AObj} {r : PV × List AObj} (hl : args.length ≤ 23) (h : rE fns fa_laws_toModuleS σ.length [.code ac_laws_toModuleS] (frA 0 args) σ = some r) : ev fns i_laws_toModuleS args σ = some r := ev_go n_laws_toModuleS rfl hl h
theorem l_laws_toModuleS_0 {ks : List KI} {l : Fr} {σ : List AObj} {n0 : Nat} : rE fns fa_laws_toModuleS n0 (.code lo_laws_toModuleS_0 :: ks) l σ = rE fns fa_laws_toModuleS n0 (.code lb_laws_toModuleS_0 :: .code lo_laws_toModuleS_0 :: ks) l σ := rE_loop
@[simp] theorem nt_laws_toProgram : fa_laws_toProgram.nt = 9 := rfl
@[simp] theorem rs_laws_toProgram : fa_laws_toProgram.rs = [.cell 2 1 true] := rfl
@[simp] theorem fz_laws_toProgram : fa_laws_toProgram.fz = true := rfl
@[simp] theorem rsh_laws_toProgram : fa_laws_toProgram.rsh = .any := rfl
theorem go_laws_toProgram {args : List PV} {σ : List AObj} {r : PV × List AObj} (hl : args.length ≤ 9) (h : rE fns fa_laws_toProgram σ.length [.code ac_laws_toProgram] (frA 0 args) σ = some r) : ev fns i_laws_toProgram args σ = some r := ev_go n_laws_toProgram rfl hl h
@[simp] theorem nt_impl_size_impl_Module : fa_impl_size_impl_Module.nt = 5 := rfl
@[simp] theorem rs_impl_size_impl_Module : fa_impl_size_impl_Module.rs = [.tmp 2] := rfl
@[simp] theorem fz_impl_size_impl_Module : fa_impl_size_impl_Module.fz = true := rfl
@[simp] theorem rsh_impl_size_impl_Module : fa_impl_size_impl_Module.rsh = .any := rfl
theorem go_impl_size_impl_Module {args : List PV} {σ : List AObj} {r : PV × List AObj} (hl : args.length ≤ 5) (h : rE fns fa_impl_size_impl_Module σ.length [.code ac_impl_size_impl_Module] (frA 0 args) σ = some r) : ev fns i_impl_size_impl_Module args σ = some r := ev_go n_impl_size_impl_Module rfl hl h
@[simp] theorem nt_slices_IndexFunc_L_impl_Module : fa_slices_IndexFunc_L_impl_Module.nt = 19 := rfl
@[simp] theorem rs_slices_IndexFunc_L_impl_Module : fa_slices_IndexFunc_L_impl_Module.rs = [.tmp 4] := rfl
@[simp] theorem fz_slices_IndexFunc_L_impl_Module : fa_slices_IndexFunc_L_impl_Module.fz = true := rfl
@[simp] theorem rsh_slices_IndexFunc_L_impl_Module : fa_slices_IndexFunc_L_impl_Module.rsh = .any := rfl
theorem go_slices_IndexFunc_L_impl_Module {args : List PV} {σ : List AObj} {r : PV × List AObj} (hl : args.length ≤ 19) (h : rE fns fa_slices_IndexFunc_L_impl_Module σ.length [.code ac_slices_IndexFunc_L_impl_Module] (frA 0 args) σ = some r) : ev fns i_slices_IndexFunc_L_impl_Module args σ = some r := ev_go n_slices_IndexFunc_L_impl_Module rfl hl h
theorem l_slices_IndexFunc_L_impl_Module_0 {ks : List KI} {l : Fr} {σ : List AObj} {n0 : Nat} : rE fns fa_slices_IndexFunc_L_impl_Module n0 (.code lo_slices_IndexFunc_L_impl_Module_0 :: ks) l σ = rE fns fa_slices_IndexFunc_L_impl_Module n0 (.code lb_slices_IndexFunc_L_impl_Module_0 :: .code lo_slices_IndexFunc_L_impl_Module_0 :: ks) l σ := rE_loop
@[simp] theorem nt_slices_ContainsFunc_L_impl_Module : fa_slices_ContainsFunc_L_impl_Module.nt = 9 := rfl
@[simp] theorem rs_slices_ContainsFunc_L_impl_Module : fa_slices_ContainsFunc_L_impl_Module.rs = [.tmp 4] := rfl
@[simp] theorem fz_slices_ContainsFunc_L_impl_Module : fa_slices_ContainsFunc_L_impl_Module.fz = true := rfl
@[simp] theorem rsh_slices_ContainsFunc_L_impl_Module : fa_slices_ContainsFunc_L_impl_Module.rsh = .any := rfl
theorem go_slices_ContainsFunc_L_impl_Module {args : List PV} {σ : List AObj} {r : PV × List AObj} (hl : args.length ≤ 9) (h : rE fns fa_slices_ContainsFunc_L_impl_Module σ.length [.code ac_slices_ContainsFunc_L_impl_Module] (frA 0 args) σ = some r) : ev fns i_slices_ContainsFunc_L_impl_Module args σ = some r := ev_go n_slices_ContainsFunc_L_impl_Module rfl hl h
@[simp] theorem nt_slices_IndexFunc_L_impl_Link : fa_slices_IndexFunc_L_impl_Link.nt = 19 := rfl
@[simp] theorem rs_slices_IndexFunc_L_impl_Link : fa_slices_IndexFunc_L_impl_Link.rs = [.tmp 4] := rfl
@[simp] theorem fz_slices_IndexFunc_L_impl_Link : fa_slices_IndexFunc_L_impl_Link.fz = true := rfl
@[simp] theorem rsh_slices_IndexFunc_L_impl_Link : fa_slices_IndexFunc_L_impl_Link.rsh = .any := rfl
theorem go_slices_IndexFunc_L_impl_Link {args : List PV} {σ : List AObj} {r : PV × List AObj} (hl : args.length ≤ 19) (h : rE fns fa_slices_IndexFunc_L_impl_Link σ.length [.code ac_slices_IndexFunc_L_impl_Link] (frA 0 args) σ = some r) : ev fns i_slices_IndexFunc_L_impl_Link args σ = some r := ev_go n_slices_IndexFunc_L_impl_Link rfl hl h
theorem l_slices_IndexFunc_L_impl_Link_0 {ks : List KI} {l : Fr} {σ : List AObj} {n0 : Nat} : rE fns fa_slices_IndexFunc_L_impl_Link n0 (.code lo_slices_IndexFunc_L_impl_Link_0 :: ks) l σ = rE fns fa_slices_IndexFunc_L_impl_Link n0 (.code lb_slices_IndexFunc_L_impl_Link_0 :: .code lo_slices_IndexFunc_L_impl_Link_0 :: ks) l σ := rE_loop
@[simp] theorem nt_slices_ContainsFunc_L_impl_Link : fa_slices_ContainsFunc_L_impl_Link.nt = 9 := rfl
@[simp] theorem rs_slices_ContainsFunc_L_impl_Link : fa_slices_ContainsFunc_L_impl_Link.rs = [.tmp 4] := rfl
@[simp] theorem fz_slices_ContainsFunc_L_impl_Link : fa_slices_ContainsFunc_L_impl_Link.fz = true := rfl
@[simp] theorem rsh_slices_ContainsFunc_L_impl_Link : fa_slices_ContainsFunc_L_impl_Link.rsh = .any := rfl
theorem go_slices_ContainsFunc_L_impl_Link {args : List PV} {σ : List AObj} {r : PV × List AObj} (hl : args.length ≤ 9) (h : rE fns fa_slices_ContainsFunc_L_impl_Link σ.length [.code ac_slices_ContainsFunc_L_impl_Link] (frA 0 args) σ = some r) : ev fns i_slices_ContainsFunc_L_impl_Link args σ = some r := ev_go n_slices_ContainsFunc_L_impl_Link rfl hl h
@[simp] theorem nt_impl_isCall : fa_impl_isCall.nt = 9 := rfl
@[simp] theorem rs_impl_isCall : fa_impl_isCall.rs = [.tmp 2] := rfl
@[simp] theorem fz_impl_isCall : fa_impl_isCall.fz = true := rfl
@[simp] theorem rsh_impl_isCall : fa_impl_isCall.rsh = .any := rfl
theorem go_impl_isCall {args : List PV} {σ : List AObj} {r : PV × List AObj} (hl : args.length ≤ 9) (h : rE fns fa_impl_isCall σ.length [.code ac_impl_isCall] (frA 0 args) σ = some r) : ev fns i_impl_isCall args σ = some r := ev_go n_impl_isCall rfl hl h
@[simp] theorem nt_impl_isReturn : fa_impl_isReturn.nt = 9 := rfl
@[simp] theorem rs_impl_isReturn : fa_impl_isReturn.rs = [.tmp 2] := rfl
@[simp] theorem fz_impl_isReturn : fa_impl_isReturn.fz = true := rfl
@[simp] theorem rsh_impl_isReturn : fa_impl_isReturn.rsh = .any := rfl
theorem go_impl_isReturn {args : List PV} {σ : List AObj} {r : PV × List AObj} (hl : args.length ≤ 9) (h : rE fns fa_impl_isReturn σ.length [.code ac_impl_isReturn] (frA 0 args) σ = some r) : ev fns i_impl_isReturn args σ = some r := ev_go n_impl_isReturn rfl hl h
@[simp] theorem nt_impl_isBrackets : fa_impl_isBrackets.nt = 16 := rfl
@[simp] theorem rs_impl_isBrackets : fa_impl_isBrackets.rs = [.tmp 2] := rfl
@[simp] theorem fz_impl_isBrackets : fa_impl_isBrackets.fz = true := rfl
@[simp] theorem rsh_impl_isBrackets : fa_impl_isBrackets.rsh = .any := rfl
theorem go_impl_isBrackets {args : List PV} {σ : List AObj} {r : PV × List AObj} (hl : args.length ≤ 16) (h : rE fns fa_impl_isBrackets σ.length [.code ac_impl_isBrackets] (frA 0 args) σ = some r) : ev fns i_impl_isBrackets args σ = some r := ev_go n_impl_isBrackets rfl hl h
@[simp] theorem nt_impl_isLetter : fa_impl_isLetter.nt = 9 := rfl
@[simp] theorem rs_impl_isLetter : fa_impl_isLetter.rs = [.tmp 2] := rfl
@[simp] theorem fz_impl_isLetter : fa_impl_isLetter.fz = true := rfl
@[simp] theorem rsh_impl_isLetter : fa_impl_isLetter.rsh = .any := rfl
theorem go_impl_isLetter {args : List PV} {σ : List AObj} {r : PV × List AObj} (hl : args.length ≤ 9) (h : rE fns fa_impl_isLetter σ.length [.code ac_impl_isLetter] (frA 0 args) σ = some r) : ev fns i_impl_isLetter args σ = some r := ev_go n_impl_isLetter rfl hl h
@[simp] theorem nt_impl_ValidProgram_1_1 : fa_impl_ValidProgram_1_1.nt = 44 := rfl
@[simp] theorem rs_impl_ValidProgram_1_1 : fa_impl_ValidProgram_1_1.rs = [.tmp 4] := rfl
@[simp] theorem fz_impl_ValidProgram_1_1 : fa_impl_ValidProgram_1_1.fz = true := rfl
@[simp] theorem rsh_impl_ValidProgram_1_1 : fa_impl_ValidProgram_1_1.rsh = .any := rfl
theorem go_impl_ValidProgram_1_1 {args : List PV} {σ : List AObj} {r : PV × List AObj} (hl : args.length ≤ 44) (h : rE fns fa_impl_ValidProgram_1_1 σ.length [.code ac_impl_ValidProgram_1_1] (frA 0 args) σ = some r) : ev fns i_impl_ValidProgram_1_1 args σ = some r := ev_go n_impl_ValidProgram_1_1 rfl hl h
@[simp] theorem nt_impl_ValidProgram_1 : fa_impl_ValidProgram_1.nt = 20 := rfl
@[simp] theorem rs_impl_ValidProgram_1 : fa_impl_ValidProgram_1.rs = [.tmp 3] := rfl
@[simp] theorem fz_impl_ValidProgram_1 : fa_impl_ValidProgram_1.fz = true := rfl
@[simp] theorem rsh_impl_ValidProgram_1 : fa_impl_ValidProgram_1.rsh = .any := rfl
theorem go_impl_ValidProgram_1 {args : List PV} {σ : List AObj} {r : PV × List AObj} (hl : args.length ≤ 20) (h : rE fns fa_impl_ValidProgram_1 σ.length [.code ac_impl_ValidProgram_1] (frA 0 args) σ = some r) : ev fns i_impl_ValidProgram_1 args σ = some r := ev_go n_impl_ValidProgram_1 rfl hl h
@[simp] theorem nt_impl_ValidProgram : fa_impl_ValidProgram.nt = 16 := rfl
@[simp] theorem rs_impl_ValidProgram : fa_impl_ValidProgram.rs = [.tmp 2] := rfl
@[simp] theorem fz_impl_ValidProgram : fa_impl_ValidProgram.fz = true := rfl
@[simp] theorem rsh_impl_ValidProgram : fa_impl_ValidProgram.rsh = .any := rfl
theorem go_impl_ValidProgram {args : List PV} {σ : List AObj} {r : PV × List AObj} (hl : args.length ≤ 16) (h : rE fns fa_impl_ValidProgram σ.length [.code ac_impl_ValidProgram] (frA 0 args) σ = some r) : ev fns i_impl_ValidProgram args σ = some r := ev_go n_impl_ValidProgram rfl hl h
@[simp] theorem nt_impl_Link_isCallLink : fa_impl_Link_isCallLink.nt = 7 := rfl
@[simp] theorem rs_impl_Link_isCallLink : fa_impl_Link_isCallLink.rs = [.tmp 2] := rfl
@[simp] theorem fz_impl_Link_isCallLink : fa_impl_Link_isCallLink.fz = true := rfl
@[simp] theorem rsh_impl_Link_isCallLink : fa_impl_Link_isCallLink.rsh = .any := rfl
theorem go_impl_Link_isCallLink {args : List PV} {σ : List AObj} {r : PV × List AObj} (hl : args.length ≤ 7) (h : rE fns fa_impl_Link_isCallLink σ.length [.code ac_impl_Link_isCallLink] (frA 0 args) σ = some r) : ev fns i_impl_Link_isCallLink args σ = some r := ev_go n_impl_Link_isCallLink rfl hl h
@[simp] theorem nt_impl_ProgramText : fa_impl_ProgramText.nt = 59 := rfl
@[simp] theorem rs_impl_ProgramText : fa_impl_ProgramText.rs = [.tmp 2] := rfl
@[simp] theorem fz_impl_ProgramText : fa_impl_ProgramText.fz = true := rfl
@[simp] theorem rsh_impl_ProgramText : fa_impl_ProgramText.rsh = .any := rfl
theorem go_impl_ProgramText {args : List PV} {σ : List AObj} {r : PV × List AObj} (hl : args.length ≤ 59) (h : rE fns fa_impl_ProgramText σ.length [.code ac_impl_ProgramText] (frA 0 args) σ = some r) : ev fns i_impl_ProgramText args σ = some r := ev_go n_impl_ProgramText rfl hl h
theorem l_impl_ProgramText_0 {ks : List KI} {l : Fr} {σ : List AObj} {n0 : Nat} : rE fns fa_impl_ProgramText n0 (.code lo_impl_ProgramText_0 :: ks) l σ = rE fns fa_impl_ProgramText n0 (.code lb_impl_ProgramText_0 :: .code lo_impl_ProgramText_0 :: ks) l σ := rE_loop
theorem l_impl_ProgramText_1 {ks : List KI} {l : Fr} {σ : List AObj} {n0 : Nat} : rE fns fa_impl_ProgramText n0 (.code lo_impl_ProgramText_1 :: ks) l σ = rE fns fa_impl_ProgramText n0 (.code lb_impl_ProgramText_1 :: .code lo_impl_ProgramText_1 :: ks) l σ := rE_loop
@[simp] theorem nt_laws_eqLink : fa_laws_eqLink.nt = 25 := rfl
@[simp] theorem rs_laws_eqLink : fa_laws_eqLink.rs = [.tmp 4] := rfl
@[simp] theorem fz_laws_eqLink : fa_laws_eqLink.fz = true := rfl
@[simp] theorem rsh_laws_eqLink : fa_laws_eqLink.rsh = .any := rfl
theorem go_laws_eqLink {args : List PV} {σ : List AObj} {r : PV × List AObj} (hl : args.length ≤ 25) (h : rE fns fa_laws_eqLink σ.length [.code ac_laws_eqLink] (frA 0 args) σ = some r) : ev fns i_laws_eqLink args σ = some r := ev_go n_laws_eqLink rfl hl h
@[simp] theorem nt_laws_eqLinkS : fa_laws_eqLinkS.nt = 27 := rfl
@[simp] theorem rs_laws_eqLinkS : fa_laws_eqLinkS.rs = [.tmp 4] := rfl
@[simp] theorem fz_laws_eqLinkS : fa_laws_eqLinkS.fz = true := rfl
@[simp] theorem rsh_laws_eqLinkS : fa_laws_eqLinkS.rsh = .any := rfl
theorem go_laws_eqLinkS {args : List PV} {σ : List AObj} {r : PV × List AObj} (hl : args.length ≤ 27) (h : rE fns fa_laws_eqLinkS σ.length [.code ac_laws_eqLinkS] (frA 0 args) σ = some r) : ev fns i_laws_eqLinkS args σ = some r := ev_go n_laws_eqLinkS rfl hl h
theorem l_laws_eqLinkS_0 {ks : List KI} {l : Fr} {σ : List AObj} {n0 : Nat} : rE fns fa_laws_eqLinkS n0 (.code lo_laws_eqLinkS_0 :: ks) l σ = rE fns fa_laws_eqLinkS n0 (.code lb_laws_eqLinkS_0 :: .code lo_laws_eqLinkS_0 :: ks) l σ := rE_loop
@[simp] theorem nt_laws_eqModule : fa_laws_eqModule.nt = 16 := rfl
@[simp] theorem rs_laws_eqModule : fa_laws_eqModule.rs = [.tmp 4] := rfl
@[simp] theorem fz_laws_eqModule : fa_laws_eqModule.fz = true := rfl
@[simp] theorem rsh_laws_eqModule : fa_laws_eqModule.rsh = .any := rfl
theorem go_laws_eqModule {args : List PV} {σ : List AObj} {r : PV × List AObj} (hl : args.length ≤ 16) (h : rE fns fa_laws_eqModule σ.length [.code ac_laws_eqModule] (frA 0 args) σ = some r) : ev fns i_laws_eqModule args σ = some r := ev_go n_laws_eqModule rfl hl h
@[simp] theorem nt_laws_eqModuleS : fa_laws_eqModuleS.nt = 27 := rfl
@[simp] theorem rs_laws_eqModuleS : fa_laws_eqModuleS.rs = [.tmp 4] := rfl
@[simp] theorem fz_laws_eqModuleS : fa_laws_eqModuleS.fz = true := rfl
@[simp] theorem rsh_laws_eqModuleS : fa_laws_eqModuleS.rsh = .any := rfl
theorem go_laws_eqModuleS {args : List PV} {σ : List AObj} {r : PV × List AObj} (hl : args.length ≤ 27) (h : rE fns fa_laws_eqModuleS σ.length [.code ac_laws_eqModuleS] (frA 0 args) σ = some r) : ev fns i_laws_eqModuleS args σ = some r := ev_go n_laws_eqModuleS rfl hl h
theorem l_laws_eqModuleS_0 {ks : List KI} {l : Fr} {σ : List AObj} {n0 : Nat} : rE fns fa_laws_eqModuleS n0 (.code lo_laws_eqModuleS_0 :: ks) l σ = rE fns fa_laws_eqModuleS n0 (.code lb_laws_eqModuleS_0 :: .code lo_laws_eqModuleS_0 :: ks) l σ := rE_loop
@[simp] theorem nt_laws_eqProgram : fa_laws_eqProgram.nt = 11 := rfl
@[simp] theorem rs_laws_eqProgram : fa_laws_eqProgram.rs = [.tmp 4] := rfl
@[simp] theorem fz_laws_eqProgram : fa_laws_eqProgram.fz = true := rfl
@[simp] theorem rsh_laws_eqProgram : fa_laws_eqProgram.rsh = .any := rfl
theorem go_laws_eqProgram {args : List PV} {σ : List AObj} {r : PV × List AObj} (hl : args.length ≤ 11) (h : rE fns fa_laws_eqProgram σ.length [.code ac_laws_eqProgram] (frA 0 args) σ = some r) : ev fns i_laws_eqProgram args σ = some r := ev_go n_laws_eqProgram rfl hl h
@[simp] theorem nt_laws_FnExactProgramText : fa_laws_FnExactProgramText.nt = 27 := rfl
@[simp] theorem rs_laws_FnExactProgramText : fa_laws_FnExactProgramText.rs = [.tmp 2] := rfl
@[simp] theorem fz_laws_FnExactProgramText : fa_laws_FnExactProgramText.fz = true := rfl
@[simp] theorem rsh_laws_FnExactProgramText : fa_laws_FnExactProgramText.rsh = .any := rfl
theorem go_laws_FnExactProgramText {args : List PV} {σ : List AObj} {r : PV × List AObj} (hl : args.length ≤ 27) (h : rE fns fa_laws_FnExactProgramText σ.length [.code ac_laws_FnExactProgramText] (frA 0 args) σ = some r) : ev fns i_laws_FnExactProgramText args σ = some r := ev_go n_laws_FnExactProgramText rfl hl h
end Go.Proofs.YtipmgemnjcjobaaDoor
