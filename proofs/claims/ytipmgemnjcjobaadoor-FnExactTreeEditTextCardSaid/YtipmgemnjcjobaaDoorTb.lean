/- The table of all functions; printed by a program (gen2.py). -/
import Derived.Test.YtipmgemnjcjobaaDoorAw30
import Derived.Test.YtipmgemnjcjobaaDoorG0
set_option linter.unusedVariables false
set_option maxRecDepth 100000
namespace Go.Proofs.YtipmgemnjcjobaaDoor
open Aw
def tbl : List (FnE Tryd.prog) := [⟨i_laws_szTreeEdit, fa_laws_szTreeEdit, cf_laws_szTreeEdit⟩,
  ⟨i_spec_l00In, fa_spec_l00In, cf_spec_l00In⟩,
  ⟨i_spec_l01Symbol, fa_spec_l01Symbol, cf_spec_l01Symbol⟩,
  ⟨i_spec_l01Ok, fa_spec_l01Ok, cf_spec_l01Ok⟩,
  ⟨i_spec_l01Call, fa_spec_l01Call, cf_spec_l01Call⟩,
  ⟨i_spec_l01Return, fa_spec_l01Return, cf_spec_l01Return⟩,
  ⟨i_spec_l01Partners, fa_spec_l01Partners, cf_spec_l01Partners⟩,
  ⟨i_spec_l01Pending, fa_spec_l01Pending, cf_spec_l01Pending⟩,
  ⟨i_spec_l01Matched, fa_spec_l01Matched, cf_spec_l01Matched⟩,
  ⟨i_spec_l06Brackets, fa_spec_l06Brackets, cf_spec_l06Brackets⟩,
  ⟨i_spec_l06Edit, fa_spec_l06Edit, cf_spec_l06Edit⟩,
  ⟨i_spec_l06Names, fa_spec_l06Names, cf_spec_l06Names⟩,
  ⟨i_spec_Decimal, fa_spec_Decimal, cf_spec_Decimal⟩,
  ⟨i_spec_l06Text, fa_spec_l06Text, cf_spec_l06Text⟩,
  ⟨i_spec_TreeEditText, fa_spec_TreeEditText, cf_spec_TreeEditText⟩,
  ⟨i_laws_toTreeEdit, fa_laws_toTreeEdit, cf_laws_toTreeEdit⟩,
  ⟨i_impl_treeFormOf, fa_impl_treeFormOf, cf_impl_treeFormOf⟩,
  ⟨i_impl_within, fa_impl_within, cf_impl_within⟩,
  ⟨i_internal_stringslite_IndexByte, fa_internal_stringslite_IndexByte, cf_internal_stringslite_IndexByte⟩,
  ⟨i_strings_IndexByte, fa_strings_IndexByte, cf_strings_IndexByte⟩,
  ⟨i_impl_ValidWord, fa_impl_ValidWord, cf_impl_ValidWord⟩,
  ⟨i_impl_size_int64, fa_impl_size_int64, cf_impl_size_int64⟩,
  ⟨i_impl_isCall, fa_impl_isCall, cf_impl_isCall⟩,
  ⟨i_impl_isReturn, fa_impl_isReturn, cf_impl_isReturn⟩,
  ⟨i_impl_match, fa_impl_match, cf_impl_match⟩,
  ⟨i_impl_isMatched, fa_impl_isMatched, cf_impl_isMatched⟩,
  ⟨i_impl_isBrackets, fa_impl_isBrackets, cf_impl_isBrackets⟩,
  ⟨i_impl_ValidTreeEdit, fa_impl_ValidTreeEdit, cf_impl_ValidTreeEdit⟩,
  ⟨i_internal_strconv_small, fa_internal_strconv_small, cf_internal_strconv_small⟩,
  ⟨i_internal_strconv_formatBase10, fa_internal_strconv_formatBase10, cf_internal_strconv_formatBase10⟩,
  ⟨i_internal_strconv_FormatInt, fa_internal_strconv_FormatInt, cf_internal_strconv_FormatInt⟩,
  ⟨i_strconv_FormatInt, fa_strconv_FormatInt, cf_strconv_FormatInt⟩,
  ⟨i_impl_decimal, fa_impl_decimal, cf_impl_decimal⟩,
  ⟨i_impl_TreeEditText, fa_impl_TreeEditText, cf_impl_TreeEditText⟩,
  ⟨i_laws_FnExactTreeEditText, fa_laws_FnExactTreeEditText, cf_laws_FnExactTreeEditText⟩,
  ⟨i_laws_szLink, fa_laws_szLink, cf_laws_szLink⟩,
  ⟨i_laws_szLinkS, fa_laws_szLinkS, cf_laws_szLinkS⟩,
  ⟨i_laws_szModule, fa_laws_szModule, cf_laws_szModule⟩,
  ⟨i_laws_szModuleS, fa_laws_szModuleS, cf_laws_szModuleS⟩,
  ⟨i_laws_szProgram, fa_laws_szProgram, cf_laws_szProgram⟩,
  ⟨i_spec_l07Inner, fa_spec_l07Inner, cf_spec_l07Inner⟩,
  ⟨i_spec_l07Ok, fa_spec_l07Ok, cf_spec_l07Ok⟩,
  ⟨i_spec_l07Text, fa_spec_l07Text, cf_spec_l07Text⟩,
  ⟨i_spec_ProgramText, fa_spec_ProgramText, cf_spec_ProgramText⟩,
  ⟨i_laws_toLink, fa_laws_toLink, cf_laws_toLink⟩,
  ⟨i_laws_toLinkS, fa_laws_toLinkS, cf_laws_toLinkS⟩,
  ⟨i_laws_toModule, fa_laws_toModule, cf_laws_toModule⟩,
  ⟨i_laws_toModuleS, fa_laws_toModuleS, cf_laws_toModuleS⟩,
  ⟨i_laws_toProgram, fa_laws_toProgram, cf_laws_toProgram⟩,
  ⟨i_impl_size_impl_Module, fa_impl_size_impl_Module, cf_impl_size_impl_Module⟩,
  ⟨i_slices_IndexFunc_L_impl_Module, fa_slices_IndexFunc_L_impl_Module, cf_slices_IndexFunc_L_impl_Module⟩,
  ⟨i_slices_ContainsFunc_L_impl_Module, fa_slices_ContainsFunc_L_impl_Module, cf_slices_ContainsFunc_L_impl_Module⟩,
  ⟨i_slices_IndexFunc_L_impl_Link, fa_slices_IndexFunc_L_impl_Link, cf_slices_IndexFunc_L_impl_Link⟩,
  ⟨i_slices_ContainsFunc_L_impl_Link, fa_slices_ContainsFunc_L_impl_Link, cf_slices_ContainsFunc_L_impl_Link⟩,
  ⟨i_impl_isLetter, fa_impl_isLetter, cf_impl_isLetter⟩,
  ⟨i_impl_ValidProgram_1_1, fa_impl_ValidProgram_1_1, cf_impl_ValidProgram_1_1⟩,
  ⟨i_impl_ValidProgram_1, fa_impl_ValidProgram_1, cf_impl_ValidProgram_1⟩,
  ⟨i_impl_ValidProgram, fa_impl_ValidProgram, cf_impl_ValidProgram⟩,
  ⟨i_P_strings_Builder_WriteString, fa_P_strings_Builder_WriteString, cf_P_strings_Builder_WriteString⟩,
  ⟨i_impl_words, fa_impl_words, cf_impl_words⟩,
  ⟨i_impl_Link_isCallLink, fa_impl_Link_isCallLink, cf_impl_Link_isCallLink⟩,
  ⟨i_impl_ProgramText, fa_impl_ProgramText, cf_impl_ProgramText⟩,
  ⟨i_laws_eqLink, fa_laws_eqLink, cf_laws_eqLink⟩,
  ⟨i_laws_eqLinkS, fa_laws_eqLinkS, cf_laws_eqLinkS⟩,
  ⟨i_laws_eqModule, fa_laws_eqModule, cf_laws_eqModule⟩,
  ⟨i_laws_eqModuleS, fa_laws_eqModuleS, cf_laws_eqModuleS⟩,
  ⟨i_laws_eqProgram, fa_laws_eqProgram, cf_laws_eqProgram⟩,
  ⟨i_laws_FnExactProgramText, fa_laws_FnExactProgramText, cf_laws_FnExactProgramText⟩]
def fns : Fns := fnsOf tbl
theorem fnsOk : FnsOk Tryd.prog fns := fnsOf_ok tbl
theorem n_laws_szTreeEdit : fns i_laws_szTreeEdit = some fa_laws_szTreeEdit := rfl
@[simp] theorem c_laws_szTreeEdit (args : List PV) (σ : List AObj) : callM fns (ev fns) i_laws_szTreeEdit args σ = callN fns i_laws_szTreeEdit args σ := callM_np n_laws_szTreeEdit rfl rfl
theorem n_spec_l00In : fns i_spec_l00In = some fa_spec_l00In := rfl
@[simp] theorem c_spec_l00In (args : List PV) (σ : List AObj) : callM fns (ev fns) i_spec_l00In args σ = callN fns i_spec_l00In args σ := callM_np n_spec_l00In rfl rfl
theorem n_spec_l01Symbol : fns i_spec_l01Symbol = some fa_spec_l01Symbol := rfl
@[simp] theorem c_spec_l01Symbol (args : List PV) (σ : List AObj) : callM fns (ev fns) i_spec_l01Symbol args σ = callN fns i_spec_l01Symbol args σ := callM_np n_spec_l01Symbol rfl rfl
theorem n_spec_l01Ok : fns i_spec_l01Ok = some fa_spec_l01Ok := rfl
@[simp] theorem c_spec_l01Ok (args : List PV) (σ : List AObj) : callM fns (ev fns) i_spec_l01Ok args σ = callN fns i_spec_l01Ok args σ := callM_np n_spec_l01Ok rfl rfl
theorem n_spec_l01Call : fns i_spec_l01Call = some fa_spec_l01Call := rfl
@[simp] theorem c_spec_l01Call (args : List PV) (σ : List AObj) : callM fns (ev fns) i_spec_l01Call args σ = callN fns i_spec_l01Call args σ := callM_np n_spec_l01Call rfl rfl
theorem n_spec_l01Return : fns i_spec_l01Return = some fa_spec_l01Return := rfl
@[simp] theorem c_spec_l01Return (args : List PV) (σ : List AObj) : callM fns (ev fns) i_spec_l01Return args σ = callN fns i_spec_l01Return args σ := callM_np n_spec_l01Return rfl rfl
theorem n_spec_l01Partners : fns i_spec_l01Partners = some fa_spec_l01Partners := rfl
@[simp] theorem c_spec_l01Partners (args : List PV) (σ : List AObj) : callM fns (ev fns) i_spec_l01Partners args σ = callN fns i_spec_l01Partners args σ := callM_np n_spec_l01Partners rfl rfl
theorem n_spec_l01Pending : fns i_spec_l01Pending = some fa_spec_l01Pending := rfl
@[simp] theorem c_spec_l01Pending (args : List PV) (σ : List AObj) : callM fns (ev fns) i_spec_l01Pending args σ = callN fns i_spec_l01Pending args σ := callM_np n_spec_l01Pending rfl rfl
theorem n_spec_l01Matched : fns i_spec_l01Matched = some fa_spec_l01Matched := rfl
@[simp] theorem c_spec_l01Matched (args : List PV) (σ : List AObj) : callM fns (ev fns) i_spec_l01Matched args σ = callN fns i_spec_l01Matched args σ := callM_np n_spec_l01Matched rfl rfl
theorem n_spec_l06Brackets : fns i_spec_l06Brackets = some fa_spec_l06Brackets := rfl
@[simp] theorem c_spec_l06Brackets (args : List PV) (σ : List AObj) : callM fns (ev fns) i_spec_l06Brackets args σ = callN fns i_spec_l06Brackets args σ := callM_np n_spec_l06Brackets rfl rfl
theorem n_spec_l06Edit : fns i_spec_l06Edit = some fa_spec_l06Edit := rfl
@[simp] theorem c_spec_l06Edit (args : List PV) (σ : List AObj) : callM fns (ev fns) i_spec_l06Edit args σ = callN fns i_spec_l06Edit args σ := callM_np n_spec_l06Edit rfl rfl
theorem n_spec_l06Names : fns i_spec_l06Names = some fa_spec_l06Names := rfl
@[simp] theorem c_spec_l06Names (args : List PV) (σ : List AObj) : callM fns (ev fns) i_spec_l06Names args σ = callN fns i_spec_l06Names args σ := callM_np n_spec_l06Names rfl rfl
theorem n_spec_Decimal : fns i_spec_Decimal = some fa_spec_Decimal := rfl
@[simp] theorem c_spec_Decimal (args : List PV) (σ : List AObj) : callM fns (ev fns) i_spec_Decimal args σ = callN fns i_spec_Decimal args σ := callM_np n_spec_Decimal rfl rfl
theorem n_spec_l06Text : fns i_spec_l06Text = some fa_spec_l06Text := rfl
@[simp] theorem c_spec_l06Text (args : List PV) (σ : List AObj) : callM fns (ev fns) i_spec_l06Text args σ = callN fns i_spec_l06Text args σ := callM_np n_spec_l06Text rfl rfl
theorem n_spec_TreeEditText : fns i_spec_TreeEditText = some fa_spec_TreeEditText := rfl
@[simp] theorem c_spec_TreeEditText (args : List PV) (σ : List AObj) : callM fns (ev fns) i_spec_TreeEditText args σ = callN fns i_spec_TreeEditText args σ := callM_np n_spec_TreeEditText rfl rfl
theorem n_laws_toTreeEdit : fns i_laws_toTreeEdit = some fa_laws_toTreeEdit := rfl
@[simp] theorem c_laws_toTreeEdit (args : List PV) (σ : List AObj) : callM fns (ev fns) i_laws_toTreeEdit args σ = callN fns i_laws_toTreeEdit args σ := callM_np n_laws_toTreeEdit rfl rfl
theorem n_impl_treeFormOf : fns i_impl_treeFormOf = some fa_impl_treeFormOf := rfl
@[simp] theorem c_impl_treeFormOf (args : List PV) (σ : List AObj) : callM fns (ev fns) i_impl_treeFormOf args σ = callN fns i_impl_treeFormOf args σ := callM_np n_impl_treeFormOf rfl rfl
theorem n_impl_within : fns i_impl_within = some fa_impl_within := rfl
@[simp] theorem c_impl_within (args : List PV) (σ : List AObj) : callM fns (ev fns) i_impl_within args σ = callN fns i_impl_within args σ := callM_np n_impl_within rfl rfl
theorem n_internal_stringslite_IndexByte : fns i_internal_stringslite_IndexByte = some fa_internal_stringslite_IndexByte := rfl
@[simp] theorem c_internal_stringslite_IndexByte (args : List PV) (σ : List AObj) : callM fns (ev fns) i_internal_stringslite_IndexByte args σ = callN fns i_internal_stringslite_IndexByte args σ := callM_np n_internal_stringslite_IndexByte rfl rfl
theorem n_strings_IndexByte : fns i_strings_IndexByte = some fa_strings_IndexByte := rfl
@[simp] theorem c_strings_IndexByte (args : List PV) (σ : List AObj) : callM fns (ev fns) i_strings_IndexByte args σ = callN fns i_strings_IndexByte args σ := callM_np n_strings_IndexByte rfl rfl
theorem n_impl_ValidWord : fns i_impl_ValidWord = some fa_impl_ValidWord := rfl
@[simp] theorem c_impl_ValidWord (args : List PV) (σ : List AObj) : callM fns (ev fns) i_impl_ValidWord args σ = callN fns i_impl_ValidWord args σ := callM_np n_impl_ValidWord rfl rfl
theorem n_impl_size_int64 : fns i_impl_size_int64 = some fa_impl_size_int64 := rfl
@[simp] theorem c_impl_size_int64 (args : List PV) (σ : List AObj) : callM fns (ev fns) i_impl_size_int64 args σ = callN fns i_impl_size_int64 args σ := callM_np n_impl_size_int64 rfl rfl
theorem n_impl_isCall : fns i_impl_isCall = some fa_impl_isCall := rfl
@[simp] theorem c_impl_isCall (args : List PV) (σ : List AObj) : callM fns (ev fns) i_impl_isCall args σ = callN fns i_impl_isCall args σ := callM_np n_impl_isCall rfl rfl
theorem n_impl_isReturn : fns i_impl_isReturn = some fa_impl_isReturn := rfl
@[simp] theorem c_impl_isReturn (args : List PV) (σ : List AObj) : callM fns (ev fns) i_impl_isReturn args σ = callN fns i_impl_isReturn args σ := callM_np n_impl_isReturn rfl rfl
theorem n_impl_match : fns i_impl_match = some fa_impl_match := rfl
@[simp] theorem c_impl_match (args : List PV) (σ : List AObj) : callM fns (ev fns) i_impl_match args σ = callN fns i_impl_match args σ := callM_np n_impl_match rfl rfl
theorem n_impl_isMatched : fns i_impl_isMatched = some fa_impl_isMatched := rfl
@[simp] theorem c_impl_isMatched (args : List PV) (σ : List AObj) : callM fns (ev fns) i_impl_isMatched args σ = callN fns i_impl_isMatched args σ := callM_np n_impl_isMatched rfl rfl
theorem n_impl_isBrackets : fns i_impl_isBrackets = some fa_impl_isBrackets := rfl
@[simp] theorem c_impl_isBrackets (args : List PV) (σ : List AObj) : callM fns (ev fns) i_impl_isBrackets args σ = callN fns i_impl_isBrackets args σ := callM_np n_impl_isBrackets rfl rfl
theorem n_impl_ValidTreeEdit : fns i_impl_ValidTreeEdit = some fa_impl_ValidTreeEdit := rfl
@[simp] theorem c_impl_ValidTreeEdit (args : List PV) (σ : List AObj) : callM fns (ev fns) i_impl_ValidTreeEdit args σ = callN fns i_impl_ValidTreeEdit args σ := callM_np n_impl_ValidTreeEdit rfl rfl
theorem n_internal_strconv_small : fns i_internal_strconv_small = some fa_internal_strconv_small := rfl
@[simp] theorem c_internal_strconv_small (args : List PV) (σ : List AObj) : callM fns (ev fns) i_internal_strconv_small args σ = callN fns i_internal_strconv_small args σ := callM_np n_internal_strconv_small rfl rfl
theorem n_internal_strconv_formatBase10 : fns i_internal_strconv_formatBase10 = some fa_internal_strconv_formatBase10 := rfl
@[simp] theorem c_internal_strconv_formatBase10 (args : List PV) (σ : List AObj) : callM fns (ev fns) i_internal_strconv_formatBase10 args σ = callN fns i_internal_strconv_formatBase10 args σ := callM_np n_internal_strconv_formatBase10 rfl rfl
theorem n_internal_strconv_FormatInt : fns i_internal_strconv_FormatInt = some fa_internal_strconv_FormatInt := rfl
@[simp] theorem c_internal_strconv_FormatInt (args : List PV) (σ : List AObj) : callM fns (ev fns) i_internal_strconv_FormatInt args σ = callN fns i_internal_strconv_FormatInt args σ := callM_np n_internal_strconv_FormatInt rfl rfl
theorem n_strconv_FormatInt : fns i_strconv_FormatInt = some fa_strconv_FormatInt := rfl
@[simp] theorem c_strconv_FormatInt (args : List PV) (σ : List AObj) : callM fns (ev fns) i_strconv_FormatInt args σ = callN fns i_strconv_FormatInt args σ := callM_np n_strconv_FormatInt rfl rfl
theorem n_impl_decimal : fns i_impl_decimal = some fa_impl_decimal := rfl
@[simp] theorem c_impl_decimal (args : List PV) (σ : List AObj) : callM fns (ev fns) i_impl_decimal args σ = callN fns i_impl_decimal args σ := callM_np n_impl_decimal rfl rfl
theorem n_impl_TreeEditText : fns i_impl_TreeEditText = some fa_impl_TreeEditText := rfl
@[simp] theorem c_impl_TreeEditText (args : List PV) (σ : List AObj) : callM fns (ev fns) i_impl_TreeEditText args σ = callN fns i_impl_TreeEditText args σ := callM_np n_impl_TreeEditText rfl rfl
theorem n_laws_FnExactTreeEditText : fns i_laws_FnExactTreeEditText = some fa_laws_FnExactTreeEditText := rfl
@[simp] theorem c_laws_FnExactTreeEditText (args : List PV) (σ : List AObj) : callM fns (ev fns) i_laws_FnExactTreeEditText args σ = callN fns i_laws_FnExactTreeEditText args σ := callM_np n_laws_FnExactTreeEditText rfl rfl
theorem n_laws_szLink : fns i_laws_szLink = some fa_laws_szLink := rfl
@[simp] theorem c_laws_szLink (args : List PV) (σ : List AObj) : callM fns (ev fns) i_laws_szLink args σ = callN fns i_laws_szLink args σ := callM_np n_laws_szLink rfl rfl
theorem n_laws_szLinkS : fns i_laws_szLinkS = some fa_laws_szLinkS := rfl
@[simp] theorem c_laws_szLinkS (args : List PV) (σ : List AObj) : callM fns (ev fns) i_laws_szLinkS args σ = callN fns i_laws_szLinkS args σ := callM_np n_laws_szLinkS rfl rfl
theorem n_laws_szModule : fns i_laws_szModule = some fa_laws_szModule := rfl
@[simp] theorem c_laws_szModule (args : List PV) (σ : List AObj) : callM fns (ev fns) i_laws_szModule args σ = callN fns i_laws_szModule args σ := callM_np n_laws_szModule rfl rfl
theorem n_laws_szModuleS : fns i_laws_szModuleS = some fa_laws_szModuleS := rfl
@[simp] theorem c_laws_szModuleS (args : List PV) (σ : List AObj) : callM fns (ev fns) i_laws_szModuleS args σ = callN fns i_laws_szModuleS args σ := callM_np n_laws_szModuleS rfl rfl
theorem n_laws_szProgram : fns i_laws_szProgram = some fa_laws_szProgram := rfl
@[simp] theorem c_laws_szProgram (args : List PV) (σ : List AObj) : callM fns (ev fns) i_laws_szProgram args σ = callN fns i_laws_szProgram args σ := callM_np n_laws_szProgram rfl rfl
theorem n_spec_l07Inner : fns i_spec_l07Inner = some fa_spec_l07Inner := rfl
@[simp] theorem c_spec_l07Inner (args : List PV) (σ : List AObj) : callM fns (ev fns) i_spec_l07Inner args σ = callN fns i_spec_l07Inner args σ := callM_np n_spec_l07Inner rfl rfl
theorem n_spec_l07Ok : fns i_spec_l07Ok = some fa_spec_l07Ok := rfl
@[simp] theorem c_spec_l07Ok (args : List PV) (σ : List AObj) : callM fns (ev fns) i_spec_l07Ok args σ = callN fns i_spec_l07Ok args σ := callM_np n_spec_l07Ok rfl rfl
theorem n_spec_l07Text : fns i_spec_l07Text = some fa_spec_l07Text := rfl
@[simp] theorem c_spec_l07Text (args : List PV) (σ : List AObj) : callM fns (ev fns) i_spec_l07Text args σ = callN fns i_spec_l07Text args σ := callM_np n_spec_l07Text rfl rfl
theorem n_spec_ProgramText : fns i_spec_ProgramText = some fa_spec_ProgramText := rfl
@[simp] theorem c_spec_ProgramText (args : List PV) (σ : List AObj) : callM fns (ev fns) i_spec_ProgramText args σ = callN fns i_spec_ProgramText args σ := callM_np n_spec_ProgramText rfl rfl
theorem n_laws_toLink : fns i_laws_toLink = some fa_laws_toLink := rfl
@[simp] theorem c_laws_toLink (args : List PV) (σ : List AObj) : callM fns (ev fns) i_laws_toLink args σ = callN fns i_laws_toLink args σ := callM_np n_laws_toLink rfl rfl
theorem n_laws_toLinkS : fns i_laws_toLinkS = some fa_laws_toLinkS := rfl
@[simp] theorem c_laws_toLinkS (args : List PV) (σ : List AObj) : callM fns (ev fns) i_laws_toLinkS args σ = callN fns i_laws_toLinkS args σ := callM_np n_laws_toLinkS rfl rfl
theorem n_laws_toModule : fns i_laws_toModule = some fa_laws_toModule := rfl
@[simp] theorem c_laws_toModule (args : List PV) (σ : List AObj) : callM fns (ev fns) i_laws_toModule args σ = callN fns i_laws_toModule args σ := callM_np n_laws_toModule rfl rfl
theorem n_laws_toModuleS : fns i_laws_toModuleS = some fa_laws_toModuleS := rfl
@[simp] theorem c_laws_toModuleS (args : List PV) (σ : List AObj) : callM fns (ev fns) i_laws_toModuleS args σ = callN fns i_laws_toModuleS args σ := callM_np n_laws_toModuleS rfl rfl
theorem n_laws_toProgram : fns i_laws_toProgram = some fa_laws_toProgram := rfl
@[simp] theorem c_laws_toProgram (args : List PV) (σ : List AObj) : callM fns (ev fns) i_laws_toProgram args σ = callN fns i_laws_toProgram args σ := callM_np n_laws_toProgram rfl rfl
theorem n_impl_size_impl_Module : fns i_impl_size_impl_Module = some fa_impl_size_impl_Module := rfl
@[simp] theorem c_impl_size_impl_Module (args : List PV) (σ : List AObj) : callM fns (ev fns) i_impl_size_impl_Module args σ = callN fns i_impl_size_impl_Module args σ := callM_np n_impl_size_impl_Module rfl rfl
theorem n_slices_IndexFunc_L_impl_Module : fns i_slices_IndexFunc_L_impl_Module = some fa_slices_IndexFunc_L_impl_Module := rfl
@[simp] theorem c_slices_IndexFunc_L_impl_Module (args : List PV) (σ : List AObj) : callM fns (ev fns) i_slices_IndexFunc_L_impl_Module args σ = callN fns i_slices_IndexFunc_L_impl_Module args σ := callM_np n_slices_IndexFunc_L_impl_Module rfl rfl
theorem n_slices_ContainsFunc_L_impl_Module : fns i_slices_ContainsFunc_L_impl_Module = some fa_slices_ContainsFunc_L_impl_Module := rfl
@[simp] theorem c_slices_ContainsFunc_L_impl_Module (args : List PV) (σ : List AObj) : callM fns (ev fns) i_slices_ContainsFunc_L_impl_Module args σ = callN fns i_slices_ContainsFunc_L_impl_Module args σ := callM_np n_slices_ContainsFunc_L_impl_Module rfl rfl
theorem n_slices_IndexFunc_L_impl_Link : fns i_slices_IndexFunc_L_impl_Link = some fa_slices_IndexFunc_L_impl_Link := rfl
@[simp] theorem c_slices_IndexFunc_L_impl_Link (args : List PV) (σ : List AObj) : callM fns (ev fns) i_slices_IndexFunc_L_impl_Link args σ = callN fns i_slices_IndexFunc_L_impl_Link args σ := callM_np n_slices_IndexFunc_L_impl_Link rfl rfl
theorem n_slices_ContainsFunc_L_impl_Link : fns i_slices_ContainsFunc_L_impl_Link = some fa_slices_ContainsFunc_L_impl_Link := rfl
@[simp] theorem c_slices_ContainsFunc_L_impl_Link (args : List PV) (σ : List AObj) : callM fns (ev fns) i_slices_ContainsFunc_L_impl_Link args σ = callN fns i_slices_ContainsFunc_L_impl_Link args σ := callM_np n_slices_ContainsFunc_L_impl_Link rfl rfl
theorem n_impl_isLetter : fns i_impl_isLetter = some fa_impl_isLetter := rfl
@[simp] theorem c_impl_isLetter (args : List PV) (σ : List AObj) : callM fns (ev fns) i_impl_isLetter args σ = callN fns i_impl_isLetter args σ := callM_np n_impl_isLetter rfl rfl
theorem n_impl_ValidProgram_1_1 : fns i_impl_ValidProgram_1_1 = some fa_impl_ValidProgram_1_1 := rfl
@[simp] theorem c_impl_ValidProgram_1_1 (args : List PV) (σ : List AObj) : callM fns (ev fns) i_impl_ValidProgram_1_1 args σ = callN fns i_impl_ValidProgram_1_1 args σ := callM_np n_impl_ValidProgram_1_1 rfl rfl
theorem n_impl_ValidProgram_1 : fns i_impl_ValidProgram_1 = some fa_impl_ValidProgram_1 := rfl
@[simp] theorem c_impl_ValidProgram_1 (args : List PV) (σ : List AObj) : callM fns (ev fns) i_impl_ValidProgram_1 args σ = callN fns i_impl_ValidProgram_1 args σ := callM_np n_impl_ValidProgram_1 rfl rfl
theorem n_impl_ValidProgram : fns i_impl_ValidProgram = some fa_impl_ValidProgram := rfl
@[simp] theorem c_impl_ValidProgram (args : List PV) (σ : List AObj) : callM fns (ev fns) i_impl_ValidProgram args σ = callN fns i_impl_ValidProgram args σ := callM_np n_impl_ValidProgram rfl rfl
theorem n_P_strings_Builder_WriteString : fns i_P_strings_Builder_WriteString = some fa_P_strings_Builder_WriteString := rfl
@[simp] theorem c_P_strings_Builder_WriteString (args : List PV) (σ : List AObj) : callM fns (ev fns) i_P_strings_Builder_WriteString args σ = callN fns i_P_strings_Builder_WriteString args σ := callM_np n_P_strings_Builder_WriteString rfl rfl
theorem n_impl_words : fns i_impl_words = some fa_impl_words := rfl
@[simp] theorem c_impl_words (args : List PV) (σ : List AObj) : callM fns (ev fns) i_impl_words args σ = callN fns i_impl_words args σ := callM_np n_impl_words rfl rfl
theorem n_impl_Link_isCallLink : fns i_impl_Link_isCallLink = some fa_impl_Link_isCallLink := rfl
@[simp] theorem c_impl_Link_isCallLink (args : List PV) (σ : List AObj) : callM fns (ev fns) i_impl_Link_isCallLink args σ = callN fns i_impl_Link_isCallLink args σ := callM_np n_impl_Link_isCallLink rfl rfl
theorem n_impl_ProgramText : fns i_impl_ProgramText = some fa_impl_ProgramText := rfl
@[simp] theorem c_impl_ProgramText (args : List PV) (σ : List AObj) : callM fns (ev fns) i_impl_ProgramText args σ = callN fns i_impl_ProgramText args σ := callM_np n_impl_ProgramText rfl rfl
theorem n_laws_eqLink : fns i_laws_eqLink = some fa_laws_eqLink := rfl
@[simp] theorem c_laws_eqLink (args : List PV) (σ : List AObj) : callM fns (ev fns) i_laws_eqLink args σ = callN fns i_laws_eqLink args σ := callM_np n_laws_eqLink rfl rfl
theorem n_laws_eqLinkS : fns i_laws_eqLinkS = some fa_laws_eqLinkS := rfl
@[simp] theorem c_laws_eqLinkS (args : List PV) (σ : List AObj) : callM fns (ev fns) i_laws_eqLinkS args σ = callN fns i_laws_eqLinkS args σ := callM_np n_laws_eqLinkS rfl rfl
theorem n_laws_eqModule : fns i_laws_eqModule = some fa_laws_eqModule := rfl
@[simp] theorem c_laws_eqModule (args : List PV) (σ : List AObj) : callM fns (ev fns) i_laws_eqModule args σ = callN fns i_laws_eqModule args σ := callM_np n_laws_eqModule rfl rfl
theorem n_laws_eqModuleS : fns i_laws_eqModuleS = some fa_laws_eqModuleS := rfl
@[simp] theorem c_laws_eqModuleS (args : List PV) (σ : List AObj) : callM fns (ev fns) i_laws_eqModuleS args σ = callN fns i_laws_eqModuleS args σ := callM_np n_laws_eqModuleS rfl rfl
theorem n_laws_eqProgram : fns i_laws_eqProgram = some fa_laws_eqProgram := rfl
@[simp] theorem c_laws_eqProgram (args : List PV) (σ : List AObj) : callM fns (ev fns) i_laws_eqProgram args σ = callN fns i_laws_eqProgram args σ := callM_np n_laws_eqProgram rfl rfl
theorem n_laws_FnExactProgramText : fns i_laws_FnExactProgramText = some fa_laws_FnExactProgramText := rfl
@[simp] theorem c_laws_FnExactProgramText (args : List PV) (σ : List AObj) : callM fns (ev fns) i_laws_FnExactProgramText args σ = callN fns i_laws_FnExactProgramText args σ := callM_np n_laws_FnExactProgramText rfl rfl
@[simp] theorem nt_laws_szTreeEdit : fa_laws_szTreeEdit.nt = 13 := rfl
@[simp] theorem rs_laws_szTreeEdit : fa_laws_szTreeEdit.rs = [.tmp 4] := rfl
@[simp] theorem fz_laws_szTreeEdit : fa_laws_szTreeEdit.fz = true := rfl
@[simp] theorem rsh_laws_szTreeEdit : fa_laws_szTreeEdit.rsh = .any := rfl
theorem go_laws_szTreeEdit {args : List PV} {σ : List AObj} {r : PV × List AObj} (hl : args.length ≤ 13) (h : rE fns fa_laws_szTreeEdit σ.length [.code ac_laws_szTreeEdit] (frA 0 args) σ = some r) : ev fns i_laws_szTreeEdit args σ = some r := ev_go n_laws_szTreeEdit rfl hl h
@[simp] theorem nt_spec_l00In : fa_spec_l00In.nt = 15 := rfl
@[simp] theorem rs_spec_l00In : fa_spec_l00In.rs = [.tmp 6] := rfl
@[simp] theorem fz_spec_l00In : fa_spec_l00In.fz = true := rfl
@[simp] theorem rsh_spec_l00In : fa_spec_l00In.rsh = .any := rfl
theorem go_spec_l00In {args : List PV} {σ : List AObj} {r : PV × List AObj} (hl : args.length ≤ 15) (h : rE fns fa_spec_l00In σ.length [.code ac_spec_l00In] (frA 0 args) σ = some r) : ev fns i_spec_l00In args σ = some r := ev_go n_spec_l00In rfl hl h
@[simp] theorem nt_spec_l01Symbol : fa_spec_l01Symbol.nt = 13 := rfl
@[simp] theorem rs_spec_l01Symbol : fa_spec_l01Symbol.rs = [.tmp 2] := rfl
@[simp] theorem fz_spec_l01Symbol : fa_spec_l01Symbol.fz = true := rfl
@[simp] theorem rsh_spec_l01Symbol : fa_spec_l01Symbol.rsh = .any := rfl
theorem go_spec_l01Symbol {args : List PV} {σ : List AObj} {r : PV × List AObj} (hl : args.length ≤ 13) (h : rE fns fa_spec_l01Symbol σ.length [.code ac_spec_l01Symbol] (frA 0 args) σ = some r) : ev fns i_spec_l01Symbol args σ = some r := ev_go n_spec_l01Symbol rfl hl h
theorem l_spec_l01Symbol_0 {ks : List KI} {l : Fr} {σ : List AObj} {n0 : Nat} : rE fns fa_spec_l01Symbol n0 (.code lo_spec_l01Symbol_0 :: ks) l σ = rE fns fa_spec_l01Symbol n0 (.code lb_spec_l01Symbol_0 :: .code lo_spec_l01Symbol_0 :: ks) l σ := rE_loop
@[simp] theorem nt_spec_l01Ok : fa_spec_l01Ok.nt = 18 := rfl
@[simp] theorem rs_spec_l01Ok : fa_spec_l01Ok.rs = [.tmp 2] := rfl
@[simp] theorem fz_spec_l01Ok : fa_spec_l01Ok.fz = true := rfl
@[simp] theorem rsh_spec_l01Ok : fa_spec_l01Ok.rsh = .any := rfl
theorem go_spec_l01Ok {args : List PV} {σ : List AObj} {r : PV × List AObj} (hl : args.length ≤ 18) (h : rE fns fa_spec_l01Ok σ.length [.code ac_spec_l01Ok] (frA 0 args) σ = some r) : ev fns i_spec_l01Ok args σ = some r := ev_go n_spec_l01Ok rfl hl h
theorem l_spec_l01Ok_0 {ks : List KI} {l : Fr} {σ : List AObj} {n0 : Nat} : rE fns fa_spec_l01Ok n0 (.code lo_spec_l01Ok_0 :: ks) l σ = rE fns fa_spec_l01Ok n0 (.code lb_spec_l01Ok_0 :: .code lo_spec_l01Ok_0 :: ks) l σ := rE_loop
@[simp] theorem nt_spec_l01Call : fa_spec_l01Call.nt = 9 := rfl
@[simp] theorem rs_spec_l01Call : fa_spec_l01Call.rs = [.tmp 2] := rfl
@[simp] theorem fz_spec_l01Call : fa_spec_l01Call.fz = true := rfl
@[simp] theorem rsh_spec_l01Call : fa_spec_l01Call.rsh = .any := rfl
theorem go_spec_l01Call {args : List PV} {σ : List AObj} {r : PV × List AObj} (hl : args.length ≤ 9) (h : rE fns fa_spec_l01Call σ.length [.code ac_spec_l01Call] (frA 0 args) σ = some r) : ev fns i_spec_l01Call args σ = some r := ev_go n_spec_l01Call rfl hl h
@[simp] theorem nt_spec_l01Return : fa_spec_l01Return.nt = 9 := rfl
@[simp] theorem rs_spec_l01Return : fa_spec_l01Return.rs = [.tmp 2] := rfl
@[simp] theorem fz_spec_l01Return : fa_spec_l01Return.fz = true := rfl
@[simp] theorem rsh_spec_l01Return : fa_spec_l01Return.rsh = .any := rfl
theorem go_spec_l01Return {args : List PV} {σ : List AObj} {r : PV × List AObj} (hl : args.length ≤ 9) (h : rE fns fa_spec_l01Return σ.length [.code ac_spec_l01Return] (frA 0 args) σ = some r) : ev fns i_spec_l01Return args σ = some r := ev_go n_spec_l01Return rfl hl h
@[simp] theorem nt_spec_l01Partners : fa_spec_l01Partners.nt = 68 := rfl
@[simp] theorem rs_spec_l01Partners : fa_spec_l01Partners.rs = [.tmp 2] := rfl
@[simp] theorem fz_spec_l01Partners : fa_spec_l01Partners.fz = true := rfl
@[simp] theorem rsh_spec_l01Partners : fa_spec_l01Partners.rsh = .any := rfl
theorem go_spec_l01Partners {args : List PV} {σ : List AObj} {r : PV × List AObj} (hl : args.length ≤ 68) (h : rE fns fa_spec_l01Partners σ.length [.code ac_spec_l01Partners] (frA 0 args) σ = some r) : ev fns i_spec_l01Partners args σ = some r := ev_go n_spec_l01Partners rfl hl h
theorem l_spec_l01Partners_0 {ks : List KI} {l : Fr} {σ : List AObj} {n0 : Nat} : rE fns fa_spec_l01Partners n0 (.code lo_spec_l01Partners_0 :: ks) l σ = rE fns fa_spec_l01Partners n0 (.code lb_spec_l01Partners_0 :: .code lo_spec_l01Partners_0 :: ks) l σ := rE_loop
@[simp] theorem nt_spec_l01Pending : fa_spec_l01Pending.nt = 44 := rfl
@[simp] theorem rs_spec_l01Pending : fa_spec_l01Pending.rs = [.tmp 2, .tmp 3] := rfl
@[simp] theorem fz_spec_l01Pending : fa_spec_l01Pending.fz = true := rfl
@[simp] theorem rsh_spec_l01Pending : fa_spec_l01Pending.rsh = .any := rfl
theorem go_spec_l01Pending {args : List PV} {σ : List AObj} {r : PV × List AObj} (hl : args.length ≤ 44) (h : rE fns fa_spec_l01Pending σ.length [.code ac_spec_l01Pending] (frA 0 args) σ = some r) : ev fns i_spec_l01Pending args σ = some r := ev_go n_spec_l01Pending rfl hl h
theorem l_spec_l01Pending_0 {ks : List KI} {l : Fr} {σ : List AObj} {n0 : Nat} : rE fns fa_spec_l01Pending n0 (.code lo_spec_l01Pending_0 :: ks) l σ = rE fns fa_spec_l01Pending n0 (.code lb_spec_l01Pending_0 :: .code lo_spec_l01Pending_0 :: ks) l σ := rE_loop
@[simp] theorem nt_spec_l01Matched : fa_spec_l01Matched.nt = 14 := rfl
@[simp] theorem rs_spec_l01Matched : fa_spec_l01Matched.rs = [.tmp 2] := rfl
@[simp] theorem fz_spec_l01Matched : fa_spec_l01Matched.fz = true := rfl
@[simp] theorem rsh_spec_l01Matched : fa_spec_l01Matched.rsh = .any := rfl
theorem go_spec_l01Matched {args : List PV} {σ : List AObj} {r : PV × List AObj} (hl : args.length ≤ 14) (h : rE fns fa_spec_l01Matched σ.length [.code ac_spec_l01Matched] (frA 0 args) σ = some r) : ev fns i_spec_l01Matched args σ = some r := ev_go n_spec_l01Matched rfl hl h
@[simp] theorem nt_spec_l06Brackets : fa_spec_l06Brackets.nt = 16 := rfl
@[simp] theorem rs_spec_l06Brackets : fa_spec_l06Brackets.rs = [.tmp 2] := rfl
@[simp] theorem fz_spec_l06Brackets : fa_spec_l06Brackets.fz = true := rfl
@[simp] theorem rsh_spec_l06Brackets : fa_spec_l06Brackets.rsh = .any := rfl
theorem go_spec_l06Brackets {args : List PV} {σ : List AObj} {r : PV × List AObj} (hl : args.length ≤ 16) (h : rE fns fa_spec_l06Brackets σ.length [.code ac_spec_l06Brackets] (frA 0 args) σ = some r) : ev fns i_spec_l06Brackets args σ = some r := ev_go n_spec_l06Brackets rfl hl h
@[simp] theorem nt_spec_l06Edit : fa_spec_l06Edit.nt = 70 := rfl
@[simp] theorem rs_spec_l06Edit : fa_spec_l06Edit.rs = [.tmp 2] := rfl
@[simp] theorem fz_spec_l06Edit : fa_spec_l06Edit.fz = true := rfl
@[simp] theorem rsh_spec_l06Edit : fa_spec_l06Edit.rsh = .any := rfl
theorem go_spec_l06Edit {args : List PV} {σ : List AObj} {r : PV × List AObj} (hl : args.length ≤ 70) (h : rE fns fa_spec_l06Edit σ.length [.code ac_spec_l06Edit] (frA 0 args) σ = some r) : ev fns i_spec_l06Edit args σ = some r := ev_go n_spec_l06Edit rfl hl h
@[simp] theorem nt_spec_l06Names : fa_spec_l06Names.nt = 2 := rfl
@[simp] theorem rs_spec_l06Names : fa_spec_l06Names.rs = [.tmp 0] := rfl
@[simp] theorem fz_spec_l06Names : fa_spec_l06Names.fz = true := rfl
@[simp] theorem rsh_spec_l06Names : fa_spec_l06Names.rsh = .any := rfl
theorem go_spec_l06Names {args : List PV} {σ : List AObj} {r : PV × List AObj} (hl : args.length ≤ 2) (h : rE fns fa_spec_l06Names σ.length [.code ac_spec_l06Names] (frA 0 args) σ = some r) : ev fns i_spec_l06Names args σ = some r := ev_go n_spec_l06Names rfl hl h
@[simp] theorem nt_spec_Decimal : fa_spec_Decimal.nt = 20 := rfl
@[simp] theorem rs_spec_Decimal : fa_spec_Decimal.rs = [.tmp 2] := rfl
@[simp] theorem fz_spec_Decimal : fa_spec_Decimal.fz = true := rfl
@[simp] theorem rsh_spec_Decimal : fa_spec_Decimal.rsh = .any := rfl
theorem go_spec_Decimal {args : List PV} {σ : List AObj} {r : PV × List AObj} (hl : args.length ≤ 20) (h : rE fns fa_spec_Decimal σ.length [.code ac_spec_Decimal] (frA 0 args) σ = some r) : ev fns i_spec_Decimal args σ = some r := ev_go n_spec_Decimal rfl hl h
@[simp] theorem nt_spec_l06Text : fa_spec_l06Text.nt = 54 := rfl
@[simp] theorem rs_spec_l06Text : fa_spec_l06Text.rs = [.tmp 2] := rfl
@[simp] theorem fz_spec_l06Text : fa_spec_l06Text.fz = true := rfl
@[simp] theorem rsh_spec_l06Text : fa_spec_l06Text.rsh = .any := rfl
theorem go_spec_l06Text {args : List PV} {σ : List AObj} {r : PV × List AObj} (hl : args.length ≤ 54) (h : rE fns fa_spec_l06Text σ.length [.code ac_spec_l06Text] (frA 0 args) σ = some r) : ev fns i_spec_l06Text args σ = some r := ev_go n_spec_l06Text rfl hl h
@[simp] theorem nt_spec_TreeEditText : fa_spec_TreeEditText.nt = 6 := rfl
@[simp] theorem rs_spec_TreeEditText : fa_spec_TreeEditText.rs = [.tmp 2] := rfl
@[simp] theorem fz_spec_TreeEditText : fa_spec_TreeEditText.fz = true := rfl
@[simp] theorem rsh_spec_TreeEditText : fa_spec_TreeEditText.rsh = .any := rfl
theorem go_spec_TreeEditText {args : List PV} {σ : List AObj} {r : PV × List AObj} (hl : args.length ≤ 6) (h : rE fns fa_spec_TreeEditText σ.length [.code ac_spec_TreeEditText] (frA 0 args) σ = some r) : ev fns i_spec_TreeEditText args σ = some r := ev_go n_spec_TreeEditText rfl hl h
@[simp] theorem nt_laws_toTreeEdit : fa_laws_toTreeEdit.nt = 17 := rfl
@[simp] theorem rs_laws_toTreeEdit : fa_laws_toTreeEdit.rs = [.cell 2 4 true] := rfl
@[simp] theorem fz_laws_toTreeEdit : fa_laws_toTreeEdit.fz = true := rfl
@[simp] theorem rsh_laws_toTreeEdit : fa_laws_toTreeEdit.rsh = .any := rfl
theorem go_laws_toTreeEdit {args : List PV} {σ : List AObj} {r : PV × List AObj} (hl : args.length ≤ 17) (h : rE fns fa_laws_toTreeEdit σ.length [.code ac_laws_toTreeEdit] (frA 0 args) σ = some r) : ev fns i_laws_toTreeEdit args σ = some r := ev_go n_laws_toTreeEdit rfl hl h
@[simp] theorem nt_impl_treeFormOf : fa_impl_treeFormOf.nt = 21 := rfl
@[simp] theorem rs_impl_treeFormOf : fa_impl_treeFormOf.rs = [.cell 2 3 true, .tmp 3] := rfl
@[simp] theorem fz_impl_treeFormOf : fa_impl_treeFormOf.fz = true := rfl
@[simp] theorem rsh_impl_treeFormOf : fa_impl_treeFormOf.rsh = .any := rfl
theorem go_impl_treeFormOf {args : List PV} {σ : List AObj} {r : PV × List AObj} (hl : args.length ≤ 21) (h : rE fns fa_impl_treeFormOf σ.length [.code ac_impl_treeFormOf] (frA 0 args) σ = some r) : ev fns i_impl_treeFormOf args σ = some r := ev_go n_impl_treeFormOf rfl hl h
@[simp] theorem nt_impl_within : fa_impl_within.nt = 15 := rfl
@[simp] theorem rs_impl_within : fa_impl_within.rs = [.tmp 6] := rfl
@[simp] theorem fz_impl_within : fa_impl_within.fz = true := rfl
@[simp] theorem rsh_impl_within : fa_impl_within.rsh = .any := rfl
theorem go_impl_within {args : List PV} {σ : List AObj} {r : PV × List AObj} (hl : args.length ≤ 15) (h : rE fns fa_impl_within σ.length [.code ac_impl_within] (frA 0 args) σ = some r) : ev fns i_impl_within args σ = some r := ev_go n_impl_within rfl hl h
@[simp] theorem nt_internal_stringslite_IndexByte : fa_internal_stringslite_IndexByte.nt = 8 := rfl
@[simp] theorem rs_internal_stringslite_IndexByte : fa_internal_stringslite_IndexByte.rs = [.tmp 4] := rfl
@[simp] theorem fz_internal_stringslite_IndexByte : fa_internal_stringslite_IndexByte.fz = true := rfl
@[simp] theorem rsh_internal_stringslite_IndexByte : fa_internal_stringslite_IndexByte.rsh = .any := rfl
theorem go_internal_stringslite_IndexByte {args : List PV} {σ : List AObj} {r : PV × List AObj} (hl : args.length ≤ 8) (h : rE fns fa_internal_stringslite_IndexByte σ.length [.code ac_internal_stringslite_IndexByte] (frA 0 args) σ = some r) : ev fns i_internal_stringslite_IndexByte args σ = some r := ev_go n_internal_stringslite_IndexByte rfl hl h
@[simp] theorem nt_strings_IndexByte : fa_strings_IndexByte.nt = 8 := rfl
@[simp] theorem rs_strings_IndexByte : fa_strings_IndexByte.rs = [.tmp 4] := rfl
@[simp] theorem fz_strings_IndexByte : fa_strings_IndexByte.fz = true := rfl
@[simp] theorem rsh_strings_IndexByte : fa_strings_IndexByte.rsh = .any := rfl
theorem go_strings_IndexByte {args : List PV} {σ : List AObj} {r : PV × List AObj} (hl : args.length ≤ 8) (h : rE fns fa_strings_IndexByte σ.length [.code ac_strings_IndexByte] (frA 0 args) σ = some r) : ev fns i_strings_IndexByte args σ = some r := ev_go n_strings_IndexByte rfl hl h
@[simp] theorem nt_impl_ValidWord : fa_impl_ValidWord.nt = 18 := rfl
@[simp] theorem rs_impl_ValidWord : fa_impl_ValidWord.rs = [.tmp 2] := rfl
@[simp] theorem fz_impl_ValidWord : fa_impl_ValidWord.fz = true := rfl
@[simp] theorem rsh_impl_ValidWord : fa_impl_ValidWord.rsh = .any := rfl
theorem go_impl_ValidWord {args : List PV} {σ : List AObj} {r : PV × List AObj} (hl : args.length ≤ 18) (h : rE fns fa_impl_ValidWord σ.length [.code ac_impl_ValidWord] (frA 0 args) σ = some r) : ev fns i_impl_ValidWord args σ = some r := ev_go n_impl_ValidWord rfl hl h
theorem l_impl_ValidWord_0 {ks : List KI} {l : Fr} {σ : List AObj} {n0 : Nat} : rE fns fa_impl_ValidWord n0 (.code lo_impl_ValidWord_0 :: ks) l σ = rE fns fa_impl_ValidWord n0 (.code lb_impl_ValidWord_0 :: .code lo_impl_ValidWord_0 :: ks) l σ := rE_loop
@[simp] theorem nt_impl_size_int64 : fa_impl_size_int64.nt = 5 := rfl
@[simp] theorem rs_impl_size_int64 : fa_impl_size_int64.rs = [.tmp 2] := rfl
@[simp] theorem fz_impl_size_int64 : fa_impl_size_int64.fz = true := rfl
@[simp] theorem rsh_impl_size_int64 : fa_impl_size_int64.rsh = .any := rfl
theorem go_impl_size_int64 {args : List PV} {σ : List AObj} {r : PV × List AObj} (hl : args.length ≤ 5) (h : rE fns fa_impl_size_int64 σ.length [.code ac_impl_size_int64] (frA 0 args) σ = some r) : ev fns i_impl_size_int64 args σ = some r := ev_go n_impl_size_int64 rfl hl h
@[simp] theorem nt_impl_isCall : fa_impl_isCall.nt = 9 := rfl
@[simp] theorem rs_impl_isCall : fa_impl_isCall.rs = [.tmp 2] := rfl
@[simp] theorem fz_impl_isCall : fa_impl_isCall.fz = true := rfl
@[simp] theorem rsh_impl_isCall : fa_impl_isCall.rsh = .any := rfl
theorem go_impl_isCall {args : List PV} {σ : List AObj} {r : PV × List AObj} (hl : args.length ≤ 9) (h : rE fns fa_impl_isCall σ.length [.code ac_impl_isCall] (frA 0 args) σ = some r) : ev fns i_impl_isCall args σ = some r := ev_go n_impl_isCall rfl hl h
@[simp] theorem nt_impl_isReturn : fa_impl_isReturn.nt = 9 := rfl
@[simp] theorem rs_impl_isReturn : fa_impl_isReturn.rs = [.tmp 2] := rfl
@[simp] theorem fz_impl_isReturn : fa_impl_isReturn.fz = true := rfl
@[simp] theorem rsh_impl_isReturn : fa_impl_isReturn.rsh = .any := rfl
theorem go_impl_isReturn {args : List PV} {σ : List AObj} {r : PV × List AObj} (hl : args.length ≤ 9) (h : rE fns fa_impl_isReturn σ.length [.code ac_impl_isReturn] (frA 0 args) σ = some r) : ev fns i_impl_isReturn args σ = some r := ev_go n_impl_isReturn rfl hl h
@[simp] theorem nt_impl_match : fa_impl_match.nt = 101 := rfl
@[simp] theorem rs_impl_match : fa_impl_match.rs = [.cell 2 5 true] := rfl
@[simp] theorem fz_impl_match : fa_impl_match.fz = true := rfl
@[simp] theorem rsh_impl_match : fa_impl_match.rsh = .any := rfl
theorem go_impl_match {args : List PV} {σ : List AObj} {r : PV × List AObj} (hl : args.length ≤ 101) (h : rE fns fa_impl_match σ.length [.code ac_impl_match] (frA 0 args) σ = some r) : ev fns i_impl_match args σ = some r := ev_go n_impl_match rfl hl h
theorem l_impl_match_0 {ks : List KI} {l : Fr} {σ : List AObj} {n0 : Nat} : rE fns fa_impl_match n0 (.code lo_impl_match_0 :: ks) l σ = rE fns fa_impl_match n0 (.code lb_impl_match_0 :: .code lo_impl_match_0 :: ks) l σ := rE_loop
@[simp] theorem nt_impl_isMatched : fa_impl_isMatched.nt = 14 := rfl
@[simp] theorem rs_impl_isMatched : fa_impl_isMatched.rs = [.tmp 2] := rfl
@[simp] theorem fz_impl_isMatched : fa_impl_isMatched.fz = true := rfl
@[simp] theorem rsh_impl_isMatched : fa_impl_isMatched.rsh = .any := rfl
theorem go_impl_isMatched {args : List PV} {σ : List AObj} {r : PV × List AObj} (hl : args.length ≤ 14) (h : rE fns fa_impl_isMatched σ.length [.code ac_impl_isMatched] (frA 0 args) σ = some r) : ev fns i_impl_isMatched args σ = some r := ev_go n_impl_isMatched rfl hl h
@[simp] theorem nt_impl_isBrackets : fa_impl_isBrackets.nt = 16 := rfl
@[simp] theorem rs_impl_isBrackets : fa_impl_isBrackets.rs = [.tmp 2] := rfl
@[simp] theorem fz_impl_isBrackets : fa_impl_isBrackets.fz = true := rfl
@[simp] theorem rsh_impl_isBrackets : fa_impl_isBrackets.rsh = .any := rfl
theorem go_impl_isBrackets {args : List PV} {σ : List AObj} {r : PV × List AObj} (hl : args.length ≤ 16) (h : rE fns fa_impl_isBrackets σ.length [.code ac_impl_isBrackets] (frA 0 args) σ = some r) : ev fns i_impl_isBrackets args σ = some r := ev_go n_impl_isBrackets rfl hl h
@[simp] theorem nt_impl_ValidTreeEdit : fa_impl_ValidTreeEdit.nt = 56 := rfl
@[simp] theorem rs_impl_ValidTreeEdit : fa_impl_ValidTreeEdit.rs = [.tmp 2] := rfl
@[simp] theorem fz_impl_ValidTreeEdit : fa_impl_ValidTreeEdit.fz = true := rfl
@[simp] theorem rsh_impl_ValidTreeEdit : fa_impl_ValidTreeEdit.rsh = .any := rfl
theorem go_impl_ValidTreeEdit {args : List PV} {σ : List AObj} {r : PV × List AObj} (hl : args.length ≤ 56) (h : rE fns fa_impl_ValidTreeEdit σ.length [.code ac_impl_ValidTreeEdit] (frA 0 args) σ = some r) : ev fns i_impl_ValidTreeEdit args σ = some r := ev_go n_impl_ValidTreeEdit rfl hl h
@[simp] theorem nt_internal_strconv_small : fa_internal_strconv_small.nt = 15 := rfl
@[simp] theorem rs_internal_strconv_small : fa_internal_strconv_small.rs = [.tmp 2] := rfl
@[simp] theorem fz_internal_strconv_small : fa_internal_strconv_small.fz = true := rfl
@[simp] theorem rsh_internal_strconv_small : fa_internal_strconv_small.rsh = .any := rfl
theorem go_internal_strconv_small {args : List PV} {σ : List AObj} {r : PV × List AObj} (hl : args.length ≤ 15) (h : rE fns fa_internal_strconv_small σ.length [.code ac_internal_strconv_small] (frA 0 args) σ = some r) : ev fns i_internal_strconv_small args σ = some r := ev_go n_internal_strconv_small rfl hl h
@[simp] theorem nt_internal_strconv_formatBase10 : fa_internal_strconv_formatBase10.nt = 167 := rfl
@[simp] theorem rs_internal_strconv_formatBase10 : fa_internal_strconv_formatBase10.rs = [] := rfl
@[simp] theorem fz_internal_strconv_formatBase10 : fa_internal_strconv_formatBase10.fz = true := rfl
@[simp] theorem rsh_internal_strconv_formatBase10 : fa_internal_strconv_formatBase10.rsh = .any := rfl
theorem go_internal_strconv_formatBase10 {args : List PV} {σ : List AObj} {r : PV × List AObj} (hl : args.length ≤ 167) (h : rE fns fa_internal_strconv_formatBase10 σ.length [.code ac_internal_strconv_formatBase10] (frA 0 args) σ = some r) : ev fns i_internal_strconv_formatBase10 args σ = some r := ev_go n_internal_strconv_formatBase10 rfl hl h
theorem l_internal_strconv_formatBase10_0 {ks : List KI} {l : Fr} {σ : List AObj} {n0 : Nat} : rE fns fa_internal_strconv_formatBase10 n0 (.code lo_internal_strconv_formatBase10_0 :: ks) l σ = rE fns fa_internal_strconv_formatBase10 n0 (.code lb_internal_strconv_formatBase10_0 :: .code lo_internal_strconv_formatBase10_0 :: ks) l σ := rE_loop
@[simp] theorem nt_internal_strconv_FormatInt : fa_internal_strconv_FormatInt.nt = 54 := rfl
@[simp] theorem rs_internal_strconv_FormatInt : fa_internal_strconv_FormatInt.rs = [.tmp 4] := rfl
@[simp] theorem fz_internal_strconv_FormatInt : fa_internal_strconv_FormatInt.fz = true := rfl
@[simp] theorem rsh_internal_strconv_FormatInt : fa_internal_strconv_FormatInt.rsh = .any := rfl
theorem go_internal_strconv_FormatInt {args : List PV} {σ : List AObj} {r : PV × List AObj} (hl : args.length ≤ 54) (h : rE fns fa_internal_strconv_FormatInt σ.length [.code ac_internal_strconv_FormatInt] (frA 0 args) σ = some r) : ev fns i_internal_strconv_FormatInt args σ = some r := ev_go n_internal_strconv_FormatInt rfl hl h
@[simp] theorem nt_strconv_FormatInt : fa_strconv_FormatInt.nt = 8 := rfl
@[simp] theorem rs_strconv_FormatInt : fa_strconv_FormatInt.rs = [.tmp 4] := rfl
@[simp] theorem fz_strconv_FormatInt : fa_strconv_FormatInt.fz = true := rfl
@[simp] theorem rsh_strconv_FormatInt : fa_strconv_FormatInt.rsh = .any := rfl
theorem go_strconv_FormatInt {args : List PV} {σ : List AObj} {r : PV × List AObj} (hl : args.length ≤ 8) (h : rE fns fa_strconv_FormatInt σ.length [.code ac_strconv_FormatInt] (frA 0 args) σ = some r) : ev fns i_strconv_FormatInt args σ = some r := ev_go n_strconv_FormatInt rfl hl h
@[simp] theorem nt_impl_decimal : fa_impl_decimal.nt = 5 := rfl
@[simp] theorem rs_impl_decimal : fa_impl_decimal.rs = [.tmp 2] := rfl
@[simp] theorem fz_impl_decimal : fa_impl_decimal.fz = true := rfl
@[simp] theorem rsh_impl_decimal : fa_impl_decimal.rsh = .any := rfl
theorem go_impl_decimal {args : List PV} {σ : List AObj} {r : PV × List AObj} (hl : args.length ≤ 5) (h : rE fns fa_impl_decimal σ.length [.code ac_impl_decimal] (frA 0 args) σ = some r) : ev fns i_impl_decimal args σ = some r := ev_go n_impl_decimal rfl hl h
@[simp] theorem nt_impl_TreeEditText : fa_impl_TreeEditText.nt = 42 := rfl
@[simp] theorem rs_impl_TreeEditText : fa_impl_TreeEditText.rs = [.tmp 2] := rfl
@[simp] theorem fz_impl_TreeEditText : fa_impl_TreeEditText.fz = true := rfl
@[simp] theorem rsh_impl_TreeEditText : fa_impl_TreeEditText.rsh = .any := rfl
theorem go_impl_TreeEditText {args : List PV} {σ : List AObj} {r : PV × List AObj} (hl : args.length ≤ 42) (h : rE fns fa_impl_TreeEditText σ.length [.code ac_impl_TreeEditText] (frA 0 args) σ = some r) : ev fns i_impl_TreeEditText args σ = some r := ev_go n_impl_TreeEditText rfl hl h
@[simp] theorem nt_laws_FnExactTreeEditText : fa_laws_FnExactTreeEditText.nt = 20 := rfl
@[simp] theorem rs_laws_FnExactTreeEditText : fa_laws_FnExactTreeEditText.rs = [.tmp 2] := rfl
@[simp] theorem fz_laws_FnExactTreeEditText : fa_laws_FnExactTreeEditText.fz = true := rfl
@[simp] theorem rsh_laws_FnExactTreeEditText : fa_laws_FnExactTreeEditText.rsh = .any := rfl
theorem go_laws_FnExactTreeEditText {args : List PV} {σ : List AObj} {r : PV × List AObj} (hl : args.length ≤ 20) (h : rE fns fa_laws_FnExactTreeEditText σ.length [.code ac_laws_FnExactTreeEditText] (frA 0 args) σ = some r) : ev fns i_laws_FnExactTreeEditText args σ = some r := ev_go n_laws_FnExactTreeEditText rfl hl h
@[simp] theorem nt_laws_szLink : fa_laws_szLink.nt = 13 := rfl
@[simp] theorem rs_laws_szLink : fa_laws_szLink.rs = [.tmp 4] := rfl
@[simp] theorem fz_laws_szLink : fa_laws_szLink.fz = true := rfl
@[simp] theorem rsh_laws_szLink : fa_laws_szLink.rsh = .any := rfl
theorem go_laws_szLink {args : List PV} {σ : List AObj} {r : PV × List AObj} (hl : args.length ≤ 13) (h : rE fns fa_laws_szLink σ.length [.code ac_laws_szLink] (frA 0 args) σ = some r) : ev fns i_laws_szLink args σ = some r := ev_go n_laws_szLink rfl hl h
@[simp] theorem nt_laws_szLinkS : fa_laws_szLinkS.nt = 27 := rfl
@[simp] theorem rs_laws_szLinkS : fa_laws_szLinkS.rs = [.tmp 4] := rfl
@[simp] theorem fz_laws_szLinkS : fa_laws_szLinkS.fz = true := rfl
@[simp] theorem rsh_laws_szLinkS : fa_laws_szLinkS.rsh = .any := rfl
theorem go_laws_szLinkS {args : List PV} {σ : List AObj} {r : PV × List AObj} (hl : args.length ≤ 27) (h : rE fns fa_laws_szLinkS σ.length [.code ac_laws_szLinkS] (frA 0 args) σ = some r) : ev fns i_laws_szLinkS args σ = some r := ev_go n_laws_szLinkS rfl hl h
theorem l_laws_szLinkS_0 {ks : List KI} {l : Fr} {σ : List AObj} {n0 : Nat} : rE fns fa_laws_szLinkS n0 (.code lo_laws_szLinkS_0 :: ks) l σ = rE fns fa_laws_szLinkS n0 (.code lb_laws_szLinkS_0 :: .code lo_laws_szLinkS_0 :: ks) l σ := rE_loop
@[simp] theorem nt_laws_szModule : fa_laws_szModule.nt = 12 := rfl
@[simp] theorem rs_laws_szModule : fa_laws_szModule.rs = [.tmp 4] := rfl
@[simp] theorem fz_laws_szModule : fa_laws_szModule.fz = true := rfl
@[simp] theorem rsh_laws_szModule : fa_laws_szModule.rsh = .any := rfl
theorem go_laws_szModule {args : List PV} {σ : List AObj} {r : PV × List AObj} (hl : args.length ≤ 12) (h : rE fns fa_laws_szModule σ.length [.code ac_laws_szModule] (frA 0 args) σ = some r) : ev fns i_laws_szModule args σ = some r := ev_go n_laws_szModule rfl hl h
@[simp] theorem nt_laws_szModuleS : fa_laws_szModuleS.nt = 27 := rfl
@[simp] theorem rs_laws_szModuleS : fa_laws_szModuleS.rs = [.tmp 4] := rfl
@[simp] theorem fz_laws_szModuleS : fa_laws_szModuleS.fz = true := rfl
@[simp] theorem rsh_laws_szModuleS : fa_laws_szModuleS.rsh = .any := rfl
theorem go_laws_szModuleS {args : List PV} {σ : List AObj} {r : PV × List AObj} (hl : args.length ≤ 27) (h : rE fns fa_laws_szModuleS σ.length [.code ac_laws_szModuleS] (frA 0 args) σ = some r) : ev fns i_laws_szModuleS args σ = some r := ev_go n_laws_szModuleS rfl hl h
theorem l_laws_szModuleS_0 {ks : List KI} {l : Fr} {σ : List AObj} {n0 : Nat} : rE fns fa_laws_szModuleS n0 (.code lo_laws_szModuleS_0 :: ks) l σ = rE fns fa_laws_szModuleS n0 (.code lb_laws_szModuleS_0 :: .code lo_laws_szModuleS_0 :: ks) l σ := rE_loop
@[simp] theorem nt_laws_szProgram : fa_laws_szProgram.nt = 12 := rfl
@[simp] theorem rs_laws_szProgram : fa_laws_szProgram.rs = [.tmp 4] := rfl
@[simp] theorem fz_laws_szProgram : fa_laws_szProgram.fz = true := rfl
@[simp] theorem rsh_laws_szProgram : fa_laws_szProgram.rsh = .any := rfl
theorem go_laws_szProgram {args : List PV} {σ : List AObj} {r : PV × List AObj} (hl : args.length ≤ 12) (h : rE fns fa_laws_szProgram σ.length [.code ac_laws_szProgram] (frA 0 args) σ = some r) : ev fns i_laws_szProgram args σ = some r := ev_go n_laws_szProgram rfl hl h
@[simp] theorem nt_spec_l07Inner : fa_spec_l07Inner.nt = 9 := rfl
@[simp] theorem rs_spec_l07Inner : fa_spec_l07Inner.rs = [.tmp 2] := rfl
@[simp] theorem fz_spec_l07Inner : fa_spec_l07Inner.fz = true := rfl
@[simp] theorem rsh_spec_l07Inner : fa_spec_l07Inner.rsh = .any := rfl
theorem go_spec_l07Inner {args : List PV} {σ : List AObj} {r : PV × List AObj} (hl : args.length ≤ 9) (h : rE fns fa_spec_l07Inner σ.length [.code ac_spec_l07Inner] (frA 0 args) σ = some r) : ev fns i_spec_l07Inner args σ = some r := ev_go n_spec_l07Inner rfl hl h
@[simp] theorem nt_spec_l07Ok : fa_spec_l07Ok.nt = 121 := rfl
@[simp] theorem rs_spec_l07Ok : fa_spec_l07Ok.rs = [.tmp 2] := rfl
@[simp] theorem fz_spec_l07Ok : fa_spec_l07Ok.fz = true := rfl
@[simp] theorem rsh_spec_l07Ok : fa_spec_l07Ok.rsh = .any := rfl
theorem go_spec_l07Ok {args : List PV} {σ : List AObj} {r : PV × List AObj} (hl : args.length ≤ 121) (h : rE fns fa_spec_l07Ok σ.length [.code ac_spec_l07Ok] (frA 0 args) σ = some r) : ev fns i_spec_l07Ok args σ = some r := ev_go n_spec_l07Ok rfl hl h
theorem l_spec_l07Ok_0 {ks : List KI} {l : Fr} {σ : List AObj} {n0 : Nat} : rE fns fa_spec_l07Ok n0 (.code lo_spec_l07Ok_0 :: ks) l σ = rE fns fa_spec_l07Ok n0 (.code lb_spec_l07Ok_0 :: .code lo_spec_l07Ok_0 :: ks) l σ := rE_loop
theorem l_spec_l07Ok_1 {ks : List KI} {l : Fr} {σ : List AObj} {n0 : Nat} : rE fns fa_spec_l07Ok n0 (.code lo_spec_l07Ok_1 :: ks) l σ = rE fns fa_spec_l07Ok n0 (.code lb_spec_l07Ok_1 :: .code lo_spec_l07Ok_1 :: ks) l σ := rE_loop
@[simp] theorem nt_spec_l07Text : fa_spec_l07Text.nt = 79 := rfl
@[simp] theorem rs_spec_l07Text : fa_spec_l07Text.rs = [.tmp 2] := rfl
@[simp] theorem fz_spec_l07Text : fa_spec_l07Text.fz = true := rfl
@[simp] theorem rsh_spec_l07Text : fa_spec_l07Text.rsh = .any := rfl
theorem go_spec_l07Text {args : List PV} {σ : List AObj} {r : PV × List AObj} (hl : args.length ≤ 79) (h : rE fns fa_spec_l07Text σ.length [.code ac_spec_l07Text] (frA 0 args) σ = some r) : ev fns i_spec_l07Text args σ = some r := ev_go n_spec_l07Text rfl hl h
theorem l_spec_l07Text_0 {ks : List KI} {l : Fr} {σ : List AObj} {n0 : Nat} : rE fns fa_spec_l07Text n0 (.code lo_spec_l07Text_0 :: ks) l σ = rE fns fa_spec_l07Text n0 (.code lb_spec_l07Text_0 :: .code lo_spec_l07Text_0 :: ks) l σ := rE_loop
theorem l_spec_l07Text_1 {ks : List KI} {l : Fr} {σ : List AObj} {n0 : Nat} : rE fns fa_spec_l07Text n0 (.code lo_spec_l07Text_1 :: ks) l σ = rE fns fa_spec_l07Text n0 (.code lb_spec_l07Text_1 :: .code lo_spec_l07Text_1 :: ks) l σ := rE_loop
@[simp] theorem nt_spec_ProgramText : fa_spec_ProgramText.nt = 6 := rfl
@[simp] theorem rs_spec_ProgramText : fa_spec_ProgramText.rs = [.tmp 2] := rfl
@[simp] theorem fz_spec_ProgramText : fa_spec_ProgramText.fz = true := rfl
@[simp] theorem rsh_spec_ProgramText : fa_spec_ProgramText.rsh = .any := rfl
theorem go_spec_ProgramText {args : List PV} {σ : List AObj} {r : PV × List AObj} (hl : args.length ≤ 6) (h : rE fns fa_spec_ProgramText σ.length [.code ac_spec_ProgramText] (frA 0 args) σ = some r) : ev fns i_spec_ProgramText args σ = some r := ev_go n_spec_ProgramText rfl hl h
@[simp] theorem nt_laws_toLink : fa_laws_toLink.nt = 17 := rfl
@[simp] theorem rs_laws_toLink : fa_laws_toLink.rs = [.cell 2 4 true] := rfl
@[simp] theorem fz_laws_toLink : fa_laws_toLink.fz = true := rfl
@[simp] theorem rsh_laws_toLink : fa_laws_toLink.rsh = .any := rfl
theorem go_laws_toLink {args : List PV} {σ : List AObj} {r : PV × List AObj} (hl : args.length ≤ 17) (h : rE fns fa_laws_toLink σ.length [.code ac_laws_toLink] (frA 0 args) σ = some r) : ev fns i_laws_toLink args σ = some r := ev_go n_laws_toLink rfl hl h
@[simp] theorem nt_laws_toLinkS : fa_laws_toLinkS.nt = 23 := rfl
@[simp] theorem rs_laws_toLinkS : fa_laws_toLinkS.rs = [.tmp 2] := rfl
@[simp] theorem fz_laws_toLinkS : fa_laws_toLinkS.fz = true := rfl
@[simp] theorem rsh_laws_toLinkS : fa_laws_toLinkS.rsh = .any := rfl
theorem go_laws_toLinkS {args : List PV} {σ : List AObj} {r : PV × List AObj} (hl : args.length ≤ 23) (h : rE fns fa_laws_toLinkS σ.length [.code ac_laws_toLinkS] (frA 0 args) σ = some r) : ev fns i_laws_toLinkS args σ = some r := ev_go n_laws_toLinkS rfl hl h
theorem l_laws_toLinkS_0 {ks : List KI} {l : Fr} {σ : List AObj} {n0 : Nat} : rE fns fa_laws_toLinkS n0 (.code lo_laws_toLinkS_0 :: ks) l σ = rE fns fa_laws_toLinkS n0 (.code lb_laws_toLinkS_0 :: .code lo_laws_toLinkS_0 :: ks) l σ := rE_loop
@[simp] theorem nt_laws_toModule : fa_laws_toModule.nt = 12 := rfl
@[simp] theorem rs_laws_toModule : fa_laws_toModule.rs = [.cell 2 2 true] := rfl
@[simp] theorem fz_laws_toModule : fa_laws_toModule.fz = true := rfl
@[simp] theorem rsh_laws_toModule : fa_laws_toModule.rsh = .any := rfl
theorem go_laws_toModule {args : List PV} {σ : List AObj} {r : PV × List AObj} (hl : args.length ≤ 12) (h : rE fns fa_laws_toModule σ.length [.code ac_laws_toModule] (frA 0 args) σ = some r) : ev fns i_laws_toModule args σ = some r := ev_go n_laws_toModule rfl hl h
@[simp] theorem nt_laws_toModuleS : fa_laws_toModuleS.nt = 23 := rfl
@[simp] theorem rs_laws_toModuleS : fa_laws_toModuleS.rs = [.tmp 2] := rfl
@[simp] theorem fz_laws_toModuleS : fa_laws_toModuleS.fz = true := rfl
@[simp] theorem rsh_laws_toModuleS : fa_laws_toModuleS.rsh = .any := rfl
theorem go_laws_toModuleS {args : List PV} {σ : List AObj} {r : PV × List AObj} (hl : args.length ≤ 23) (h : rE fns fa_laws_toModuleS σ.length [.code ac_laws_toModuleS] (frA 0 args) σ = some r) : ev fns i_laws_toModuleS args σ = some r := ev_go n_laws_toModuleS rfl hl h
theorem l_laws_toModuleS_0 {ks : List KI} {l : Fr} {σ : List AObj} {n0 : Nat} : rE fns fa_laws_toModuleS n0 (.code lo_laws_toModuleS_0 :: ks) l σ = rE fns fa_laws_toModuleS n0 (.code lb_laws_toModuleS_0 :: .code lo_laws_toModuleS_0 :: ks) l σ := rE_loop
@[simp] theorem nt_laws_toProgram : fa_laws_toProgram.nt = 9 := rfl
@[simp] theorem rs_laws_toProgram : fa_laws_toProgram.rs = [.cell 2 1 true] := rfl
@[simp] theorem fz_laws_toProgram : fa_laws_toProgram.fz = true := rfl
@[simp] theorem rsh_laws_toProgram : fa_laws_toProgram.rsh = .any := rfl
theorem go_laws_toProgram {args : List PV} {σ : List AObj} {r : PV × List AObj} (hl : args.length ≤ 9) (h : rE fns fa_laws_toProgram σ.length [.code ac_laws_toProgram] (frA 0 args) σ = some r) : ev fns i_laws_toProgram args σ = some r := ev_go n_laws_toProgram rfl hl h
@[simp] theorem nt_impl_size_impl_Module : fa_impl_size_impl_Module.nt = 5 := rfl
@[simp] theorem rs_impl_size_impl_Module : fa_impl_size_impl_Module.rs = [.tmp 2] := rfl
@[simp] theorem fz_impl_size_impl_Module : fa_impl_size_impl_Module.fz = true := rfl
@[simp] theorem rsh_impl_size_impl_Module : fa_impl_size_impl_Module.rsh = .any := rfl
theorem go_impl_size_impl_Module {args : List PV} {σ : List AObj} {r : PV × List AObj} (hl : args.length ≤ 5) (h : rE fns fa_impl_size_impl_Module σ.length [.code ac_impl_size_impl_Module] (frA 0 args) σ = some r) : ev fns i_impl_size_impl_Module args σ = some r := ev_go n_impl_size_impl_Module rfl hl h
@[simp] theorem nt_slices_IndexFunc_L_impl_Module : fa_slices_IndexFunc_L_impl_Module.nt = 19 := rfl
@[simp] theorem rs_slices_IndexFunc_L_impl_Module : fa_slices_IndexFunc_L_impl_Module.rs = [.tmp 4] := rfl
@[simp] theorem fz_slices_IndexFunc_L_impl_Module : fa_slices_IndexFunc_L_impl_Module.fz = true := rfl
@[simp] theorem rsh_slices_IndexFunc_L_impl_Module : fa_slices_IndexFunc_L_impl_Module.rsh = .any := rfl
theorem go_slices_IndexFunc_L_impl_Module {args : List PV} {σ : List AObj} {r : PV × List AObj} (hl : args.length ≤ 19) (h : rE fns fa_slices_IndexFunc_L_impl_Module σ.length [.code ac_slices_IndexFunc_L_impl_Module] (frA 0 args) σ = some r) : ev fns i_slices_IndexFunc_L_impl_Module args σ = some r := ev_go n_slices_IndexFunc_L_impl_Module rfl hl h
theorem l_slices_IndexFunc_L_impl_Module_0 {ks : List KI} {l : Fr} {σ : List AObj} {n0 : Nat} : rE fns fa_slices_IndexFunc_L_impl_Module n0 (.code lo_slices_IndexFunc_L_impl_Module_0 :: ks) l σ = rE fns fa_slices_IndexFunc_L_impl_Module n0 (.code lb_slices_IndexFunc_L_impl_Module_0 :: .code lo_slices_IndexFunc_L_impl_Module_0 :: ks) l σ := rE_loop
@[simp] theorem nt_slices_ContainsFunc_L_impl_Module : fa_slices_ContainsFunc_L_impl_Module.nt = 9 := rfl
@[simp] theorem rs_slices_ContainsFunc_L_impl_Module : fa_slices_ContainsFunc_L_impl_Module.rs = [.tmp 4] := rfl
@[simp] theorem fz_slices_ContainsFunc_L_impl_Module : fa_slices_ContainsFunc_L_impl_Module.fz = true := rfl
@[simp] theorem rsh_slices_ContainsFunc_L_impl_Module : fa_slices_ContainsFunc_L_impl_Module.rsh = .any := rfl
theorem go_slices_ContainsFunc_L_impl_Module {args : List PV} {σ : List AObj} {r : PV × List AObj} (hl : args.length ≤ 9) (h : rE fns fa_slices_ContainsFunc_L_impl_Module σ.length [.code ac_slices_ContainsFunc_L_impl_Module] (frA 0 args) σ = some r) : ev fns i_slices_ContainsFunc_L_impl_Module args σ = some r := ev_go n_slices_ContainsFunc_L_impl_Module rfl hl h
@[simp] theorem nt_slices_IndexFunc_L_impl_Link : fa_slices_IndexFunc_L_impl_Link.nt = 19 := rfl
@[simp] theorem rs_slices_IndexFunc_L_impl_Link : fa_slices_IndexFunc_L_impl_Link.rs = [.tmp 4] := rfl
@[simp] theorem fz_slices_IndexFunc_L_impl_Link : fa_slices_IndexFunc_L_impl_Link.fz = true := rfl
@[simp] theorem rsh_slices_IndexFunc_L_impl_Link : fa_slices_IndexFunc_L_impl_Link.rsh = .any := rfl
theorem go_slices_IndexFunc_L_impl_Link {args : List PV} {σ : List AObj} {r : PV × List AObj} (hl : args.length ≤ 19) (h : rE fns fa_slices_IndexFunc_L_impl_Link σ.length [.code ac_slices_IndexFunc_L_impl_Link] (frA 0 args) σ = some r) : ev fns i_slices_IndexFunc_L_impl_Link args σ = some r := ev_go n_slices_IndexFunc_L_impl_Link rfl hl h
theorem l_slices_IndexFunc_L_impl_Link_0 {ks : List KI} {l : Fr} {σ : List AObj} {n0 : Nat} : rE fns fa_slices_IndexFunc_L_impl_Link n0 (.code lo_slices_IndexFunc_L_impl_Link_0 :: ks) l σ = rE fns fa_slices_IndexFunc_L_impl_Link n0 (.code lb_slices_IndexFunc_L_impl_Link_0 :: .code lo_slices_IndexFunc_L_impl_Link_0 :: ks) l σ := rE_loop
@[simp] theorem nt_slices_ContainsFunc_L_impl_Link : fa_slices_ContainsFunc_L_impl_Link.nt = 9 := rfl
@[simp] theorem rs_slices_ContainsFunc_L_impl_Link : fa_slices_ContainsFunc_L_impl_Link.rs = [.tmp 4] := rfl
@[simp] theorem fz_slices_ContainsFunc_L_impl_Link : fa_slices_ContainsFunc_L_impl_Link.fz = true := rfl
@[simp] theorem rsh_slices_ContainsFunc_L_impl_Link : fa_slices_ContainsFunc_L_impl_Link.rsh = .any := rfl
theorem go_slices_ContainsFunc_L_impl_Link {args : List PV} {σ : List AObj} {r : PV × List AObj} (hl : args.length ≤ 9) (h : rE fns fa_slices_ContainsFunc_L_impl_Link σ.length [.code ac_slices_ContainsFunc_L_impl_Link] (frA 0 args) σ = some r) : ev fns i_slices_ContainsFunc_L_impl_Link args σ = some r := ev_go n_slices_ContainsFunc_L_impl_Link rfl hl h
@[simp] theorem nt_impl_isLetter : fa_impl_isLetter.nt = 9 := rfl
@[simp] theorem rs_impl_isLetter : fa_impl_isLetter.rs = [.tmp 2] := rfl
@[simp] theorem fz_impl_isLetter : fa_impl_isLetter.fz = true := rfl
@[simp] theorem rsh_impl_isLetter : fa_impl_isLetter.rsh = .any := rfl
theorem go_impl_isLetter {args : List PV} {σ : List AObj} {r : PV × List AObj} (hl : args.length ≤ 9) (h : rE fns fa_impl_isLetter σ.length [.code ac_impl_isLetter] (frA 0 args) σ = some r) : ev fns i_impl_isLetter args σ = some r := ev_go n_impl_isLetter rfl hl h
@[simp] theorem nt_impl_ValidProgram_1_1 : fa_impl_ValidProgram_1_1.nt = 44 := rfl
@[simp] theorem rs_impl_ValidProgram_1_1 : fa_impl_ValidProgram_1_1.rs = [.tmp 4] := rfl
@[simp] theorem fz_impl_ValidProgram_1_1 : fa_impl_ValidProgram_1_1.fz = true := rfl
@[simp] theorem rsh_impl_ValidProgram_1_1 : fa_impl_ValidProgram_1_1.rsh = .any := rfl
theorem go_impl_ValidProgram_1_1 {args : List PV} {σ : List AObj} {r : PV × List AObj} (hl : args.length ≤ 44) (h : rE fns fa_impl_ValidProgram_1_1 σ.length [.code ac_impl_ValidProgram_1_1] (frA 0 args) σ = some r) : ev fns i_impl_ValidProgram_1_1 args σ = some r := ev_go n_impl_ValidProgram_1_1 rfl hl h
@[simp] theorem nt_impl_ValidProgram_1 : fa_impl_ValidProgram_1.nt = 20 := rfl
@[simp] theorem rs_impl_ValidProgram_1 : fa_impl_ValidProgram_1.rs = [.tmp 3] := rfl
@[simp] theorem fz_impl_ValidProgram_1 : fa_impl_ValidProgram_1.fz = true := rfl
@[simp] theorem rsh_impl_ValidProgram_1 : fa_impl_ValidProgram_1.rsh = .any := rfl
theorem go_impl_ValidProgram_1 {args : List PV} {σ : List AObj} {r : PV × List AObj} (hl : args.length ≤ 20) (h : rE fns fa_impl_ValidProgram_1 σ.length [.code ac_impl_ValidProgram_1] (frA 0 args) σ = some r) : ev fns i_impl_ValidProgram_1 args σ = some r := ev_go n_impl_ValidProgram_1 rfl hl h
@[simp] theorem nt_impl_ValidProgram : fa_impl_ValidProgram.nt = 16 := rfl
@[simp] theorem rs_impl_ValidProgram : fa_impl_ValidProgram.rs = [.tmp 2] := rfl
@[simp] theorem fz_impl_ValidProgram : fa_impl_ValidProgram.fz = true := rfl
@[simp] theorem rsh_impl_ValidProgram : fa_impl_ValidProgram.rsh = .any := rfl
theorem go_impl_ValidProgram {args : List PV} {σ : List AObj} {r : PV × List AObj} (hl : args.length ≤ 16) (h : rE fns fa_impl_ValidProgram σ.length [.code ac_impl_ValidProgram] (frA 0 args) σ = some r) : ev fns i_impl_ValidProgram args σ = some r := ev_go n_impl_ValidProgram rfl hl h
@[simp] theorem nt_P_strings_Builder_WriteString : fa_P_strings_Builder_WriteString.nt = 19 := rfl
@[simp] theorem rs_P_strings_Builder_WriteString : fa_P_strings_Builder_WriteString.rs = [.tmp 4, .tmp 5] := rfl
@[simp] theorem fz_P_strings_Builder_WriteString : fa_P_strings_Builder_WriteString.fz = true := rfl
@[simp] theorem rsh_P_strings_Builder_WriteString : fa_P_strings_Builder_WriteString.rsh = .any := rfl
theorem go_P_strings_Builder_WriteString {args : List PV} {σ : List AObj} {r : PV × List AObj} (hl : args.length ≤ 19) (h : rE fns fa_P_strings_Builder_WriteString σ.length [.code ac_P_strings_Builder_WriteString] (frA 0 args) σ = some r) : ev fns i_P_strings_Builder_WriteString args σ = some r := ev_go n_P_strings_Builder_WriteString rfl hl h
@[simp] theorem nt_impl_words : fa_impl_words.nt = 24 := rfl
@[simp] theorem rs_impl_words : fa_impl_words.rs = [.tmp 4] := rfl
@[simp] theorem fz_impl_words : fa_impl_words.fz = true := rfl
@[simp] theorem rsh_impl_words : fa_impl_words.rsh = .any := rfl
theorem go_impl_words {args : List PV} {σ : List AObj} {r : PV × List AObj} (hl : args.length ≤ 24) (h : rE fns fa_impl_words σ.length [.code ac_impl_words] (frA 0 args) σ = some r) : ev fns i_impl_words args σ = some r := ev_go n_impl_words rfl hl h
theorem l_impl_words_0 {ks : List KI} {l : Fr} {σ : List AObj} {n0 : Nat} : rE fns fa_impl_words n0 (.code lo_impl_words_0 :: ks) l σ = rE fns fa_impl_words n0 (.code lb_impl_words_0 :: .code lo_impl_words_0 :: ks) l σ := rE_loop
@[simp] theorem nt_impl_Link_isCallLink : fa_impl_Link_isCallLink.nt = 7 := rfl
@[simp] theorem rs_impl_Link_isCallLink : fa_impl_Link_isCallLink.rs = [.tmp 2] := rfl
@[simp] theorem fz_impl_Link_isCallLink : fa_impl_Link_isCallLink.fz = true := rfl
@[simp] theorem rsh_impl_Link_isCallLink : fa_impl_Link_isCallLink.rsh = .any := rfl
theorem go_impl_Link_isCallLink {args : List PV} {σ : List AObj} {r : PV × List AObj} (hl : args.length ≤ 7) (h : rE fns fa_impl_Link_isCallLink σ.length [.code ac_impl_Link_isCallLink] (frA 0 args) σ = some r) : ev fns i_impl_Link_isCallLink args σ = some r := ev_go n_impl_Link_isCallLink rfl hl h
@[simp] theorem nt_impl_ProgramText : fa_impl_ProgramText.nt = 59 := rfl
@[simp] theorem rs_impl_ProgramText : fa_impl_ProgramText.rs = [.tmp 2] := rfl
@[simp] theorem fz_impl_ProgramText : fa_impl_ProgramText.fz = true := rfl
@[simp] theorem rsh_impl_ProgramText : fa_impl_ProgramText.rsh = .any := rfl
theorem go_impl_ProgramText {args : List PV} {σ : List AObj} {r : PV × List AObj} (hl : args.length ≤ 59) (h : rE fns fa_impl_ProgramText σ.length [.code ac_impl_ProgramText] (frA 0 args) σ = some r) : ev fns i_impl_ProgramText args σ = some r := ev_go n_impl_ProgramText rfl hl h
theorem l_impl_ProgramText_0 {ks : List KI} {l : Fr} {σ : List AObj} {n0 : Nat} : rE fns fa_impl_ProgramText n0 (.code lo_impl_ProgramText_0 :: ks) l σ = rE fns fa_impl_ProgramText n0 (.code lb_impl_ProgramText_0 :: .code lo_impl_ProgramText_0 :: ks) l σ := rE_loop
theorem l_impl_ProgramText_1 {ks : List KI} {l : Fr} {σ : List AObj} {n0 : Nat} : rE fns fa_impl_ProgramText n0 (.code lo_impl_ProgramText_1 :: ks) l σ = rE fns fa_impl_ProgramText n0 (.code lb_impl_ProgramText_1 :: .code lo_impl_ProgramText_1 :: ks) l σ := rE_loop
@[simp] theorem nt_laws_eqLink : fa_laws_eqLink.nt = 25 := rfl
@[simp] theorem rs_laws_eqLink : fa_laws_eqLink.rs = [.tmp 4] := rfl
@[simp] theorem fz_laws_eqLink : fa_laws_eqLink.fz = true := rfl
@[simp] theorem rsh_laws_eqLink : fa_laws_eqLink.rsh = .any := rfl
theorem go_laws_eqLink {args : List PV} {σ : List AObj} {r : PV × List AObj} (hl : args.length ≤ 25) (h : rE fns fa_laws_eqLink σ.length [.code ac_laws_eqLink] (frA 0 args) σ = some r) : ev fns i_laws_eqLink args σ = some r := ev_go n_laws_eqLink rfl hl h
@[simp] theorem nt_laws_eqLinkS : fa_laws_eqLinkS.nt = 27 := rfl
@[simp] theorem rs_laws_eqLinkS : fa_laws_eqLinkS.rs = [.tmp 4] := rfl
@[simp] theorem fz_laws_eqLinkS : fa_laws_eqLinkS.fz = true := rfl
@[simp] theorem rsh_laws_eqLinkS : fa_laws_eqLinkS.rsh = .any := rfl
theorem go_laws_eqLinkS {args : List PV} {σ : List AObj} {r : PV × List AObj} (hl : args.length ≤ 27) (h : rE fns fa_laws_eqLinkS σ.length [.code ac_laws_eqLinkS] (frA 0 args) σ = some r) : ev fns i_laws_eqLinkS args σ = some r := ev_go n_laws_eqLinkS rfl hl h
theorem l_laws_eqLinkS_0 {ks : List KI} {l : Fr} {σ : List AObj} {n0 : Nat} : rE fns fa_laws_eqLinkS n0 (.code lo_laws_eqLinkS_0 :: ks) l σ = rE fns fa_laws_eqLinkS n0 (.code lb_laws_eqLinkS_0 :: .code lo_laws_eqLinkS_0 :: ks) l σ := rE_loop
@[simp] theorem nt_laws_eqModule : fa_laws_eqModule.nt = 16 := rfl
@[simp] theorem rs_laws_eqModule : fa_laws_eqModule.rs = [.tmp 4] := rfl
@[simp] theorem fz_laws_eqModule : fa_laws_eqModule.fz = true := rfl
@[simp] theorem rsh_laws_eqModule : fa_laws_eqModule.rsh = .any := rfl
theorem go_laws_eqModule {args : List PV} {σ : List AObj} {r : PV × List AObj} (hl : args.length ≤ 16) (h : rE fns fa_laws_eqModule σ.length [.code ac_laws_eqModule] (frA 0 args) σ = some r) : ev fns i_laws_eqModule args σ = some r := ev_go n_laws_eqModule rfl hl h
@[simp] theorem nt_laws_eqModuleS : fa_laws_eqModuleS.nt = 27 := rfl
@[simp] theorem rs_laws_eqModuleS : fa_laws_eqModuleS.rs = [.tmp 4] := rfl
@[simp] theorem fz_laws_eqModuleS : fa_laws_eqModuleS.fz = true := rfl
@[simp] theorem rsh_laws_eqModuleS : fa_laws_eqModuleS.rsh = .any := rfl
theorem go_laws_eqModuleS {args : List PV} {σ : List AObj} {r : PV × List AObj} (hl : args.length ≤ 27) (h : rE fns fa_laws_eqModuleS σ.length [.code ac_laws_eqModuleS] (frA 0 args) σ = some r) : ev fns i_laws_eqModuleS args σ = some r := ev_go n_laws_eqModuleS rfl hl h
theorem l_laws_eqModuleS_0 {ks : List KI} {l : Fr} {σ : List AObj} {n0 : Nat} : rE fns fa_laws_eqModuleS n0 (.code lo_laws_eqModuleS_0 :: ks) l σ = rE fns fa_laws_eqModuleS n0 (.code lb_laws_eqModuleS_0 :: .code lo_laws_eqModuleS_0 :: ks) l σ := rE_loop
@[simp] theorem nt_laws_eqProgram : fa_laws_eqProgram.nt = 11 := rfl
@[simp] theorem rs_laws_eqProgram : fa_laws_eqProgram.rs = [.tmp 4] := rfl
@[simp] theorem fz_laws_eqProgram : fa_laws_eqProgram.fz = true := rfl
@[simp] theorem rsh_laws_eqProgram : fa_laws_eqProgram.rsh = .any := rfl
theorem go_laws_eqProgram {args : List PV} {σ : List AObj} {r : PV × List AObj} (hl : args.length ≤ 11) (h : rE fns fa_laws_eqProgram σ.length [.code ac_laws_eqProgram] (frA 0 args) σ = some r) : ev fns i_laws_eqProgram args σ = some r := ev_go n_laws_eqProgram rfl hl h
@[simp] theorem nt_laws_FnExactProgramText : fa_laws_FnExactProgramText.nt = 27 := rfl
@[simp] theorem rs_laws_FnExactProgramText : fa_laws_FnExactProgramText.rs = [.tmp 2] := rfl
@[simp] theorem fz_laws_FnExactProgramText : fa_laws_FnExactProgramText.fz = true := rfl
@[simp] theorem rsh_laws_FnExactProgramText : fa_laws_FnExactProgramText.rsh = .any := rfl
theorem go_laws_FnExactProgramText {args : List PV} {σ : List AObj} {r : PV × List AObj} (hl : args.length ≤ 27) (h : rE fns fa_laws_FnExactProgramText σ.length [.code ac_laws_FnExactProgramText] (frA 0 args) σ = some r) : ev fns i_laws_FnExactProgramText args σ = some r := ev_go n_laws_FnExactProgramText rfl hl h
end Go.Proofs.YtipmgemnjcjobaaDoor
