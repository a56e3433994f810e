/- The table of all functions; printed by a program (gen2.py). -/
import Derived.Test.YtipmgemnjcjobaaGreatAw30
import Derived.Test.YtipmgemnjcjobaaGreatG0
import Derived.Test.YtipmgemnjcjobaaGreatG1
set_option linter.unusedVariables false
set_option maxRecDepth 100000
namespace Go.Proofs.YtipmgemnjcjobaaGreat
open Aw
def tbl : List (FnE Tryz.prog) := [⟨i_laws_szInt64S, fa_laws_szInt64S, cf_laws_szInt64S⟩,
  ⟨i_laws_szBoolS, fa_laws_szBoolS, cf_laws_szBoolS⟩,
  ⟨i_laws_szPushS, fa_laws_szPushS, cf_laws_szPushS⟩,
  ⟨i_laws_szPushSS, fa_laws_szPushSS, cf_laws_szPushSS⟩,
  ⟨i_laws_szPushSSS, fa_laws_szPushSSS, cf_laws_szPushSSS⟩,
  ⟨i_laws_szInt64SS, fa_laws_szInt64SS, cf_laws_szInt64SS⟩,
  ⟨i_laws_szInt64SSS, fa_laws_szInt64SSS, cf_laws_szInt64SSS⟩,
  ⟨i_laws_szInt64SSSS, fa_laws_szInt64SSSS, cf_laws_szInt64SSSS⟩,
  ⟨i_laws_szChoices, fa_laws_szChoices, cf_laws_szChoices⟩,
  ⟨i_spec_l00In, fa_spec_l00In, cf_spec_l00In⟩,
  ⟨i_spec_l00Rises, fa_spec_l00Rises, cf_spec_l00Rises⟩,
  ⟨i_spec_l03Pushes, fa_spec_l03Pushes, cf_spec_l03Pushes⟩,
  ⟨i_spec_l03Ok, fa_spec_l03Ok, cf_spec_l03Ok⟩,
  ⟨i_spec_l01Symbol, fa_spec_l01Symbol, cf_spec_l01Symbol⟩,
  ⟨i_spec_l01Ok, fa_spec_l01Ok, cf_spec_l01Ok⟩,
  ⟨i_spec_l03Given, fa_spec_l03Given, cf_spec_l03Given⟩,
  ⟨i_spec_l01Return, fa_spec_l01Return, cf_spec_l01Return⟩,
  ⟨i_spec_l01Call, fa_spec_l01Call, cf_spec_l01Call⟩,
  ⟨i_spec_l01Partners, fa_spec_l01Partners, cf_spec_l01Partners⟩,
  ⟨i_spec_l01Pending, fa_spec_l01Pending, cf_spec_l01Pending⟩,
  ⟨i_spec_l01Matched, fa_spec_l01Matched, cf_spec_l01Matched⟩,
  ⟨i_spec_l03Begin, fa_spec_l03Begin, cf_spec_l03Begin⟩,
  ⟨i_spec_l03Bits, fa_spec_l03Bits, cf_spec_l03Bits⟩,
  ⟨i_spec_l03List, fa_spec_l03List, cf_spec_l03List⟩,
  ⟨i_spec_l03Image, fa_spec_l03Image, cf_spec_l03Image⟩,
  ⟨i_spec_l03Moved, fa_spec_l03Moved, cf_spec_l03Moved⟩,
  ⟨i_spec_l03Back, fa_spec_l03Back, cf_spec_l03Back⟩,
  ⟨i_spec_l03Called, fa_spec_l03Called, cf_spec_l03Called⟩,
  ⟨i_spec_l03Bottom, fa_spec_l03Bottom, cf_spec_l03Bottom⟩,
  ⟨i_spec_l03Inner, fa_spec_l03Inner, cf_spec_l03Inner⟩,
  ⟨i_spec_l03Run, fa_spec_l03Run, cf_spec_l03Run⟩,
  ⟨i_spec_PairsOf, fa_spec_PairsOf, cf_spec_PairsOf⟩,
  ⟨i_laws_toInt64S, fa_laws_toInt64S, cf_laws_toInt64S⟩,
  ⟨i_laws_toBoolS, fa_laws_toBoolS, cf_laws_toBoolS⟩,
  ⟨i_laws_toPush, fa_laws_toPush, cf_laws_toPush⟩,
  ⟨i_laws_toPushS, fa_laws_toPushS, cf_laws_toPushS⟩,
  ⟨i_laws_toPushSS, fa_laws_toPushSS, cf_laws_toPushSS⟩,
  ⟨i_laws_toPushSSS, fa_laws_toPushSSS, cf_laws_toPushSSS⟩,
  ⟨i_laws_toInt64SS, fa_laws_toInt64SS, cf_laws_toInt64SS⟩,
  ⟨i_laws_toInt64SSS, fa_laws_toInt64SSS, cf_laws_toInt64SSS⟩,
  ⟨i_laws_toInt64SSSS, fa_laws_toInt64SSSS, cf_laws_toInt64SSSS⟩,
  ⟨i_laws_toChoices, fa_laws_toChoices, cf_laws_toChoices⟩,
  ⟨i_impl_within, fa_impl_within, cf_impl_within⟩,
  ⟨i_impl_size_bool, fa_impl_size_bool, cf_impl_size_bool⟩,
  ⟨i_impl_isRising, fa_impl_isRising, cf_impl_isRising⟩,
  ⟨i_impl_size_L_L_impl_Push, fa_impl_size_L_L_impl_Push, cf_impl_size_L_L_impl_Push⟩,
  ⟨i_impl_size_L_L_L_int64, fa_impl_size_L_L_L_int64, cf_impl_size_L_L_L_int64⟩,
  ⟨i_impl_size_L_L_int64, fa_impl_size_L_L_int64, cf_impl_size_L_L_int64⟩,
  ⟨i_cmp_Or_int, fa_cmp_Or_int, cf_cmp_Or_int⟩,
  ⟨i_cmp_isNaN_int64, fa_cmp_isNaN_int64, cf_cmp_isNaN_int64⟩,
  ⟨i_cmp_Compare_int64, fa_cmp_Compare_int64, cf_cmp_Compare_int64⟩,
  ⟨i_impl_comparePushes, fa_impl_comparePushes, cf_impl_comparePushes⟩,
  ⟨i_impl_size_L_int64, fa_impl_size_L_int64, cf_impl_size_L_int64⟩,
  ⟨i_slices_IndexFunc_L_L_int64, fa_slices_IndexFunc_L_L_int64, cf_slices_IndexFunc_L_L_int64⟩,
  ⟨i_slices_ContainsFunc_L_L_int64, fa_slices_ContainsFunc_L_L_int64, cf_slices_ContainsFunc_L_L_int64⟩,
  ⟨i_impl_ValidChoices_1, fa_impl_ValidChoices_1, cf_impl_ValidChoices_1⟩,
  ⟨i_impl_ValidChoices, fa_impl_ValidChoices, cf_impl_ValidChoices⟩,
  ⟨i_internal_stringslite_IndexByte, fa_internal_stringslite_IndexByte, cf_internal_stringslite_IndexByte⟩,
  ⟨i_strings_IndexByte, fa_strings_IndexByte, cf_strings_IndexByte⟩,
  ⟨i_impl_ValidWord, fa_impl_ValidWord, cf_impl_ValidWord⟩,
  ⟨i_impl_isCall, fa_impl_isCall, cf_impl_isCall⟩,
  ⟨i_impl_isReturn, fa_impl_isReturn, cf_impl_isReturn⟩,
  ⟨i_impl_size_int64, fa_impl_size_int64, cf_impl_size_int64⟩,
  ⟨i_impl_match, fa_impl_match, cf_impl_match⟩,
  ⟨i_impl_isMatched, fa_impl_isMatched, cf_impl_isMatched⟩,
  ⟨i_impl_Choices_same, fa_impl_Choices_same, cf_impl_Choices_same⟩,
  ⟨i_impl_bits, fa_impl_bits, cf_impl_bits⟩,
  ⟨i_impl_Choices_start, fa_impl_Choices_start, cf_impl_Choices_start⟩,
  ⟨i_impl_states, fa_impl_states, cf_impl_states⟩,
  ⟨i_impl_all, fa_impl_all, cf_impl_all⟩,
  ⟨i_impl_Choices_call_1, fa_impl_Choices_call_1, cf_impl_Choices_call_1⟩,
  ⟨i_impl_Choices_call, fa_impl_Choices_call, cf_impl_Choices_call⟩,
  ⟨i_impl_Choices_inner_1, fa_impl_Choices_inner_1, cf_impl_Choices_inner_1⟩,
  ⟨i_impl_Choices_inner, fa_impl_Choices_inner, cf_impl_Choices_inner⟩,
  ⟨i_impl_Choices_free_1, fa_impl_Choices_free_1, cf_impl_Choices_free_1⟩,
  ⟨i_impl_Choices_free, fa_impl_Choices_free, cf_impl_Choices_free⟩,
  ⟨i_impl_Choices_back_1_1, fa_impl_Choices_back_1_1, cf_impl_Choices_back_1_1⟩,
  ⟨i_impl_Choices_back_1, fa_impl_Choices_back_1, cf_impl_Choices_back_1⟩,
  ⟨i_impl_Choices_back, fa_impl_Choices_back, cf_impl_Choices_back⟩,
  ⟨i_impl_kindOf, fa_impl_kindOf, cf_impl_kindOf⟩,
  ⟨i_impl_isInner, fa_impl_isInner, cf_impl_isInner⟩,
  ⟨i_impl_Choices_known, fa_impl_Choices_known, cf_impl_Choices_known⟩,
  ⟨i_impl_PairsOf, fa_impl_PairsOf, cf_impl_PairsOf⟩,
  ⟨i_laws_eqInt64S, fa_laws_eqInt64S, cf_laws_eqInt64S⟩,
  ⟨i_laws_eqInt64SS, fa_laws_eqInt64SS, cf_laws_eqInt64SS⟩,
  ⟨i_laws_eqBoolS, fa_laws_eqBoolS, cf_laws_eqBoolS⟩,
  ⟨i_laws_eqPush, fa_laws_eqPush, cf_laws_eqPush⟩,
  ⟨i_laws_eqPushS, fa_laws_eqPushS, cf_laws_eqPushS⟩,
  ⟨i_laws_eqPushSS, fa_laws_eqPushSS, cf_laws_eqPushSS⟩,
  ⟨i_laws_eqPushSSS, fa_laws_eqPushSSS, cf_laws_eqPushSSS⟩,
  ⟨i_laws_eqInt64SSS, fa_laws_eqInt64SSS, cf_laws_eqInt64SSS⟩,
  ⟨i_laws_eqInt64SSSS, fa_laws_eqInt64SSSS, cf_laws_eqInt64SSSS⟩,
  ⟨i_laws_eqChoices, fa_laws_eqChoices, cf_laws_eqChoices⟩,
  ⟨i_laws_markInt64S, fa_laws_markInt64S, cf_laws_markInt64S⟩,
  ⟨i_laws_markBoolS, fa_laws_markBoolS, cf_laws_markBoolS⟩,
  ⟨i_laws_markPushS, fa_laws_markPushS, cf_laws_markPushS⟩,
  ⟨i_laws_markPushSS, fa_laws_markPushSS, cf_laws_markPushSS⟩,
  ⟨i_laws_markPushSSS, fa_laws_markPushSSS, cf_laws_markPushSSS⟩,
  ⟨i_laws_markInt64SS, fa_laws_markInt64SS, cf_laws_markInt64SS⟩,
  ⟨i_laws_markInt64SSS, fa_laws_markInt64SSS, cf_laws_markInt64SSS⟩,
  ⟨i_laws_markInt64SSSS, fa_laws_markInt64SSSS, cf_laws_markInt64SSSS⟩,
  ⟨i_laws_markChoices, fa_laws_markChoices, cf_laws_markChoices⟩,
  ⟨i_laws_heldInt64S, fa_laws_heldInt64S, cf_laws_heldInt64S⟩,
  ⟨i_laws_heldInt64SS, fa_laws_heldInt64SS, cf_laws_heldInt64SS⟩,
  ⟨i_laws_FnExactPairsOf, fa_laws_FnExactPairsOf, cf_laws_FnExactPairsOf⟩]
def fns : Fns := fnsOf tbl
theorem fnsOk : FnsOk Tryz.prog fns := fnsOf_ok tbl
theorem n_laws_szInt64S : fns i_laws_szInt64S = some fa_laws_szInt64S := rfl
@[simp] theorem c_laws_szInt64S (args : List PV) (σ : List AObj) : callM fns (ev fns) i_laws_szInt64S args σ = callN fns i_laws_szInt64S args σ := callM_np n_laws_szInt64S rfl rfl
theorem n_laws_szBoolS : fns i_laws_szBoolS = some fa_laws_szBoolS := rfl
@[simp] theorem c_laws_szBoolS (args : List PV) (σ : List AObj) : callM fns (ev fns) i_laws_szBoolS args σ = callN fns i_laws_szBoolS args σ := callM_np n_laws_szBoolS rfl rfl
theorem n_laws_szPushS : fns i_laws_szPushS = some fa_laws_szPushS := rfl
@[simp] theorem c_laws_szPushS (args : List PV) (σ : List AObj) : callM fns (ev fns) i_laws_szPushS args σ = callN fns i_laws_szPushS args σ := callM_np n_laws_szPushS rfl rfl
theorem n_laws_szPushSS : fns i_laws_szPushSS = some fa_laws_szPushSS := rfl
@[simp] theorem c_laws_szPushSS (args : List PV) (σ : List AObj) : callM fns (ev fns) i_laws_szPushSS args σ = callN fns i_laws_szPushSS args σ := callM_np n_laws_szPushSS rfl rfl
theorem n_laws_szPushSSS : fns i_laws_szPushSSS = some fa_laws_szPushSSS := rfl
@[simp] theorem c_laws_szPushSSS (args : List PV) (σ : List AObj) : callM fns (ev fns) i_laws_szPushSSS args σ = callN fns i_laws_szPushSSS args σ := callM_np n_laws_szPushSSS rfl rfl
theorem n_laws_szInt64SS : fns i_laws_szInt64SS = some fa_laws_szInt64SS := rfl
@[simp] theorem c_laws_szInt64SS (args : List PV) (σ : List AObj) : callM fns (ev fns) i_laws_szInt64SS args σ = callN fns i_laws_szInt64SS args σ := callM_np n_laws_szInt64SS rfl rfl
theorem n_laws_szInt64SSS : fns i_laws_szInt64SSS = some fa_laws_szInt64SSS := rfl
@[simp] theorem c_laws_szInt64SSS (args : List PV) (σ : List AObj) : callM fns (ev fns) i_laws_szInt64SSS args σ = callN fns i_laws_szInt64SSS args σ := callM_np n_laws_szInt64SSS rfl rfl
theorem n_laws_szInt64SSSS : fns i_laws_szInt64SSSS = some fa_laws_szInt64SSSS := rfl
@[simp] theorem c_laws_szInt64SSSS (args : List PV) (σ : List AObj) : callM fns (ev fns) i_laws_szInt64SSSS args σ = callN fns i_laws_szInt64SSSS args σ := callM_np n_laws_szInt64SSSS rfl rfl
theorem n_laws_szChoices : fns i_laws_szChoices = some fa_laws_szChoices := rfl
@[simp] theorem c_laws_szChoices (args : List PV) (σ : List AObj) : callM fns (ev fns) i_laws_szChoices args σ = callN fns i_laws_szChoices args σ := callM_np n_laws_szChoices rfl rfl
theorem n_spec_l00In : fns i_spec_l00In = some fa_spec_l00In := rfl
@[simp] theorem c_spec_l00In (args : List PV) (σ : List AObj) : callM fns (ev fns) i_spec_l00In args σ = callN fns i_spec_l00In args σ := callM_np n_spec_l00In rfl rfl
theorem n_spec_l00Rises : fns i_spec_l00Rises = some fa_spec_l00Rises := rfl
@[simp] theorem c_spec_l00Rises (args : List PV) (σ : List AObj) : callM fns (ev fns) i_spec_l00Rises args σ = callN fns i_spec_l00Rises args σ := callM_np n_spec_l00Rises rfl rfl
theorem n_spec_l03Pushes : fns i_spec_l03Pushes = some fa_spec_l03Pushes := rfl
@[simp] theorem c_spec_l03Pushes (args : List PV) (σ : List AObj) : callM fns (ev fns) i_spec_l03Pushes args σ = callN fns i_spec_l03Pushes args σ := callM_np n_spec_l03Pushes rfl rfl
theorem n_spec_l03Ok : fns i_spec_l03Ok = some fa_spec_l03Ok := rfl
@[simp] theorem c_spec_l03Ok (args : List PV) (σ : List AObj) : callM fns (ev fns) i_spec_l03Ok args σ = callN fns i_spec_l03Ok args σ := callM_np n_spec_l03Ok rfl rfl
theorem n_spec_l01Symbol : fns i_spec_l01Symbol = some fa_spec_l01Symbol := rfl
@[simp] theorem c_spec_l01Symbol (args : List PV) (σ : List AObj) : callM fns (ev fns) i_spec_l01Symbol args σ = callN fns i_spec_l01Symbol args σ := callM_np n_spec_l01Symbol rfl rfl
theorem n_spec_l01Ok : fns i_spec_l01Ok = some fa_spec_l01Ok := rfl
@[simp] theorem c_spec_l01Ok (args : List PV) (σ : List AObj) : callM fns (ev fns) i_spec_l01Ok args σ = callN fns i_spec_l01Ok args σ := callM_np n_spec_l01Ok rfl rfl
theorem n_spec_l03Given : fns i_spec_l03Given = some fa_spec_l03Given := rfl
@[simp] theorem c_spec_l03Given (args : List PV) (σ : List AObj) : callM fns (ev fns) i_spec_l03Given args σ = callN fns i_spec_l03Given args σ := callM_np n_spec_l03Given rfl rfl
theorem n_spec_l01Return : fns i_spec_l01Return = some fa_spec_l01Return := rfl
@[simp] theorem c_spec_l01Return (args : List PV) (σ : List AObj) : callM fns (ev fns) i_spec_l01Return args σ = callN fns i_spec_l01Return args σ := callM_np n_spec_l01Return rfl rfl
theorem n_spec_l01Call : fns i_spec_l01Call = some fa_spec_l01Call := rfl
@[simp] theorem c_spec_l01Call (args : List PV) (σ : List AObj) : callM fns (ev fns) i_spec_l01Call args σ = callN fns i_spec_l01Call args σ := callM_np n_spec_l01Call rfl rfl
theorem n_spec_l01Partners : fns i_spec_l01Partners = some fa_spec_l01Partners := rfl
@[simp] theorem c_spec_l01Partners (args : List PV) (σ : List AObj) : callM fns (ev fns) i_spec_l01Partners args σ = callN fns i_spec_l01Partners args σ := callM_np n_spec_l01Partners rfl rfl
theorem n_spec_l01Pending : fns i_spec_l01Pending = some fa_spec_l01Pending := rfl
@[simp] theorem c_spec_l01Pending (args : List PV) (σ : List AObj) : callM fns (ev fns) i_spec_l01Pending args σ = callN fns i_spec_l01Pending args σ := callM_np n_spec_l01Pending rfl rfl
theorem n_spec_l01Matched : fns i_spec_l01Matched = some fa_spec_l01Matched := rfl
@[simp] theorem c_spec_l01Matched (args : List PV) (σ : List AObj) : callM fns (ev fns) i_spec_l01Matched args σ = callN fns i_spec_l01Matched args σ := callM_np n_spec_l01Matched rfl rfl
theorem n_spec_l03Begin : fns i_spec_l03Begin = some fa_spec_l03Begin := rfl
@[simp] theorem c_spec_l03Begin (args : List PV) (σ : List AObj) : callM fns (ev fns) i_spec_l03Begin args σ = callN fns i_spec_l03Begin args σ := callM_np n_spec_l03Begin rfl rfl
theorem n_spec_l03Bits : fns i_spec_l03Bits = some fa_spec_l03Bits := rfl
@[simp] theorem c_spec_l03Bits (args : List PV) (σ : List AObj) : callM fns (ev fns) i_spec_l03Bits args σ = callN fns i_spec_l03Bits args σ := callM_np n_spec_l03Bits rfl rfl
theorem n_spec_l03List : fns i_spec_l03List = some fa_spec_l03List := rfl
@[simp] theorem c_spec_l03List (args : List PV) (σ : List AObj) : callM fns (ev fns) i_spec_l03List args σ = callN fns i_spec_l03List args σ := callM_np n_spec_l03List rfl rfl
theorem n_spec_l03Image : fns i_spec_l03Image = some fa_spec_l03Image := rfl
@[simp] theorem c_spec_l03Image (args : List PV) (σ : List AObj) : callM fns (ev fns) i_spec_l03Image args σ = callT fns [.any, (.lst 1 .any)] i_spec_l03Image args σ := callM_ty n_spec_l03Image rfl
theorem n_spec_l03Moved : fns i_spec_l03Moved = some fa_spec_l03Moved := rfl
@[simp] theorem c_spec_l03Moved (args : List PV) (σ : List AObj) : callM fns (ev fns) i_spec_l03Moved args σ = callT fns [.any, (.lst 1 .any)] i_spec_l03Moved args σ := callM_ty n_spec_l03Moved rfl
theorem n_spec_l03Back : fns i_spec_l03Back = some fa_spec_l03Back := rfl
@[simp] theorem c_spec_l03Back (args : List PV) (σ : List AObj) : callM fns (ev fns) i_spec_l03Back args σ = callN fns i_spec_l03Back args σ := callM_np n_spec_l03Back rfl rfl
theorem n_spec_l03Called : fns i_spec_l03Called = some fa_spec_l03Called := rfl
@[simp] theorem c_spec_l03Called (args : List PV) (σ : List AObj) : callM fns (ev fns) i_spec_l03Called args σ = callN fns i_spec_l03Called args σ := callM_np n_spec_l03Called rfl rfl
theorem n_spec_l03Bottom : fns i_spec_l03Bottom = some fa_spec_l03Bottom := rfl
@[simp] theorem c_spec_l03Bottom (args : List PV) (σ : List AObj) : callM fns (ev fns) i_spec_l03Bottom args σ = callN fns i_spec_l03Bottom args σ := callM_np n_spec_l03Bottom rfl rfl
theorem n_spec_l03Inner : fns i_spec_l03Inner = some fa_spec_l03Inner := rfl
@[simp] theorem c_spec_l03Inner (args : List PV) (σ : List AObj) : callM fns (ev fns) i_spec_l03Inner args σ = callN fns i_spec_l03Inner args σ := callM_np n_spec_l03Inner rfl rfl
theorem n_spec_l03Run : fns i_spec_l03Run = some fa_spec_l03Run := rfl
@[simp] theorem c_spec_l03Run (args : List PV) (σ : List AObj) : callM fns (ev fns) i_spec_l03Run args σ = callN fns i_spec_l03Run args σ := callM_np n_spec_l03Run rfl rfl
theorem n_spec_PairsOf : fns i_spec_PairsOf = some fa_spec_PairsOf := rfl
@[simp] theorem c_spec_PairsOf (args : List PV) (σ : List AObj) : callM fns (ev fns) i_spec_PairsOf args σ = callT fns [(.agg [.any, (.lst 1 .any), (.lst 1 .any), (.lst 1 (.lst 1 (.lst 2 .any))), (.lst 1 (.lst 1 (.lst 1 (.lst 1 .any)))), (.lst 1 (.lst 1 (.lst 1 .any)))]), .any] i_spec_PairsOf args σ := callM_ty n_spec_PairsOf rfl
theorem n_laws_toInt64S : fns i_laws_toInt64S = some fa_laws_toInt64S := rfl
@[simp] theorem c_laws_toInt64S (args : List PV) (σ : List AObj) : callM fns (ev fns) i_laws_toInt64S args σ = callN fns i_laws_toInt64S args σ := callM_np n_laws_toInt64S rfl rfl
theorem n_laws_toBoolS : fns i_laws_toBoolS = some fa_laws_toBoolS := rfl
@[simp] theorem c_laws_toBoolS (args : List PV) (σ : List AObj) : callM fns (ev fns) i_laws_toBoolS args σ = callN fns i_laws_toBoolS args σ := callM_np n_laws_toBoolS rfl rfl
theorem n_laws_toPush : fns i_laws_toPush = some fa_laws_toPush := rfl
@[simp] theorem c_laws_toPush (args : List PV) (σ : List AObj) : callM fns (ev fns) i_laws_toPush args σ = callN fns i_laws_toPush args σ := callM_np n_laws_toPush rfl rfl
theorem n_laws_toPushS : fns i_laws_toPushS = some fa_laws_toPushS := rfl
@[simp] theorem c_laws_toPushS (args : List PV) (σ : List AObj) : callM fns (ev fns) i_laws_toPushS args σ = callN fns i_laws_toPushS args σ := callM_np n_laws_toPushS rfl rfl
theorem n_laws_toPushSS : fns i_laws_toPushSS = some fa_laws_toPushSS := rfl
@[simp] theorem c_laws_toPushSS (args : List PV) (σ : List AObj) : callM fns (ev fns) i_laws_toPushSS args σ = callN fns i_laws_toPushSS args σ := callM_np n_laws_toPushSS rfl rfl
theorem n_laws_toPushSSS : fns i_laws_toPushSSS = some fa_laws_toPushSSS := rfl
@[simp] theorem c_laws_toPushSSS (args : List PV) (σ : List AObj) : callM fns (ev fns) i_laws_toPushSSS args σ = callN fns i_laws_toPushSSS args σ := callM_np n_laws_toPushSSS rfl rfl
theorem n_laws_toInt64SS : fns i_laws_toInt64SS = some fa_laws_toInt64SS := rfl
@[simp] theorem c_laws_toInt64SS (args : List PV) (σ : List AObj) : callM fns (ev fns) i_laws_toInt64SS args σ = callN fns i_laws_toInt64SS args σ := callM_np n_laws_toInt64SS rfl rfl
theorem n_laws_toInt64SSS : fns i_laws_toInt64SSS = some fa_laws_toInt64SSS := rfl
@[simp] theorem c_laws_toInt64SSS (args : List PV) (σ : List AObj) : callM fns (ev fns) i_laws_toInt64SSS args σ = callN fns i_laws_toInt64SSS args σ := callM_np n_laws_toInt64SSS rfl rfl
theorem n_laws_toInt64SSSS : fns i_laws_toInt64SSSS = some fa_laws_toInt64SSSS := rfl
@[simp] theorem c_laws_toInt64SSSS (args : List PV) (σ : List AObj) : callM fns (ev fns) i_laws_toInt64SSSS args σ = callN fns i_laws_toInt64SSSS args σ := callM_np n_laws_toInt64SSSS rfl rfl
theorem n_laws_toChoices : fns i_laws_toChoices = some fa_laws_toChoices := rfl
@[simp] theorem c_laws_toChoices (args : List PV) (σ : List AObj) : callM fns (ev fns) i_laws_toChoices args σ = callN fns i_laws_toChoices args σ := callM_np n_laws_toChoices rfl rfl
theorem n_impl_within : fns i_impl_within = some fa_impl_within := rfl
@[simp] theorem c_impl_within (args : List PV) (σ : List AObj) : callM fns (ev fns) i_impl_within args σ = callN fns i_impl_within args σ := callM_np n_impl_within rfl rfl
theorem n_impl_size_bool : fns i_impl_size_bool = some fa_impl_size_bool := rfl
@[simp] theorem c_impl_size_bool (args : List PV) (σ : List AObj) : callM fns (ev fns) i_impl_size_bool args σ = callN fns i_impl_size_bool args σ := callM_np n_impl_size_bool rfl rfl
theorem n_impl_isRising : fns i_impl_isRising = some fa_impl_isRising := rfl
@[simp] theorem c_impl_isRising (args : List PV) (σ : List AObj) : callM fns (ev fns) i_impl_isRising args σ = callN fns i_impl_isRising args σ := callM_np n_impl_isRising rfl rfl
theorem n_impl_size_L_L_impl_Push : fns i_impl_size_L_L_impl_Push = some fa_impl_size_L_L_impl_Push := rfl
@[simp] theorem c_impl_size_L_L_impl_Push (args : List PV) (σ : List AObj) : callM fns (ev fns) i_impl_size_L_L_impl_Push args σ = callN fns i_impl_size_L_L_impl_Push args σ := callM_np n_impl_size_L_L_impl_Push rfl rfl
theorem n_impl_size_L_L_L_int64 : fns i_impl_size_L_L_L_int64 = some fa_impl_size_L_L_L_int64 := rfl
@[simp] theorem c_impl_size_L_L_L_int64 (args : List PV) (σ : List AObj) : callM fns (ev fns) i_impl_size_L_L_L_int64 args σ = callN fns i_impl_size_L_L_L_int64 args σ := callM_np n_impl_size_L_L_L_int64 rfl rfl
theorem n_impl_size_L_L_int64 : fns i_impl_size_L_L_int64 = some fa_impl_size_L_L_int64 := rfl
@[simp] theorem c_impl_size_L_L_int64 (args : List PV) (σ : List AObj) : callM fns (ev fns) i_impl_size_L_L_int64 args σ = callN fns i_impl_size_L_L_int64 args σ := callM_np n_impl_size_L_L_int64 rfl rfl
theorem n_cmp_Or_int : fns i_cmp_Or_int = some fa_cmp_Or_int := rfl
@[simp] theorem c_cmp_Or_int (args : List PV) (σ : List AObj) : callM fns (ev fns) i_cmp_Or_int args σ = callN fns i_cmp_Or_int args σ := callM_np n_cmp_Or_int rfl rfl
theorem n_cmp_isNaN_int64 : fns i_cmp_isNaN_int64 = some fa_cmp_isNaN_int64 := rfl
@[simp] theorem c_cmp_isNaN_int64 (args : List PV) (σ : List AObj) : callM fns (ev fns) i_cmp_isNaN_int64 args σ = callN fns i_cmp_isNaN_int64 args σ := callM_np n_cmp_isNaN_int64 rfl rfl
theorem n_cmp_Compare_int64 : fns i_cmp_Compare_int64 = some fa_cmp_Compare_int64 := rfl
@[simp] theorem c_cmp_Compare_int64 (args : List PV) (σ : List AObj) : callM fns (ev fns) i_cmp_Compare_int64 args σ = callN fns i_cmp_Compare_int64 args σ := callM_np n_cmp_Compare_int64 rfl rfl
theorem n_impl_comparePushes : fns i_impl_comparePushes = some fa_impl_comparePushes := rfl
@[simp] theorem c_impl_comparePushes (args : List PV) (σ : List AObj) : callM fns (ev fns) i_impl_comparePushes args σ = callN fns i_impl_comparePushes args σ := callM_np n_impl_comparePushes rfl rfl
theorem n_impl_size_L_int64 : fns i_impl_size_L_int64 = some fa_impl_size_L_int64 := rfl
@[simp] theorem c_impl_size_L_int64 (args : List PV) (σ : List AObj) : callM fns (ev fns) i_impl_size_L_int64 args σ = callN fns i_impl_size_L_int64 args σ := callM_np n_impl_size_L_int64 rfl rfl
theorem n_slices_IndexFunc_L_L_int64 : fns i_slices_IndexFunc_L_L_int64 = some fa_slices_IndexFunc_L_L_int64 := rfl
@[simp] theorem c_slices_IndexFunc_L_L_int64 (args : List PV) (σ : List AObj) : callM fns (ev fns) i_slices_IndexFunc_L_L_int64 args σ = callN fns i_slices_IndexFunc_L_L_int64 args σ := callM_np n_slices_IndexFunc_L_L_int64 rfl rfl
theorem n_slices_ContainsFunc_L_L_int64 : fns i_slices_ContainsFunc_L_L_int64 = some fa_slices_ContainsFunc_L_L_int64 := rfl
@[simp] theorem c_slices_ContainsFunc_L_L_int64 (args : List PV) (σ : List AObj) : callM fns (ev fns) i_slices_ContainsFunc_L_L_int64 args σ = callN fns i_slices_ContainsFunc_L_L_int64 args σ := callM_np n_slices_ContainsFunc_L_L_int64 rfl rfl
theorem n_impl_ValidChoices_1 : fns i_impl_ValidChoices_1 = some fa_impl_ValidChoices_1 := rfl
@[simp] theorem c_impl_ValidChoices_1 (args : List PV) (σ : List AObj) : callM fns (ev fns) i_impl_ValidChoices_1 args σ = callN fns i_impl_ValidChoices_1 args σ := callM_np n_impl_ValidChoices_1 rfl rfl
theorem n_impl_ValidChoices : fns i_impl_ValidChoices = some fa_impl_ValidChoices := rfl
@[simp] theorem c_impl_ValidChoices (args : List PV) (σ : List AObj) : callM fns (ev fns) i_impl_ValidChoices args σ = callN fns i_impl_ValidChoices args σ := callM_np n_impl_ValidChoices rfl rfl
theorem n_internal_stringslite_IndexByte : fns i_internal_stringslite_IndexByte = some fa_internal_stringslite_IndexByte := rfl
@[simp] theorem c_internal_stringslite_IndexByte (args : List PV) (σ : List AObj) : callM fns (ev fns) i_internal_stringslite_IndexByte args σ = callN fns i_internal_stringslite_IndexByte args σ := callM_np n_internal_stringslite_IndexByte rfl rfl
theorem n_strings_IndexByte : fns i_strings_IndexByte = some fa_strings_IndexByte := rfl
@[simp] theorem c_strings_IndexByte (args : List PV) (σ : List AObj) : callM fns (ev fns) i_strings_IndexByte args σ = callN fns i_strings_IndexByte args σ := callM_np n_strings_IndexByte rfl rfl
theorem n_impl_ValidWord : fns i_impl_ValidWord = some fa_impl_ValidWord := rfl
@[simp] theorem c_impl_ValidWord (args : List PV) (σ : List AObj) : callM fns (ev fns) i_impl_ValidWord args σ = callN fns i_impl_ValidWord args σ := callM_np n_impl_ValidWord rfl rfl
theorem n_impl_isCall : fns i_impl_isCall = some fa_impl_isCall := rfl
@[simp] theorem c_impl_isCall (args : List PV) (σ : List AObj) : callM fns (ev fns) i_impl_isCall args σ = callN fns i_impl_isCall args σ := callM_np n_impl_isCall rfl rfl
theorem n_impl_isReturn : fns i_impl_isReturn = some fa_impl_isReturn := rfl
@[simp] theorem c_impl_isReturn (args : List PV) (σ : List AObj) : callM fns (ev fns) i_impl_isReturn args σ = callN fns i_impl_isReturn args σ := callM_np n_impl_isReturn rfl rfl
theorem n_impl_size_int64 : fns i_impl_size_int64 = some fa_impl_size_int64 := rfl
@[simp] theorem c_impl_size_int64 (args : List PV) (σ : List AObj) : callM fns (ev fns) i_impl_size_int64 args σ = callN fns i_impl_size_int64 args σ := callM_np n_impl_size_int64 rfl rfl
theorem n_impl_match : fns i_impl_match = some fa_impl_match := rfl
@[simp] theorem c_impl_match (args : List PV) (σ : List AObj) : callM fns (ev fns) i_impl_match args σ = callN fns i_impl_match args σ := callM_np n_impl_match rfl rfl
theorem n_impl_isMatched : fns i_impl_isMatched = some fa_impl_isMatched := rfl
@[simp] theorem c_impl_isMatched (args : List PV) (σ : List AObj) : callM fns (ev fns) i_impl_isMatched args σ = callN fns i_impl_isMatched args σ := callM_np n_impl_isMatched rfl rfl
theorem n_impl_Choices_same : fns i_impl_Choices_same = some fa_impl_Choices_same := rfl
@[simp] theorem c_impl_Choices_same (args : List PV) (σ : List AObj) : callM fns (ev fns) i_impl_Choices_same args σ = callN fns i_impl_Choices_same args σ := callM_np n_impl_Choices_same rfl rfl
theorem n_impl_bits : fns i_impl_bits = some fa_impl_bits := rfl
@[simp] theorem c_impl_bits (args : List PV) (σ : List AObj) : callM fns (ev fns) i_impl_bits args σ = callN fns i_impl_bits args σ := callM_np n_impl_bits rfl rfl
theorem n_impl_Choices_start : fns i_impl_Choices_start = some fa_impl_Choices_start := rfl
@[simp] theorem c_impl_Choices_start (args : List PV) (σ : List AObj) : callM fns (ev fns) i_impl_Choices_start args σ = callN fns i_impl_Choices_start args σ := callM_np n_impl_Choices_start rfl rfl
theorem n_impl_states : fns i_impl_states = some fa_impl_states := rfl
@[simp] theorem c_impl_states (args : List PV) (σ : List AObj) : callM fns (ev fns) i_impl_states args σ = callN fns i_impl_states args σ := callM_np n_impl_states rfl rfl
theorem n_impl_all : fns i_impl_all = some fa_impl_all := rfl
@[simp] theorem c_impl_all (args : List PV) (σ : List AObj) : callM fns (ev fns) i_impl_all args σ = callN fns i_impl_all args σ := callM_np n_impl_all rfl rfl
theorem n_impl_Choices_call_1 : fns i_impl_Choices_call_1 = some fa_impl_Choices_call_1 := rfl
@[simp] theorem c_impl_Choices_call_1 (args : List PV) (σ : List AObj) : callM fns (ev fns) i_impl_Choices_call_1 args σ = callN fns i_impl_Choices_call_1 args σ := callM_np n_impl_Choices_call_1 rfl rfl
theorem n_impl_Choices_call : fns i_impl_Choices_call = some fa_impl_Choices_call := rfl
@[simp] theorem c_impl_Choices_call (args : List PV) (σ : List AObj) : callM fns (ev fns) i_impl_Choices_call args σ = callN fns i_impl_Choices_call args σ := callM_np n_impl_Choices_call rfl rfl
theorem n_impl_Choices_inner_1 : fns i_impl_Choices_inner_1 = some fa_impl_Choices_inner_1 := rfl
@[simp] theorem c_impl_Choices_inner_1 (args : List PV) (σ : List AObj) : callM fns (ev fns) i_impl_Choices_inner_1 args σ = callN fns i_impl_Choices_inner_1 args σ := callM_np n_impl_Choices_inner_1 rfl rfl
theorem n_impl_Choices_inner : fns i_impl_Choices_inner = some fa_impl_Choices_inner := rfl
@[simp] theorem c_impl_Choices_inner (args : List PV) (σ : List AObj) : callM fns (ev fns) i_impl_Choices_inner args σ = callN fns i_impl_Choices_inner args σ := callM_np n_impl_Choices_inner rfl rfl
theorem n_impl_Choices_free_1 : fns i_impl_Choices_free_1 = some fa_impl_Choices_free_1 := rfl
@[simp] theorem c_impl_Choices_free_1 (args : List PV) (σ : List AObj) : callM fns (ev fns) i_impl_Choices_free_1 args σ = callN fns i_impl_Choices_free_1 args σ := callM_np n_impl_Choices_free_1 rfl rfl
theorem n_impl_Choices_free : fns i_impl_Choices_free = some fa_impl_Choices_free := rfl
@[simp] theorem c_impl_Choices_free (args : List PV) (σ : List AObj) : callM fns (ev fns) i_impl_Choices_free args σ = callN fns i_impl_Choices_free args σ := callM_np n_impl_Choices_free rfl rfl
theorem n_impl_Choices_back_1_1 : fns i_impl_Choices_back_1_1 = some fa_impl_Choices_back_1_1 := rfl
@[simp] theorem c_impl_Choices_back_1_1 (args : List PV) (σ : List AObj) : callM fns (ev fns) i_impl_Choices_back_1_1 args σ = callN fns i_impl_Choices_back_1_1 args σ := callM_np n_impl_Choices_back_1_1 rfl rfl
theorem n_impl_Choices_back_1 : fns i_impl_Choices_back_1 = some fa_impl_Choices_back_1 := rfl
@[simp] theorem c_impl_Choices_back_1 (args : List PV) (σ : List AObj) : callM fns (ev fns) i_impl_Choices_back_1 args σ = callN fns i_impl_Choices_back_1 args σ := callM_np n_impl_Choices_back_1 rfl rfl
theorem n_impl_Choices_back : fns i_impl_Choices_back = some fa_impl_Choices_back := rfl
@[simp] theorem c_impl_Choices_back (args : List PV) (σ : List AObj) : callM fns (ev fns) i_impl_Choices_back args σ = callN fns i_impl_Choices_back args σ := callM_np n_impl_Choices_back rfl rfl
theorem n_impl_kindOf : fns i_impl_kindOf = some fa_impl_kindOf := rfl
@[simp] theorem c_impl_kindOf (args : List PV) (σ : List AObj) : callM fns (ev fns) i_impl_kindOf args σ = callN fns i_impl_kindOf args σ := callM_np n_impl_kindOf rfl rfl
theorem n_impl_isInner : fns i_impl_isInner = some fa_impl_isInner := rfl
@[simp] theorem c_impl_isInner (args : List PV) (σ : List AObj) : callM fns (ev fns) i_impl_isInner args σ = callN fns i_impl_isInner args σ := callM_np n_impl_isInner rfl rfl
theorem n_impl_Choices_known : fns i_impl_Choices_known = some fa_impl_Choices_known := rfl
@[simp] theorem c_impl_Choices_known (args : List PV) (σ : List AObj) : callM fns (ev fns) i_impl_Choices_known args σ = callN fns i_impl_Choices_known args σ := callM_np n_impl_Choices_known rfl rfl
theorem n_impl_PairsOf : fns i_impl_PairsOf = some fa_impl_PairsOf := rfl
@[simp] theorem c_impl_PairsOf (args : List PV) (σ : List AObj) : callM fns (ev fns) i_impl_PairsOf args σ = callT fns [(.agg [.any, (.lst 1 .any), (.lst 1 .any), (.lst 1 (.lst 1 (.lst 2 .any))), (.lst 1 (.lst 1 (.lst 1 (.lst 1 .any)))), (.lst 1 (.lst 1 (.lst 1 .any)))]), .any] i_impl_PairsOf args σ := callM_ty n_impl_PairsOf rfl
theorem n_laws_eqInt64S : fns i_laws_eqInt64S = some fa_laws_eqInt64S := rfl
@[simp] theorem c_laws_eqInt64S (args : List PV) (σ : List AObj) : callM fns (ev fns) i_laws_eqInt64S args σ = callT fns [(.lst 1 .any), (.lst 1 .any)] i_laws_eqInt64S args σ := callM_ty n_laws_eqInt64S rfl
theorem n_laws_eqInt64SS : fns i_laws_eqInt64SS = some fa_laws_eqInt64SS := rfl
@[simp] theorem c_laws_eqInt64SS (args : List PV) (σ : List AObj) : callM fns (ev fns) i_laws_eqInt64SS args σ = callT fns [(.lst 1 (.lst 1 .any)), (.lst 1 (.lst 1 .any))] i_laws_eqInt64SS args σ := callM_ty n_laws_eqInt64SS rfl
theorem n_laws_eqBoolS : fns i_laws_eqBoolS = some fa_laws_eqBoolS := rfl
@[simp] theorem c_laws_eqBoolS (args : List PV) (σ : List AObj) : callM fns (ev fns) i_laws_eqBoolS args σ = callN fns i_laws_eqBoolS args σ := callM_np n_laws_eqBoolS rfl rfl
theorem n_laws_eqPush : fns i_laws_eqPush = some fa_laws_eqPush := rfl
@[simp] theorem c_laws_eqPush (args : List PV) (σ : List AObj) : callM fns (ev fns) i_laws_eqPush args σ = callN fns i_laws_eqPush args σ := callM_np n_laws_eqPush rfl rfl
theorem n_laws_eqPushS : fns i_laws_eqPushS = some fa_laws_eqPushS := rfl
@[simp] theorem c_laws_eqPushS (args : List PV) (σ : List AObj) : callM fns (ev fns) i_laws_eqPushS args σ = callN fns i_laws_eqPushS args σ := callM_np n_laws_eqPushS rfl rfl
theorem n_laws_eqPushSS : fns i_laws_eqPushSS = some fa_laws_eqPushSS := rfl
@[simp] theorem c_laws_eqPushSS (args : List PV) (σ : List AObj) : callM fns (ev fns) i_laws_eqPushSS args σ = callN fns i_laws_eqPushSS args σ := callM_np n_laws_eqPushSS rfl rfl
theorem n_laws_eqPushSSS : fns i_laws_eqPushSSS = some fa_laws_eqPushSSS := rfl
@[simp] theorem c_laws_eqPushSSS (args : List PV) (σ : List AObj) : callM fns (ev fns) i_laws_eqPushSSS args σ = callN fns i_laws_eqPushSSS args σ := callM_np n_laws_eqPushSSS rfl rfl
theorem n_laws_eqInt64SSS : fns i_laws_eqInt64SSS = some fa_laws_eqInt64SSS := rfl
@[simp] theorem c_laws_eqInt64SSS (args : List PV) (σ : List AObj) : callM fns (ev fns) i_laws_eqInt64SSS args σ = callN fns i_laws_eqInt64SSS args σ := callM_np n_laws_eqInt64SSS rfl rfl
theorem n_laws_eqInt64SSSS : fns i_laws_eqInt64SSSS = some fa_laws_eqInt64SSSS := rfl
@[simp] theorem c_laws_eqInt64SSSS (args : List PV) (σ : List AObj) : callM fns (ev fns) i_laws_eqInt64SSSS args σ = callN fns i_laws_eqInt64SSSS args σ := callM_np n_laws_eqInt64SSSS rfl rfl
theorem n_laws_eqChoices : fns i_laws_eqChoices = some fa_laws_eqChoices := rfl
@[simp] theorem c_laws_eqChoices (args : List PV) (σ : List AObj) : callM fns (ev fns) i_laws_eqChoices args σ = callT fns [(.agg [.any, (.lst 1 .any), (.lst 1 .any), (.lst 1 (.lst 1 (.lst 2 .any))), (.lst 1 (.lst 1 (.lst 1 (.lst 1 .any)))), (.lst 1 (.lst 1 (.lst 1 .any)))]), (.agg [.any, (.lst 1 .any), (.lst 1 .any), (.lst 1 (.lst 1 (.lst 2 .any))), (.lst 1 (.lst 1 (.lst 1 (.lst 1 .any)))), (.lst 1 (.lst 1 (.lst 1 .any)))])] i_laws_eqChoices args σ := callM_ty n_laws_eqChoices rfl
theorem n_laws_markInt64S : fns i_laws_markInt64S = some fa_laws_markInt64S := rfl
@[simp] theorem c_laws_markInt64S (args : List PV) (σ : List AObj) : callM fns (ev fns) i_laws_markInt64S args σ = ev fns i_laws_markInt64S args σ := by simp [callM, n_laws_markInt64S, fa_laws_markInt64S]
theorem n_laws_markBoolS : fns i_laws_markBoolS = some fa_laws_markBoolS := rfl
@[simp] theorem c_laws_markBoolS (args : List PV) (σ : List AObj) : callM fns (ev fns) i_laws_markBoolS args σ = ev fns i_laws_markBoolS args σ := by simp [callM, n_laws_markBoolS, fa_laws_markBoolS]
theorem n_laws_markPushS : fns i_laws_markPushS = some fa_laws_markPushS := rfl
@[simp] theorem c_laws_markPushS (args : List PV) (σ : List AObj) : callM fns (ev fns) i_laws_markPushS args σ = ev fns i_laws_markPushS args σ := by simp [callM, n_laws_markPushS, fa_laws_markPushS]
theorem n_laws_markPushSS : fns i_laws_markPushSS = some fa_laws_markPushSS := rfl
@[simp] theorem c_laws_markPushSS (args : List PV) (σ : List AObj) : callM fns (ev fns) i_laws_markPushSS args σ = ev fns i_laws_markPushSS args σ := by simp [callM, n_laws_markPushSS, fa_laws_markPushSS]
theorem n_laws_markPushSSS : fns i_laws_markPushSSS = some fa_laws_markPushSSS := rfl
@[simp] theorem c_laws_markPushSSS (args : List PV) (σ : List AObj) : callM fns (ev fns) i_laws_markPushSSS args σ = ev fns i_laws_markPushSSS args σ := by simp [callM, n_laws_markPushSSS, fa_laws_markPushSSS]
theorem n_laws_markInt64SS : fns i_laws_markInt64SS = some fa_laws_markInt64SS := rfl
@[simp] theorem c_laws_markInt64SS (args : List PV) (σ : List AObj) : callM fns (ev fns) i_laws_markInt64SS args σ = ev fns i_laws_markInt64SS args σ := by simp [callM, n_laws_markInt64SS, fa_laws_markInt64SS]
theorem n_laws_markInt64SSS : fns i_laws_markInt64SSS = some fa_laws_markInt64SSS := rfl
@[simp] theorem c_laws_markInt64SSS (args : List PV) (σ : List AObj) : callM fns (ev fns) i_laws_markInt64SSS args σ = ev fns i_laws_markInt64SSS args σ := by simp [callM, n_laws_markInt64SSS, fa_laws_markInt64SSS]
theorem n_laws_markInt64SSSS : fns i_laws_markInt64SSSS = some fa_laws_markInt64SSSS := rfl
@[simp] theorem c_laws_markInt64SSSS (args : List PV) (σ : List AObj) : callM fns (ev fns) i_laws_markInt64SSSS args σ = ev fns i_laws_markInt64SSSS args σ := by simp [callM, n_laws_markInt64SSSS, fa_laws_markInt64SSSS]
theorem n_laws_markChoices : fns i_laws_markChoices = some fa_laws_markChoices := rfl
@[simp] theorem c_laws_markChoices (args : List PV) (σ : List AObj) : callM fns (ev fns) i_laws_markChoices args σ = ev fns i_laws_markChoices args σ := by simp [callM, n_laws_markChoices, fa_laws_markChoices]
theorem n_laws_heldInt64S : fns i_laws_heldInt64S = some fa_laws_heldInt64S := rfl
@[simp] theorem c_laws_heldInt64S (args : List PV) (σ : List AObj) : callM fns (ev fns) i_laws_heldInt64S args σ = callT fns [(.lst 1 .any), .any] i_laws_heldInt64S args σ := callM_ty n_laws_heldInt64S rfl
theorem n_laws_heldInt64SS : fns i_laws_heldInt64SS = some fa_laws_heldInt64SS := rfl
@[simp] theorem c_laws_heldInt64SS (args : List PV) (σ : List AObj) : callM fns (ev fns) i_laws_heldInt64SS args σ = callT fns [(.lst 1 (.lst 1 .any)), .any] i_laws_heldInt64SS args σ := callM_ty n_laws_heldInt64SS rfl
theorem n_laws_FnExactPairsOf : fns i_laws_FnExactPairsOf = some fa_laws_FnExactPairsOf := rfl
@[simp] theorem c_laws_FnExactPairsOf (args : List PV) (σ : List AObj) : callM fns (ev fns) i_laws_FnExactPairsOf args σ = callN fns i_laws_FnExactPairsOf args σ := callM_np n_laws_FnExactPairsOf rfl rfl
@[simp] theorem nt_laws_szInt64S : fa_laws_szInt64S.nt = 12 := rfl
@[simp] theorem rs_laws_szInt64S : fa_laws_szInt64S.rs = [.tmp 4] := rfl
@[simp] theorem fz_laws_szInt64S : fa_laws_szInt64S.fz = true := rfl
@[simp] theorem rsh_laws_szInt64S : fa_laws_szInt64S.rsh = .any := rfl
theorem go_laws_szInt64S {args : List PV} {σ : List AObj} {r : PV × List AObj} (hl : args.length ≤ 12) (h : rE fns fa_laws_szInt64S σ.length [.code ac_laws_szInt64S] (frA 0 args) σ = some r) : ev fns i_laws_szInt64S args σ = some r := ev_go n_laws_szInt64S rfl hl h
@[simp] theorem nt_laws_szBoolS : fa_laws_szBoolS.nt = 12 := rfl
@[simp] theorem rs_laws_szBoolS : fa_laws_szBoolS.rs = [.tmp 4] := rfl
@[simp] theorem fz_laws_szBoolS : fa_laws_szBoolS.fz = true := rfl
@[simp] theorem rsh_laws_szBoolS : fa_laws_szBoolS.rsh = .any := rfl
theorem go_laws_szBoolS {args : List PV} {σ : List AObj} {r : PV × List AObj} (hl : args.length ≤ 12) (h : rE fns fa_laws_szBoolS σ.length [.code ac_laws_szBoolS] (frA 0 args) σ = some r) : ev fns i_laws_szBoolS args σ = some r := ev_go n_laws_szBoolS rfl hl h
@[simp] theorem nt_laws_szPushS : fa_laws_szPushS.nt = 12 := rfl
@[simp] theorem rs_laws_szPushS : fa_laws_szPushS.rs = [.tmp 4] := rfl
@[simp] theorem fz_laws_szPushS : fa_laws_szPushS.fz = true := rfl
@[simp] theorem rsh_laws_szPushS : fa_laws_szPushS.rsh = .any := rfl
theorem go_laws_szPushS {args : List PV} {σ : List AObj} {r : PV × List AObj} (hl : args.length ≤ 12) (h : rE fns fa_laws_szPushS σ.length [.code ac_laws_szPushS] (frA 0 args) σ = some r) : ev fns i_laws_szPushS args σ = some r := ev_go n_laws_szPushS rfl hl h
@[simp] theorem nt_laws_szPushSS : fa_laws_szPushSS.nt = 27 := rfl
@[simp] theorem rs_laws_szPushSS : fa_laws_szPushSS.rs = [.tmp 4] := rfl
@[simp] theorem fz_laws_szPushSS : fa_laws_szPushSS.fz = true := rfl
@[simp] theorem rsh_laws_szPushSS : fa_laws_szPushSS.rsh = .any := rfl
theorem go_laws_szPushSS {args : List PV} {σ : List AObj} {r : PV × List AObj} (hl : args.length ≤ 27) (h : rE fns fa_laws_szPushSS σ.length [.code ac_laws_szPushSS] (frA 0 args) σ = some r) : ev fns i_laws_szPushSS args σ = some r := ev_go n_laws_szPushSS rfl hl h
theorem l_laws_szPushSS_0 {ks : List KI} {l : Fr} {σ : List AObj} {n0 : Nat} : rE fns fa_laws_szPushSS n0 (.code lo_laws_szPushSS_0 :: ks) l σ = rE fns fa_laws_szPushSS n0 (.code lb_laws_szPushSS_0 :: .code lo_laws_szPushSS_0 :: ks) l σ := rE_loop
@[simp] theorem nt_laws_szPushSSS : fa_laws_szPushSSS.nt = 27 := rfl
@[simp] theorem rs_laws_szPushSSS : fa_laws_szPushSSS.rs = [.tmp 4] := rfl
@[simp] theorem fz_laws_szPushSSS : fa_laws_szPushSSS.fz = true := rfl
@[simp] theorem rsh_laws_szPushSSS : fa_laws_szPushSSS.rsh = .any := rfl
theorem go_laws_szPushSSS {args : List PV} {σ : List AObj} {r : PV × List AObj} (hl : args.length ≤ 27) (h : rE fns fa_laws_szPushSSS σ.length [.code ac_laws_szPushSSS] (frA 0 args) σ = some r) : ev fns i_laws_szPushSSS args σ = some r := ev_go n_laws_szPushSSS rfl hl h
theorem l_laws_szPushSSS_0 {ks : List KI} {l : Fr} {σ : List AObj} {n0 : Nat} : rE fns fa_laws_szPushSSS n0 (.code lo_laws_szPushSSS_0 :: ks) l σ = rE fns fa_laws_szPushSSS n0 (.code lb_laws_szPushSSS_0 :: .code lo_laws_szPushSSS_0 :: ks) l σ := rE_loop
@[simp] theorem nt_laws_szInt64SS : fa_laws_szInt64SS.nt = 27 := rfl
@[simp] theorem rs_laws_szInt64SS : fa_laws_szInt64SS.rs = [.tmp 4] := rfl
@[simp] theorem fz_laws_szInt64SS : fa_laws_szInt64SS.fz = true := rfl
@[simp] theorem rsh_laws_szInt64SS : fa_laws_szInt64SS.rsh = .any := rfl
theorem go_laws_szInt64SS {args : List PV} {σ : List AObj} {r : PV × List AObj} (hl : args.length ≤ 27) (h : rE fns fa_laws_szInt64SS σ.length [.code ac_laws_szInt64SS] (frA 0 args) σ = some r) : ev fns i_laws_szInt64SS args σ = some r := ev_go n_laws_szInt64SS rfl hl h
theorem l_laws_szInt64SS_0 {ks : List KI} {l : Fr} {σ : List AObj} {n0 : Nat} : rE fns fa_laws_szInt64SS n0 (.code lo_laws_szInt64SS_0 :: ks) l σ = rE fns fa_laws_szInt64SS n0 (.code lb_laws_szInt64SS_0 :: .code lo_laws_szInt64SS_0 :: ks) l σ := rE_loop
@[simp] theorem nt_laws_szInt64SSS : fa_laws_szInt64SSS.nt = 27 := rfl
@[simp] theorem rs_laws_szInt64SSS : fa_laws_szInt64SSS.rs = [.tmp 4] := rfl
@[simp] theorem fz_laws_szInt64SSS : fa_laws_szInt64SSS.fz = true := rfl
@[simp] theorem rsh_laws_szInt64SSS : fa_laws_szInt64SSS.rsh = .any := rfl
theorem go_laws_szInt64SSS {args : List PV} {σ : List AObj} {r : PV × List AObj} (hl : args.length ≤ 27) (h : rE fns fa_laws_szInt64SSS σ.length [.code ac_laws_szInt64SSS] (frA 0 args) σ = some r) : ev fns i_laws_szInt64SSS args σ = some r := ev_go n_laws_szInt64SSS rfl hl h
theorem l_laws_szInt64SSS_0 {ks : List KI} {l : Fr} {σ : List AObj} {n0 : Nat} : rE fns fa_laws_szInt64SSS n0 (.code lo_laws_szInt64SSS_0 :: ks) l σ = rE fns fa_laws_szInt64SSS n0 (.code lb_laws_szInt64SSS_0 :: .code lo_laws_szInt64SSS_0 :: ks) l σ := rE_loop
@[simp] theorem nt_laws_szInt64SSSS : fa_laws_szInt64SSSS.nt = 27 := rfl
@[simp] theorem rs_laws_szInt64SSSS : fa_laws_szInt64SSSS.rs = [.tmp 4] := rfl
@[simp] theorem fz_laws_szInt64SSSS : fa_laws_szInt64SSSS.fz = true := rfl
@[simp] theorem rsh_laws_szInt64SSSS : fa_laws_szInt64SSSS.rsh = .any := rfl
theorem go_laws_szInt64SSSS {args : List PV} {σ : List AObj} {r : PV × List AObj} (hl : args.length ≤ 27) (h : rE fns fa_laws_szInt64SSSS σ.length [.code ac_laws_szInt64SSSS] (frA 0 args) σ = some r) : ev fns i_laws_szInt64SSSS args σ = some r := ev_go n_laws_szInt64SSSS rfl hl h
theorem l_laws_szInt64SSSS_0 {ks : List KI} {l : Fr} {σ : List AObj} {n0 : Nat} : rE fns fa_laws_szInt64SSSS n0 (.code lo_laws_szInt64SSSS_0 :: ks) l σ = rE fns fa_laws_szInt64SSSS n0 (.code lb_laws_szInt64SSSS_0 :: .code lo_laws_szInt64SSSS_0 :: ks) l σ := rE_loop
@[simp] theorem nt_laws_szChoices : fa_laws_szChoices.nt = 36 := rfl
@[simp] theorem rs_laws_szChoices : fa_laws_szChoices.rs = [.tmp 4] := rfl
@[simp] theorem fz_laws_szChoices : fa_laws_szChoices.fz = true := rfl
@[simp] theorem rsh_laws_szChoices : fa_laws_szChoices.rsh = .any := rfl
theorem go_laws_szChoices {args : List PV} {σ : List AObj} {r : PV × List AObj} (hl : args.length ≤ 36) (h : rE fns fa_laws_szChoices σ.length [.code ac_laws_szChoices] (frA 0 args) σ = some r) : ev fns i_laws_szChoices args σ = some r := ev_go n_laws_szChoices rfl hl h
@[simp] theorem nt_spec_l00In : fa_spec_l00In.nt = 15 := rfl
@[simp] theorem rs_spec_l00In : fa_spec_l00In.rs = [.tmp 6] := rfl
@[simp] theorem fz_spec_l00In : fa_spec_l00In.fz = true := rfl
@[simp] theorem rsh_spec_l00In : fa_spec_l00In.rsh = .any := rfl
theorem go_spec_l00In {args : List PV} {σ : List AObj} {r : PV × List AObj} (hl : args.length ≤ 15) (h : rE fns fa_spec_l00In σ.length [.code ac_spec_l00In] (frA 0 args) σ = some r) : ev fns i_spec_l00In args σ = some r := ev_go n_spec_l00In rfl hl h
@[simp] theorem nt_spec_l00Rises : fa_spec_l00Rises.nt = 38 := rfl
@[simp] theorem rs_spec_l00Rises : fa_spec_l00Rises.rs = [.tmp 6] := rfl
@[simp] theorem fz_spec_l00Rises : fa_spec_l00Rises.fz = true := rfl
@[simp] theorem rsh_spec_l00Rises : fa_spec_l00Rises.rsh = .any := rfl
theorem go_spec_l00Rises {args : List PV} {σ : List AObj} {r : PV × List AObj} (hl : args.length ≤ 38) (h : rE fns fa_spec_l00Rises σ.length [.code ac_spec_l00Rises] (frA 0 args) σ = some r) : ev fns i_spec_l00Rises args σ = some r := ev_go n_spec_l00Rises rfl hl h
theorem l_spec_l00Rises_0 {ks : List KI} {l : Fr} {σ : List AObj} {n0 : Nat} : rE fns fa_spec_l00Rises n0 (.code lo_spec_l00Rises_0 :: ks) l σ = rE fns fa_spec_l00Rises n0 (.code lb_spec_l00Rises_0 :: .code lo_spec_l00Rises_0 :: ks) l σ := rE_loop
@[simp] theorem nt_spec_l03Pushes : fa_spec_l03Pushes.nt = 68 := rfl
@[simp] theorem rs_spec_l03Pushes : fa_spec_l03Pushes.rs = [.tmp 6] := rfl
@[simp] theorem fz_spec_l03Pushes : fa_spec_l03Pushes.fz = true := rfl
@[simp] theorem rsh_spec_l03Pushes : fa_spec_l03Pushes.rsh = .any := rfl
theorem go_spec_l03Pushes {args : List PV} {σ : List AObj} {r : PV × List AObj} (hl : args.length ≤ 68) (h : rE fns fa_spec_l03Pushes σ.length [.code ac_spec_l03Pushes] (frA 0 args) σ = some r) : ev fns i_spec_l03Pushes args σ = some r := ev_go n_spec_l03Pushes rfl hl h
theorem l_spec_l03Pushes_0 {ks : List KI} {l : Fr} {σ : List AObj} {n0 : Nat} : rE fns fa_spec_l03Pushes n0 (.code lo_spec_l03Pushes_0 :: ks) l σ = rE fns fa_spec_l03Pushes n0 (.code lb_spec_l03Pushes_0 :: .code lo_spec_l03Pushes_0 :: ks) l σ := rE_loop
@[simp] theorem nt_spec_l03Ok : fa_spec_l03Ok.nt = 184 := rfl
@[simp] theorem rs_spec_l03Ok : fa_spec_l03Ok.rs = [.tmp 2] := rfl
@[simp] theorem fz_spec_l03Ok : fa_spec_l03Ok.fz = true := rfl
@[simp] theorem rsh_spec_l03Ok : fa_spec_l03Ok.rsh = .any := rfl
theorem go_spec_l03Ok {args : List PV} {σ : List AObj} {r : PV × List AObj} (hl : args.length ≤ 184) (h : rE fns fa_spec_l03Ok σ.length [.code ac_spec_l03Ok] (frA 0 args) σ = some r) : ev fns i_spec_l03Ok args σ = some r := ev_go n_spec_l03Ok rfl hl h
theorem l_spec_l03Ok_0 {ks : List KI} {l : Fr} {σ : List AObj} {n0 : Nat} : rE fns fa_spec_l03Ok n0 (.code lo_spec_l03Ok_0 :: ks) l σ = rE fns fa_spec_l03Ok n0 (.code lb_spec_l03Ok_0 :: .code lo_spec_l03Ok_0 :: ks) l σ := rE_loop
theorem l_spec_l03Ok_1 {ks : List KI} {l : Fr} {σ : List AObj} {n0 : Nat} : rE fns fa_spec_l03Ok n0 (.code lo_spec_l03Ok_1 :: ks) l σ = rE fns fa_spec_l03Ok n0 (.code lb_spec_l03Ok_1 :: .code lo_spec_l03Ok_1 :: ks) l σ := rE_loop
theorem l_spec_l03Ok_2 {ks : List KI} {l : Fr} {σ : List AObj} {n0 : Nat} : rE fns fa_spec_l03Ok n0 (.code lo_spec_l03Ok_2 :: ks) l σ = rE fns fa_spec_l03Ok n0 (.code lb_spec_l03Ok_2 :: .code lo_spec_l03Ok_2 :: ks) l σ := rE_loop
@[simp] theorem nt_spec_l01Symbol : fa_spec_l01Symbol.nt = 13 := rfl
@[simp] theorem rs_spec_l01Symbol : fa_spec_l01Symbol.rs = [.tmp 2] := rfl
@[simp] theorem fz_spec_l01Symbol : fa_spec_l01Symbol.fz = true := rfl
@[simp] theorem rsh_spec_l01Symbol : fa_spec_l01Symbol.rsh = .any := rfl
theorem go_spec_l01Symbol {args : List PV} {σ : List AObj} {r : PV × List AObj} (hl : args.length ≤ 13) (h : rE fns fa_spec_l01Symbol σ.length [.code ac_spec_l01Symbol] (frA 0 args) σ = some r) : ev fns i_spec_l01Symbol args σ = some r := ev_go n_spec_l01Symbol rfl hl h
theorem l_spec_l01Symbol_0 {ks : List KI} {l : Fr} {σ : List AObj} {n0 : Nat} : rE fns fa_spec_l01Symbol n0 (.code lo_spec_l01Symbol_0 :: ks) l σ = rE fns fa_spec_l01Symbol n0 (.code lb_spec_l01Symbol_0 :: .code lo_spec_l01Symbol_0 :: ks) l σ := rE_loop
@[simp] theorem nt_spec_l01Ok : fa_spec_l01Ok.nt = 18 := rfl
@[simp] theorem rs_spec_l01Ok : fa_spec_l01Ok.rs = [.tmp 2] := rfl
@[simp] theorem fz_spec_l01Ok : fa_spec_l01Ok.fz = true := rfl
@[simp] theorem rsh_spec_l01Ok : fa_spec_l01Ok.rsh = .any := rfl
theorem go_spec_l01Ok {args : List PV} {σ : List AObj} {r : PV × List AObj} (hl : args.length ≤ 18) (h : rE fns fa_spec_l01Ok σ.length [.code ac_spec_l01Ok] (frA 0 args) σ = some r) : ev fns i_spec_l01Ok args σ = some r := ev_go n_spec_l01Ok rfl hl h
theorem l_spec_l01Ok_0 {ks : List KI} {l : Fr} {σ : List AObj} {n0 : Nat} : rE fns fa_spec_l01Ok n0 (.code lo_spec_l01Ok_0 :: ks) l σ = rE fns fa_spec_l01Ok n0 (.code lb_spec_l01Ok_0 :: .code lo_spec_l01Ok_0 :: ks) l σ := rE_loop
@[simp] theorem nt_spec_l03Given : fa_spec_l03Given.nt = 13 := rfl
@[simp] theorem rs_spec_l03Given : fa_spec_l03Given.rs = [.tmp 4] := rfl
@[simp] theorem fz_spec_l03Given : fa_spec_l03Given.fz = true := rfl
@[simp] theorem rsh_spec_l03Given : fa_spec_l03Given.rsh = .any := rfl
theorem go_spec_l03Given {args : List PV} {σ : List AObj} {r : PV × List AObj} (hl : args.length ≤ 13) (h : rE fns fa_spec_l03Given σ.length [.code ac_spec_l03Given] (frA 0 args) σ = some r) : ev fns i_spec_l03Given args σ = some r := ev_go n_spec_l03Given rfl hl h
@[simp] theorem nt_spec_l01Return : fa_spec_l01Return.nt = 9 := rfl
@[simp] theorem rs_spec_l01Return : fa_spec_l01Return.rs = [.tmp 2] := rfl
@[simp] theorem fz_spec_l01Return : fa_spec_l01Return.fz = true := rfl
@[simp] theorem rsh_spec_l01Return : fa_spec_l01Return.rsh = .any := rfl
theorem go_spec_l01Return {args : List PV} {σ : List AObj} {r : PV × List AObj} (hl : args.length ≤ 9) (h : rE fns fa_spec_l01Return σ.length [.code ac_spec_l01Return] (frA 0 args) σ = some r) : ev fns i_spec_l01Return args σ = some r := ev_go n_spec_l01Return rfl hl h
@[simp] theorem nt_spec_l01Call : fa_spec_l01Call.nt = 9 := rfl
@[simp] theorem rs_spec_l01Call : fa_spec_l01Call.rs = [.tmp 2] := rfl
@[simp] theorem fz_spec_l01Call : fa_spec_l01Call.fz = true := rfl
@[simp] theorem rsh_spec_l01Call : fa_spec_l01Call.rsh = .any := rfl
theorem go_spec_l01Call {args : List PV} {σ : List AObj} {r : PV × List AObj} (hl : args.length ≤ 9) (h : rE fns fa_spec_l01Call σ.length [.code ac_spec_l01Call] (frA 0 args) σ = some r) : ev fns i_spec_l01Call args σ = some r := ev_go n_spec_l01Call rfl hl h
@[simp] theorem nt_spec_l01Partners : fa_spec_l01Partners.nt = 68 := rfl
@[simp] theorem rs_spec_l01Partners : fa_spec_l01Partners.rs = [.tmp 2] := rfl
@[simp] theorem fz_spec_l01Partners : fa_spec_l01Partners.fz = true := rfl
@[simp] theorem rsh_spec_l01Partners : fa_spec_l01Partners.rsh = .any := rfl
theorem go_spec_l01Partners {args : List PV} {σ : List AObj} {r : PV × List AObj} (hl : args.length ≤ 68) (h : rE fns fa_spec_l01Partners σ.length [.code ac_spec_l01Partners] (frA 0 args) σ = some r) : ev fns i_spec_l01Partners args σ = some r := ev_go n_spec_l01Partners rfl hl h
theorem l_spec_l01Partners_0 {ks : List KI} {l : Fr} {σ : List AObj} {n0 : Nat} : rE fns fa_spec_l01Partners n0 (.code lo_spec_l01Partners_0 :: ks) l σ = rE fns fa_spec_l01Partners n0 (.code lb_spec_l01Partners_0 :: .code lo_spec_l01Partners_0 :: ks) l σ := rE_loop
@[simp] theorem nt_spec_l01Pending : fa_spec_l01Pending.nt = 44 := rfl
@[simp] theorem rs_spec_l01Pending : fa_spec_l01Pending.rs = [.tmp 2, .tmp 3] := rfl
@[simp] theorem fz_spec_l01Pending : fa_spec_l01Pending.fz = true := rfl
@[simp] theorem rsh_spec_l01Pending : fa_spec_l01Pending.rsh = .any := rfl
theorem go_spec_l01Pending {args : List PV} {σ : List AObj} {r : PV × List AObj} (hl : args.length ≤ 44) (h : rE fns fa_spec_l01Pending σ.length [.code ac_spec_l01Pending] (frA 0 args) σ = some r) : ev fns i_spec_l01Pending args σ = some r := ev_go n_spec_l01Pending rfl hl h
theorem l_spec_l01Pending_0 {ks : List KI} {l : Fr} {σ : List AObj} {n0 : Nat} : rE fns fa_spec_l01Pending n0 (.code lo_spec_l01Pending_0 :: ks) l σ = rE fns fa_spec_l01Pending n0 (.code lb_spec_l01Pending_0 :: .code lo_spec_l01Pending_0 :: ks) l σ := rE_loop
@[simp] theorem nt_spec_l01Matched : fa_spec_l01Matched.nt = 14 := rfl
@[simp] theorem rs_spec_l01Matched : fa_spec_l01Matched.rs = [.tmp 2] := rfl
@[simp] theorem fz_spec_l01Matched : fa_spec_l01Matched.fz = true := rfl
@[simp] theorem rsh_spec_l01Matched : fa_spec_l01Matched.rsh = .any := rfl
theorem go_spec_l01Matched {args : List PV} {σ : List AObj} {r : PV × List AObj} (hl : args.length ≤ 14) (h : rE fns fa_spec_l01Matched σ.length [.code ac_spec_l01Matched] (frA 0 args) σ = some r) : ev fns i_spec_l01Matched args σ = some r := ev_go n_spec_l01Matched rfl hl h
@[simp] theorem nt_spec_l03Begin : fa_spec_l03Begin.nt = 25 := rfl
@[simp] theorem rs_spec_l03Begin : fa_spec_l03Begin.rs = [.cell 4 6 true] := rfl
@[simp] theorem fz_spec_l03Begin : fa_spec_l03Begin.fz = true := rfl
@[simp] theorem rsh_spec_l03Begin : fa_spec_l03Begin.rsh = .any := rfl
theorem go_spec_l03Begin {args : List PV} {σ : List AObj} {r : PV × List AObj} (hl : args.length ≤ 25) (h : rE fns fa_spec_l03Begin σ.length [.code ac_spec_l03Begin] (frA 0 args) σ = some r) : ev fns i_spec_l03Begin args σ = some r := ev_go n_spec_l03Begin rfl hl h
theorem l_spec_l03Begin_0 {ks : List KI} {l : Fr} {σ : List AObj} {n0 : Nat} : rE fns fa_spec_l03Begin n0 (.code lo_spec_l03Begin_0 :: ks) l σ = rE fns fa_spec_l03Begin n0 (.code lb_spec_l03Begin_0 :: .code lo_spec_l03Begin_0 :: ks) l σ := rE_loop
@[simp] theorem nt_spec_l03Bits : fa_spec_l03Bits.nt = 20 := rfl
@[simp] theorem rs_spec_l03Bits : fa_spec_l03Bits.rs = [.tmp 2] := rfl
@[simp] theorem fz_spec_l03Bits : fa_spec_l03Bits.fz = true := rfl
@[simp] theorem rsh_spec_l03Bits : fa_spec_l03Bits.rsh = .any := rfl
theorem go_spec_l03Bits {args : List PV} {σ : List AObj} {r : PV × List AObj} (hl : args.length ≤ 20) (h : rE fns fa_spec_l03Bits σ.length [.code ac_spec_l03Bits] (frA 0 args) σ = some r) : ev fns i_spec_l03Bits args σ = some r := ev_go n_spec_l03Bits rfl hl h
theorem l_spec_l03Bits_0 {ks : List KI} {l : Fr} {σ : List AObj} {n0 : Nat} : rE fns fa_spec_l03Bits n0 (.code lo_spec_l03Bits_0 :: ks) l σ = rE fns fa_spec_l03Bits n0 (.code lb_spec_l03Bits_0 :: .code lo_spec_l03Bits_0 :: ks) l σ := rE_loop
@[simp] theorem nt_spec_l03List : fa_spec_l03List.nt = 24 := rfl
@[simp] theorem rs_spec_l03List : fa_spec_l03List.rs = [.tmp 2] := rfl
@[simp] theorem fz_spec_l03List : fa_spec_l03List.fz = true := rfl
@[simp] theorem rsh_spec_l03List : fa_spec_l03List.rsh = .any := rfl
theorem go_spec_l03List {args : List PV} {σ : List AObj} {r : PV × List AObj} (hl : args.length ≤ 24) (h : rE fns fa_spec_l03List σ.length [.code ac_spec_l03List] (frA 0 args) σ = some r) : ev fns i_spec_l03List args σ = some r := ev_go n_spec_l03List rfl hl h
theorem l_spec_l03List_0 {ks : List KI} {l : Fr} {σ : List AObj} {n0 : Nat} : rE fns fa_spec_l03List n0 (.code lo_spec_l03List_0 :: ks) l σ = rE fns fa_spec_l03List n0 (.code lb_spec_l03List_0 :: .code lo_spec_l03List_0 :: ks) l σ := rE_loop
@[simp] theorem nt_spec_l03Image : fa_spec_l03Image.nt = 26 := rfl
@[simp] theorem rs_spec_l03Image : fa_spec_l03Image.rs = [.tmp 4] := rfl
@[simp] theorem fz_spec_l03Image : fa_spec_l03Image.fz = true := rfl
@[simp] theorem rsh_spec_l03Image : fa_spec_l03Image.rsh = .any := rfl
theorem go_spec_l03Image {args : List PV} {σ : List AObj} {r : PV × List AObj} (hl : args.length ≤ 26) (h : rE fns fa_spec_l03Image σ.length [.code ac_spec_l03Image] (frA 0 args) σ = some r) : ev fns i_spec_l03Image args σ = some r := ev_go n_spec_l03Image rfl hl h
theorem l_spec_l03Image_0 {ks : List KI} {l : Fr} {σ : List AObj} {n0 : Nat} : rE fns fa_spec_l03Image n0 (.code lo_spec_l03Image_0 :: ks) l σ = rE fns fa_spec_l03Image n0 (.code lb_spec_l03Image_0 :: .code lo_spec_l03Image_0 :: ks) l σ := rE_loop
@[simp] theorem nt_spec_l03Moved : fa_spec_l03Moved.nt = 26 := rfl
@[simp] theorem rs_spec_l03Moved : fa_spec_l03Moved.rs = [.cell 4 6 true] := rfl
@[simp] theorem fz_spec_l03Moved : fa_spec_l03Moved.fz = true := rfl
@[simp] theorem rsh_spec_l03Moved : fa_spec_l03Moved.rsh = .any := rfl
theorem go_spec_l03Moved {args : List PV} {σ : List AObj} {r : PV × List AObj} (hl : args.length ≤ 26) (h : rE fns fa_spec_l03Moved σ.length [.code ac_spec_l03Moved] (frA 0 args) σ = some r) : ev fns i_spec_l03Moved args σ = some r := ev_go n_spec_l03Moved rfl hl h
theorem l_spec_l03Moved_0 {ks : List KI} {l : Fr} {σ : List AObj} {n0 : Nat} : rE fns fa_spec_l03Moved n0 (.code lo_spec_l03Moved_0 :: ks) l σ = rE fns fa_spec_l03Moved n0 (.code lb_spec_l03Moved_0 :: .code lo_spec_l03Moved_0 :: ks) l σ := rE_loop
@[simp] theorem nt_spec_l03Back : fa_spec_l03Back.nt = 95 := rfl
@[simp] theorem rs_spec_l03Back : fa_spec_l03Back.rs = [.cell 10 6 true] := rfl
@[simp] theorem fz_spec_l03Back : fa_spec_l03Back.fz = true := rfl
@[simp] theorem rsh_spec_l03Back : fa_spec_l03Back.rsh = .any := rfl
theorem go_spec_l03Back {args : List PV} {σ : List AObj} {r : PV × List AObj} (hl : args.length ≤ 95) (h : rE fns fa_spec_l03Back σ.length [.code ac_spec_l03Back] (frA 0 args) σ = some r) : ev fns i_spec_l03Back args σ = some r := ev_go n_spec_l03Back rfl hl h
theorem l_spec_l03Back_0 {ks : List KI} {l : Fr} {σ : List AObj} {n0 : Nat} : rE fns fa_spec_l03Back n0 (.code lo_spec_l03Back_0 :: ks) l σ = rE fns fa_spec_l03Back n0 (.code lb_spec_l03Back_0 :: .code lo_spec_l03Back_0 :: ks) l σ := rE_loop
theorem l_spec_l03Back_1 {ks : List KI} {l : Fr} {σ : List AObj} {n0 : Nat} : rE fns fa_spec_l03Back n0 (.code lo_spec_l03Back_1 :: ks) l σ = rE fns fa_spec_l03Back n0 (.code lb_spec_l03Back_1 :: .code lo_spec_l03Back_1 :: ks) l σ := rE_loop
theorem l_spec_l03Back_2 {ks : List KI} {l : Fr} {σ : List AObj} {n0 : Nat} : rE fns fa_spec_l03Back n0 (.code lo_spec_l03Back_2 :: ks) l σ = rE fns fa_spec_l03Back n0 (.code lb_spec_l03Back_2 :: .code lo_spec_l03Back_2 :: ks) l σ := rE_loop
@[simp] theorem nt_spec_l03Called : fa_spec_l03Called.nt = 64 := rfl
@[simp] theorem rs_spec_l03Called : fa_spec_l03Called.rs = [.cell 6 6 true] := rfl
@[simp] theorem fz_spec_l03Called : fa_spec_l03Called.fz = true := rfl
@[simp] theorem rsh_spec_l03Called : fa_spec_l03Called.rsh = .any := rfl
theorem go_spec_l03Called {args : List PV} {σ : List AObj} {r : PV × List AObj} (hl : args.length ≤ 64) (h : rE fns fa_spec_l03Called σ.length [.code ac_spec_l03Called] (frA 0 args) σ = some r) : ev fns i_spec_l03Called args σ = some r := ev_go n_spec_l03Called rfl hl h
theorem l_spec_l03Called_0 {ks : List KI} {l : Fr} {σ : List AObj} {n0 : Nat} : rE fns fa_spec_l03Called n0 (.code lo_spec_l03Called_0 :: ks) l σ = rE fns fa_spec_l03Called n0 (.code lb_spec_l03Called_0 :: .code lo_spec_l03Called_0 :: ks) l σ := rE_loop
theorem l_spec_l03Called_1 {ks : List KI} {l : Fr} {σ : List AObj} {n0 : Nat} : rE fns fa_spec_l03Called n0 (.code lo_spec_l03Called_1 :: ks) l σ = rE fns fa_spec_l03Called n0 (.code lb_spec_l03Called_1 :: .code lo_spec_l03Called_1 :: ks) l σ := rE_loop
@[simp] theorem nt_spec_l03Bottom : fa_spec_l03Bottom.nt = 45 := rfl
@[simp] theorem rs_spec_l03Bottom : fa_spec_l03Bottom.rs = [.cell 6 6 true] := rfl
@[simp] theorem fz_spec_l03Bottom : fa_spec_l03Bottom.fz = true := rfl
@[simp] theorem rsh_spec_l03Bottom : fa_spec_l03Bottom.rsh = .any := rfl
theorem go_spec_l03Bottom {args : List PV} {σ : List AObj} {r : PV × List AObj} (hl : args.length ≤ 45) (h : rE fns fa_spec_l03Bottom σ.length [.code ac_spec_l03Bottom] (frA 0 args) σ = some r) : ev fns i_spec_l03Bottom args σ = some r := ev_go n_spec_l03Bottom rfl hl h
theorem l_spec_l03Bottom_0 {ks : List KI} {l : Fr} {σ : List AObj} {n0 : Nat} : rE fns fa_spec_l03Bottom n0 (.code lo_spec_l03Bottom_0 :: ks) l σ = rE fns fa_spec_l03Bottom n0 (.code lb_spec_l03Bottom_0 :: .code lo_spec_l03Bottom_0 :: ks) l σ := rE_loop
@[simp] theorem nt_spec_l03Inner : fa_spec_l03Inner.nt = 36 := rfl
@[simp] theorem rs_spec_l03Inner : fa_spec_l03Inner.rs = [.cell 6 6 true] := rfl
@[simp] theorem fz_spec_l03Inner : fa_spec_l03Inner.fz = true := rfl
@[simp] theorem rsh_spec_l03Inner : fa_spec_l03Inner.rsh = .any := rfl
theorem go_spec_l03Inner {args : List PV} {σ : List AObj} {r : PV × List AObj} (hl : args.length ≤ 36) (h : rE fns fa_spec_l03Inner σ.length [.code ac_spec_l03Inner] (frA 0 args) σ = some r) : ev fns i_spec_l03Inner args σ = some r := ev_go n_spec_l03Inner rfl hl h
theorem l_spec_l03Inner_0 {ks : List KI} {l : Fr} {σ : List AObj} {n0 : Nat} : rE fns fa_spec_l03Inner n0 (.code lo_spec_l03Inner_0 :: ks) l σ = rE fns fa_spec_l03Inner n0 (.code lb_spec_l03Inner_0 :: .code lo_spec_l03Inner_0 :: ks) l σ := rE_loop
@[simp] theorem nt_spec_l03Run : fa_spec_l03Run.nt = 88 := rfl
@[simp] theorem rs_spec_l03Run : fa_spec_l03Run.rs = [.cell 4 6 true] := rfl
@[simp] theorem fz_spec_l03Run : fa_spec_l03Run.fz = true := rfl
@[simp] theorem rsh_spec_l03Run : fa_spec_l03Run.rsh = .any := rfl
theorem go_spec_l03Run {args : List PV} {σ : List AObj} {r : PV × List AObj} (hl : args.length ≤ 88) (h : rE fns fa_spec_l03Run σ.length [.code ac_spec_l03Run] (frA 0 args) σ = some r) : ev fns i_spec_l03Run args σ = some r := ev_go n_spec_l03Run rfl hl h
theorem l_spec_l03Run_0 {ks : List KI} {l : Fr} {σ : List AObj} {n0 : Nat} : rE fns fa_spec_l03Run n0 (.code lo_spec_l03Run_0 :: ks) l σ = rE fns fa_spec_l03Run n0 (.code lb_spec_l03Run_0 :: .code lo_spec_l03Run_0 :: ks) l σ := rE_loop
@[simp] theorem nt_spec_PairsOf : fa_spec_PairsOf.nt = 39 := rfl
@[simp] theorem rs_spec_PairsOf : fa_spec_PairsOf.rs = [.tmp 4, .tmp 5] := rfl
@[simp] theorem fz_spec_PairsOf : fa_spec_PairsOf.fz = true := rfl
@[simp] theorem rsh_spec_PairsOf : fa_spec_PairsOf.rsh = .any := rfl
theorem go_spec_PairsOf {args : List PV} {σ : List AObj} {r : PV × List AObj} (hl : args.length ≤ 39) (h : rE fns fa_spec_PairsOf σ.length [.code ac_spec_PairsOf] (frA 0 args) σ = some r) : ev fns i_spec_PairsOf args σ = some r := ev_go n_spec_PairsOf rfl hl h
theorem l_spec_PairsOf_0 {ks : List KI} {l : Fr} {σ : List AObj} {n0 : Nat} : rE fns fa_spec_PairsOf n0 (.code lo_spec_PairsOf_0 :: ks) l σ = rE fns fa_spec_PairsOf n0 (.code lb_spec_PairsOf_0 :: .code lo_spec_PairsOf_0 :: ks) l σ := rE_loop
@[simp] theorem nt_laws_toInt64S : fa_laws_toInt64S.nt = 22 := rfl
@[simp] theorem rs_laws_toInt64S : fa_laws_toInt64S.rs = [.tmp 2] := rfl
@[simp] theorem fz_laws_toInt64S : fa_laws_toInt64S.fz = false := rfl
@[simp] theorem rsh_laws_toInt64S : fa_laws_toInt64S.rsh = .any := rfl
theorem go_laws_toInt64S {args : List PV} {σ : List AObj} {r : PV × List AObj} (hl : args.length ≤ 22) (h : rE fns fa_laws_toInt64S σ.length [.code ac_laws_toInt64S] (frA 0 args) σ = some r) : ev fns i_laws_toInt64S args σ = some r := ev_go n_laws_toInt64S rfl hl h
theorem l_laws_toInt64S_0 {ks : List KI} {l : Fr} {σ : List AObj} {n0 : Nat} : rE fns fa_laws_toInt64S n0 (.code lo_laws_toInt64S_0 :: ks) l σ = rE fns fa_laws_toInt64S n0 (.code lb_laws_toInt64S_0 :: .code lo_laws_toInt64S_0 :: ks) l σ := rE_loop
@[simp] theorem nt_laws_toBoolS : fa_laws_toBoolS.nt = 22 := rfl
@[simp] theorem rs_laws_toBoolS : fa_laws_toBoolS.rs = [.tmp 2] := rfl
@[simp] theorem fz_laws_toBoolS : fa_laws_toBoolS.fz = false := rfl
@[simp] theorem rsh_laws_toBoolS : fa_laws_toBoolS.rsh = .any := rfl
theorem go_laws_toBoolS {args : List PV} {σ : List AObj} {r : PV × List AObj} (hl : args.length ≤ 22) (h : rE fns fa_laws_toBoolS σ.length [.code ac_laws_toBoolS] (frA 0 args) σ = some r) : ev fns i_laws_toBoolS args σ = some r := ev_go n_laws_toBoolS rfl hl h
theorem l_laws_toBoolS_0 {ks : List KI} {l : Fr} {σ : List AObj} {n0 : Nat} : rE fns fa_laws_toBoolS n0 (.code lo_laws_toBoolS_0 :: ks) l σ = rE fns fa_laws_toBoolS n0 (.code lb_laws_toBoolS_0 :: .code lo_laws_toBoolS_0 :: ks) l σ := rE_loop
@[simp] theorem nt_laws_toPush : fa_laws_toPush.nt = 11 := rfl
@[simp] theorem rs_laws_toPush : fa_laws_toPush.rs = [.cell 2 2 true] := rfl
@[simp] theorem fz_laws_toPush : fa_laws_toPush.fz = false := rfl
@[simp] theorem rsh_laws_toPush : fa_laws_toPush.rsh = .any := rfl
theorem go_laws_toPush {args : List PV} {σ : List AObj} {r : PV × List AObj} (hl : args.length ≤ 11) (h : rE fns fa_laws_toPush σ.length [.code ac_laws_toPush] (frA 0 args) σ = some r) : ev fns i_laws_toPush args σ = some r := ev_go n_laws_toPush rfl hl h
@[simp] theorem nt_laws_toPushS : fa_laws_toPushS.nt = 23 := rfl
@[simp] theorem rs_laws_toPushS : fa_laws_toPushS.rs = [.tmp 2] := rfl
@[simp] theorem fz_laws_toPushS : fa_laws_toPushS.fz = false := rfl
@[simp] theorem rsh_laws_toPushS : fa_laws_toPushS.rsh = .any := rfl
theorem go_laws_toPushS {args : List PV} {σ : List AObj} {r : PV × List AObj} (hl : args.length ≤ 23) (h : rE fns fa_laws_toPushS σ.length [.code ac_laws_toPushS] (frA 0 args) σ = some r) : ev fns i_laws_toPushS args σ = some r := ev_go n_laws_toPushS rfl hl h
theorem l_laws_toPushS_0 {ks : List KI} {l : Fr} {σ : List AObj} {n0 : Nat} : rE fns fa_laws_toPushS n0 (.code lo_laws_toPushS_0 :: ks) l σ = rE fns fa_laws_toPushS n0 (.code lb_laws_toPushS_0 :: .code lo_laws_toPushS_0 :: ks) l σ := rE_loop
@[simp] theorem nt_laws_toPushSS : fa_laws_toPushSS.nt = 23 := rfl
@[simp] theorem rs_laws_toPushSS : fa_laws_toPushSS.rs = [.tmp 2] := rfl
@[simp] theorem fz_laws_toPushSS : fa_laws_toPushSS.fz = false := rfl
@[simp] theorem rsh_laws_toPushSS : fa_laws_toPushSS.rsh = .any := rfl
theorem go_laws_toPushSS {args : List PV} {σ : List AObj} {r : PV × List AObj} (hl : args.length ≤ 23) (h : rE fns fa_laws_toPushSS σ.length [.code ac_laws_toPushSS] (frA 0 args) σ = some r) : ev fns i_laws_toPushSS args σ = some r := ev_go n_laws_toPushSS rfl hl h
theorem l_laws_toPushSS_0 {ks : List KI} {l : Fr} {σ : List AObj} {n0 : Nat} : rE fns fa_laws_toPushSS n0 (.code lo_laws_toPushSS_0 :: ks) l σ = rE fns fa_laws_toPushSS n0 (.code lb_laws_toPushSS_0 :: .code lo_laws_toPushSS_0 :: ks) l σ := rE_loop
@[simp] theorem nt_laws_toPushSSS : fa_laws_toPushSSS.nt = 23 := rfl
@[simp] theorem rs_laws_toPushSSS : fa_laws_toPushSSS.rs = [.tmp 2] := rfl
@[simp] theorem fz_laws_toPushSSS : fa_laws_toPushSSS.fz = false := rfl
@[simp] theorem rsh_laws_toPushSSS : fa_laws_toPushSSS.rsh = .any := rfl
theorem go_laws_toPushSSS {args : List PV} {σ : List AObj} {r : PV × List AObj} (hl : args.length ≤ 23) (h : rE fns fa_laws_toPushSSS σ.length [.code ac_laws_toPushSSS] (frA 0 args) σ = some r) : ev fns i_laws_toPushSSS args σ = some r := ev_go n_laws_toPushSSS rfl hl h
theorem l_laws_toPushSSS_0 {ks : List KI} {l : Fr} {σ : List AObj} {n0 : Nat} : rE fns fa_laws_toPushSSS n0 (.code lo_laws_toPushSSS_0 :: ks) l σ = rE fns fa_laws_toPushSSS n0 (.code lb_laws_toPushSSS_0 :: .code lo_laws_toPushSSS_0 :: ks) l σ := rE_loop
@[simp] theorem nt_laws_toInt64SS : fa_laws_toInt64SS.nt = 23 := rfl
@[simp] theorem rs_laws_toInt64SS : fa_laws_toInt64SS.rs = [.tmp 2] := rfl
@[simp] theorem fz_laws_toInt64SS : fa_laws_toInt64SS.fz = false := rfl
@[simp] theorem rsh_laws_toInt64SS : fa_laws_toInt64SS.rsh = .any := rfl
theorem go_laws_toInt64SS {args : List PV} {σ : List AObj} {r : PV × List AObj} (hl : args.length ≤ 23) (h : rE fns fa_laws_toInt64SS σ.length [.code ac_laws_toInt64SS] (frA 0 args) σ = some r) : ev fns i_laws_toInt64SS args σ = some r := ev_go n_laws_toInt64SS rfl hl h
theorem l_laws_toInt64SS_0 {ks : List KI} {l : Fr} {σ : List AObj} {n0 : Nat} : rE fns fa_laws_toInt64SS n0 (.code lo_laws_toInt64SS_0 :: ks) l σ = rE fns fa_laws_toInt64SS n0 (.code lb_laws_toInt64SS_0 :: .code lo_laws_toInt64SS_0 :: ks) l σ := rE_loop
@[simp] theorem nt_laws_toInt64SSS : fa_laws_toInt64SSS.nt = 23 := rfl
@[simp] theorem rs_laws_toInt64SSS : fa_laws_toInt64SSS.rs = [.tmp 2] := rfl
@[simp] theorem fz_laws_toInt64SSS : fa_laws_toInt64SSS.fz = false := rfl
@[simp] theorem rsh_laws_toInt64SSS : fa_laws_toInt64SSS.rsh = .any := rfl
theorem go_laws_toInt64SSS {args : List PV} {σ : List AObj} {r : PV × List AObj} (hl : args.length ≤ 23) (h : rE fns fa_laws_toInt64SSS σ.length [.code ac_laws_toInt64SSS] (frA 0 args) σ = some r) : ev fns i_laws_toInt64SSS args σ = some r := ev_go n_laws_toInt64SSS rfl hl h
theorem l_laws_toInt64SSS_0 {ks : List KI} {l : Fr} {σ : List AObj} {n0 : Nat} : rE fns fa_laws_toInt64SSS n0 (.code lo_laws_toInt64SSS_0 :: ks) l σ = rE fns fa_laws_toInt64SSS n0 (.code lb_laws_toInt64SSS_0 :: .code lo_laws_toInt64SSS_0 :: ks) l σ := rE_loop
@[simp] theorem nt_laws_toInt64SSSS : fa_laws_toInt64SSSS.nt = 23 := rfl
@[simp] theorem rs_laws_toInt64SSSS : fa_laws_toInt64SSSS.rs = [.tmp 2] := rfl
@[simp] theorem fz_laws_toInt64SSSS : fa_laws_toInt64SSSS.fz = false := rfl
@[simp] theorem rsh_laws_toInt64SSSS : fa_laws_toInt64SSSS.rsh = .any := rfl
theorem go_laws_toInt64SSSS {args : List PV} {σ : List AObj} {r : PV × List AObj} (hl : args.length ≤ 23) (h : rE fns fa_laws_toInt64SSSS σ.length [.code ac_laws_toInt64SSSS] (frA 0 args) σ = some r) : ev fns i_laws_toInt64SSSS args σ = some r := ev_go n_laws_toInt64SSSS rfl hl h
theorem l_laws_toInt64SSSS_0 {ks : List KI} {l : Fr} {σ : List AObj} {n0 : Nat} : rE fns fa_laws_toInt64SSSS n0 (.code lo_laws_toInt64SSSS_0 :: ks) l σ = rE fns fa_laws_toInt64SSSS n0 (.code lb_laws_toInt64SSSS_0 :: .code lo_laws_toInt64SSSS_0 :: ks) l σ := rE_loop
@[simp] theorem nt_laws_toChoices : fa_laws_toChoices.nt = 28 := rfl
@[simp] theorem rs_laws_toChoices : fa_laws_toChoices.rs = [.cell 2 6 true] := rfl
@[simp] theorem fz_laws_toChoices : fa_laws_toChoices.fz = false := rfl
@[simp] theorem rsh_laws_toChoices : fa_laws_toChoices.rsh = .any := rfl
theorem go_laws_toChoices {args : List PV} {σ : List AObj} {r : PV × List AObj} (hl : args.length ≤ 28) (h : rE fns fa_laws_toChoices σ.length [.code ac_laws_toChoices] (frA 0 args) σ = some r) : ev fns i_laws_toChoices args σ = some r := ev_go n_laws_toChoices rfl hl h
@[simp] theorem nt_impl_within : fa_impl_within.nt = 15 := rfl
@[simp] theorem rs_impl_within : fa_impl_within.rs = [.tmp 6] := rfl
@[simp] theorem fz_impl_within : fa_impl_within.fz = true := rfl
@[simp] theorem rsh_impl_within : fa_impl_within.rsh = .any := rfl
theorem go_impl_within {args : List PV} {σ : List AObj} {r : PV × List AObj} (hl : args.length ≤ 15) (h : rE fns fa_impl_within σ.length [.code ac_impl_within] (frA 0 args) σ = some r) : ev fns i_impl_within args σ = some r := ev_go n_impl_within rfl hl h
@[simp] theorem nt_impl_size_bool : fa_impl_size_bool.nt = 5 := rfl
@[simp] theorem rs_impl_size_bool : fa_impl_size_bool.rs = [.tmp 2] := rfl
@[simp] theorem fz_impl_size_bool : fa_impl_size_bool.fz = true := rfl
@[simp] theorem rsh_impl_size_bool : fa_impl_size_bool.rsh = .any := rfl
theorem go_impl_size_bool {args : List PV} {σ : List AObj} {r : PV × List AObj} (hl : args.length ≤ 5) (h : rE fns fa_impl_size_bool σ.length [.code ac_impl_size_bool] (frA 0 args) σ = some r) : ev fns i_impl_size_bool args σ = some r := ev_go n_impl_size_bool rfl hl h
@[simp] theorem nt_impl_isRising : fa_impl_isRising.nt = 33 := rfl
@[simp] theorem rs_impl_isRising : fa_impl_isRising.rs = [.tmp 4] := rfl
@[simp] theorem fz_impl_isRising : fa_impl_isRising.fz = true := rfl
@[simp] theorem rsh_impl_isRising : fa_impl_isRising.rsh = .any := rfl
theorem go_impl_isRising {args : List PV} {σ : List AObj} {r : PV × List AObj} (hl : args.length ≤ 33) (h : rE fns fa_impl_isRising σ.length [.code ac_impl_isRising] (frA 0 args) σ = some r) : ev fns i_impl_isRising args σ = some r := ev_go n_impl_isRising rfl hl h
theorem l_impl_isRising_0 {ks : List KI} {l : Fr} {σ : List AObj} {n0 : Nat} : rE fns fa_impl_isRising n0 (.code lo_impl_isRising_0 :: ks) l σ = rE fns fa_impl_isRising n0 (.code lb_impl_isRising_0 :: .code lo_impl_isRising_0 :: ks) l σ := rE_loop
@[simp] theorem nt_impl_size_L_L_impl_Push : fa_impl_size_L_L_impl_Push.nt = 5 := rfl
@[simp] theorem rs_impl_size_L_L_impl_Push : fa_impl_size_L_L_impl_Push.rs = [.tmp 2] := rfl
@[simp] theorem fz_impl_size_L_L_impl_Push : fa_impl_size_L_L_impl_Push.fz = true := rfl
@[simp] theorem rsh_impl_size_L_L_impl_Push : fa_impl_size_L_L_impl_Push.rsh = .any := rfl
theorem go_impl_size_L_L_impl_Push {args : List PV} {σ : List AObj} {r : PV × List AObj} (hl : args.length ≤ 5) (h : rE fns fa_impl_size_L_L_impl_Push σ.length [.code ac_impl_size_L_L_impl_Push] (frA 0 args) σ = some r) : ev fns i_impl_size_L_L_impl_Push args σ = some r := ev_go n_impl_size_L_L_impl_Push rfl hl h
@[simp] theorem nt_impl_size_L_L_L_int64 : fa_impl_size_L_L_L_int64.nt = 5 := rfl
@[simp] theorem rs_impl_size_L_L_L_int64 : fa_impl_size_L_L_L_int64.rs = [.tmp 2] := rfl
@[simp] theorem fz_impl_size_L_L_L_int64 : fa_impl_size_L_L_L_int64.fz = true := rfl
@[simp] theorem rsh_impl_size_L_L_L_int64 : fa_impl_size_L_L_L_int64.rsh = .any := rfl
theorem go_impl_size_L_L_L_int64 {args : List PV} {σ : List AObj} {r : PV × List AObj} (hl : args.length ≤ 5) (h : rE fns fa_impl_size_L_L_L_int64 σ.length [.code ac_impl_size_L_L_L_int64] (frA 0 args) σ = some r) : ev fns i_impl_size_L_L_L_int64 args σ = some r := ev_go n_impl_size_L_L_L_int64 rfl hl h
@[simp] theorem nt_impl_size_L_L_int64 : fa_impl_size_L_L_int64.nt = 5 := rfl
@[simp] theorem rs_impl_size_L_L_int64 : fa_impl_size_L_L_int64.rs = [.tmp 2] := rfl
@[simp] theorem fz_impl_size_L_L_int64 : fa_impl_size_L_L_int64.fz = true := rfl
@[simp] theorem rsh_impl_size_L_L_int64 : fa_impl_size_L_L_int64.rsh = .any := rfl
theorem go_impl_size_L_L_int64 {args : List PV} {σ : List AObj} {r : PV × List AObj} (hl : args.length ≤ 5) (h : rE fns fa_impl_size_L_L_int64 σ.length [.code ac_impl_size_L_L_int64] (frA 0 args) σ = some r) : ev fns i_impl_size_L_L_int64 args σ = some r := ev_go n_impl_size_L_L_int64 rfl hl h
@[simp] theorem nt_cmp_Or_int : fa_cmp_Or_int.nt = 18 := rfl
@[simp] theorem rs_cmp_Or_int : fa_cmp_Or_int.rs = [.tmp 2] := rfl
@[simp] theorem fz_cmp_Or_int : fa_cmp_Or_int.fz = true := rfl
@[simp] theorem rsh_cmp_Or_int : fa_cmp_Or_int.rsh = .any := rfl
theorem go_cmp_Or_int {args : List PV} {σ : List AObj} {r : PV × List AObj} (hl : args.length ≤ 18) (h : rE fns fa_cmp_Or_int σ.length [.code ac_cmp_Or_int] (frA 0 args) σ = some r) : ev fns i_cmp_Or_int args σ = some r := ev_go n_cmp_Or_int rfl hl h
theorem l_cmp_Or_int_0 {ks : List KI} {l : Fr} {σ : List AObj} {n0 : Nat} : rE fns fa_cmp_Or_int n0 (.code lo_cmp_Or_int_0 :: ks) l σ = rE fns fa_cmp_Or_int n0 (.code lb_cmp_Or_int_0 :: .code lo_cmp_Or_int_0 :: ks) l σ := rE_loop
@[simp] theorem nt_cmp_isNaN_int64 : fa_cmp_isNaN_int64.nt = 6 := rfl
@[simp] theorem rs_cmp_isNaN_int64 : fa_cmp_isNaN_int64.rs = [.tmp 2] := rfl
@[simp] theorem fz_cmp_isNaN_int64 : fa_cmp_isNaN_int64.fz = true := rfl
@[simp] theorem rsh_cmp_isNaN_int64 : fa_cmp_isNaN_int64.rsh = .any := rfl
theorem go_cmp_isNaN_int64 {args : List PV} {σ : List AObj} {r : PV × List AObj} (hl : args.length ≤ 6) (h : rE fns fa_cmp_isNaN_int64 σ.length [.code ac_cmp_isNaN_int64] (frA 0 args) σ = some r) : ev fns i_cmp_isNaN_int64 args σ = some r := ev_go n_cmp_isNaN_int64 rfl hl h
@[simp] theorem nt_cmp_Compare_int64 : fa_cmp_Compare_int64.nt = 20 := rfl
@[simp] theorem rs_cmp_Compare_int64 : fa_cmp_Compare_int64.rs = [.tmp 4] := rfl
@[simp] theorem fz_cmp_Compare_int64 : fa_cmp_Compare_int64.fz = true := rfl
@[simp] theorem rsh_cmp_Compare_int64 : fa_cmp_Compare_int64.rsh = .any := rfl
theorem go_cmp_Compare_int64 {args : List PV} {σ : List AObj} {r : PV × List AObj} (hl : args.length ≤ 20) (h : rE fns fa_cmp_Compare_int64 σ.length [.code ac_cmp_Compare_int64] (frA 0 args) σ = some r) : ev fns i_cmp_Compare_int64 args σ = some r := ev_go n_cmp_Compare_int64 rfl hl h
@[simp] theorem nt_impl_comparePushes : fa_impl_comparePushes.nt = 17 := rfl
@[simp] theorem rs_impl_comparePushes : fa_impl_comparePushes.rs = [.tmp 4] := rfl
@[simp] theorem fz_impl_comparePushes : fa_impl_comparePushes.fz = true := rfl
@[simp] theorem rsh_impl_comparePushes : fa_impl_comparePushes.rsh = .any := rfl
theorem go_impl_comparePushes {args : List PV} {σ : List AObj} {r : PV × List AObj} (hl : args.length ≤ 17) (h : rE fns fa_impl_comparePushes σ.length [.code ac_impl_comparePushes] (frA 0 args) σ = some r) : ev fns i_impl_comparePushes args σ = some r := ev_go n_impl_comparePushes rfl hl h
@[simp] theorem nt_impl_size_L_int64 : fa_impl_size_L_int64.nt = 5 := rfl
@[simp] theorem rs_impl_size_L_int64 : fa_impl_size_L_int64.rs = [.tmp 2] := rfl
@[simp] theorem fz_impl_size_L_int64 : fa_impl_size_L_int64.fz = true := rfl
@[simp] theorem rsh_impl_size_L_int64 : fa_impl_size_L_int64.rsh = .any := rfl
theorem go_impl_size_L_int64 {args : List PV} {σ : List AObj} {r : PV × List AObj} (hl : args.length ≤ 5) (h : rE fns fa_impl_size_L_int64 σ.length [.code ac_impl_size_L_int64] (frA 0 args) σ = some r) : ev fns i_impl_size_L_int64 args σ = some r := ev_go n_impl_size_L_int64 rfl hl h
@[simp] theorem nt_slices_IndexFunc_L_L_int64 : fa_slices_IndexFunc_L_L_int64.nt = 19 := rfl
@[simp] theorem rs_slices_IndexFunc_L_L_int64 : fa_slices_IndexFunc_L_L_int64.rs = [.tmp 4] := rfl
@[simp] theorem fz_slices_IndexFunc_L_L_int64 : fa_slices_IndexFunc_L_L_int64.fz = true := rfl
@[simp] theorem rsh_slices_IndexFunc_L_L_int64 : fa_slices_IndexFunc_L_L_int64.rsh = .any := rfl
theorem go_slices_IndexFunc_L_L_int64 {args : List PV} {σ : List AObj} {r : PV × List AObj} (hl : args.length ≤ 19) (h : rE fns fa_slices_IndexFunc_L_L_int64 σ.length [.code ac_slices_IndexFunc_L_L_int64] (frA 0 args) σ = some r) : ev fns i_slices_IndexFunc_L_L_int64 args σ = some r := ev_go n_slices_IndexFunc_L_L_int64 rfl hl h
theorem l_slices_IndexFunc_L_L_int64_0 {ks : List KI} {l : Fr} {σ : List AObj} {n0 : Nat} : rE fns fa_slices_IndexFunc_L_L_int64 n0 (.code lo_slices_IndexFunc_L_L_int64_0 :: ks) l σ = rE fns fa_slices_IndexFunc_L_L_int64 n0 (.code lb_slices_IndexFunc_L_L_int64_0 :: .code lo_slices_IndexFunc_L_L_int64_0 :: ks) l σ := rE_loop
@[simp] theorem nt_slices_ContainsFunc_L_L_int64 : fa_slices_ContainsFunc_L_L_int64.nt = 9 := rfl
@[simp] theorem rs_slices_ContainsFunc_L_L_int64 : fa_slices_ContainsFunc_L_L_int64.rs = [.tmp 4] := rfl
@[simp] theorem fz_slices_ContainsFunc_L_L_int64 : fa_slices_ContainsFunc_L_L_int64.fz = true := rfl
@[simp] theorem rsh_slices_ContainsFunc_L_L_int64 : fa_slices_ContainsFunc_L_L_int64.rsh = .any := rfl
theorem go_slices_ContainsFunc_L_L_int64 {args : List PV} {σ : List AObj} {r : PV × List AObj} (hl : args.length ≤ 9) (h : rE fns fa_slices_ContainsFunc_L_L_int64 σ.length [.code ac_slices_ContainsFunc_L_L_int64] (frA 0 args) σ = some r) : ev fns i_slices_ContainsFunc_L_L_int64 args σ = some r := ev_go n_slices_ContainsFunc_L_L_int64 rfl hl h
@[simp] theorem nt_impl_ValidChoices_1 : fa_impl_ValidChoices_1.nt = 8 := rfl
@[simp] theorem rs_impl_ValidChoices_1 : fa_impl_ValidChoices_1.rs = [.tmp 3] := rfl
@[simp] theorem fz_impl_ValidChoices_1 : fa_impl_ValidChoices_1.fz = true := rfl
@[simp] theorem rsh_impl_ValidChoices_1 : fa_impl_ValidChoices_1.rsh = .any := rfl
theorem go_impl_ValidChoices_1 {args : List PV} {σ : List AObj} {r : PV × List AObj} (hl : args.length ≤ 8) (h : rE fns fa_impl_ValidChoices_1 σ.length [.code ac_impl_ValidChoices_1] (frA 0 args) σ = some r) : ev fns i_impl_ValidChoices_1 args σ = some r := ev_go n_impl_ValidChoices_1 rfl hl h
@[simp] theorem nt_impl_ValidChoices : fa_impl_ValidChoices.nt = 171 := rfl
@[simp] theorem rs_impl_ValidChoices : fa_impl_ValidChoices.rs = [.tmp 2] := rfl
@[simp] theorem fz_impl_ValidChoices : fa_impl_ValidChoices.fz = true := rfl
@[simp] theorem rsh_impl_ValidChoices : fa_impl_ValidChoices.rsh = .any := rfl
theorem go_impl_ValidChoices {args : List PV} {σ : List AObj} {r : PV × List AObj} (hl : args.length ≤ 171) (h : rE fns fa_impl_ValidChoices σ.length [.code ac_impl_ValidChoices] (frA 0 args) σ = some r) : ev fns i_impl_ValidChoices args σ = some r := ev_go n_impl_ValidChoices rfl hl h
theorem l_impl_ValidChoices_0 {ks : List KI} {l : Fr} {σ : List AObj} {n0 : Nat} : rE fns fa_impl_ValidChoices n0 (.code lo_impl_ValidChoices_0 :: ks) l σ = rE fns fa_impl_ValidChoices n0 (.code lb_impl_ValidChoices_0 :: .code lo_impl_ValidChoices_0 :: ks) l σ := rE_loop
theorem l_impl_ValidChoices_1 {ks : List KI} {l : Fr} {σ : List AObj} {n0 : Nat} : rE fns fa_impl_ValidChoices n0 (.code lo_impl_ValidChoices_1 :: ks) l σ = rE fns fa_impl_ValidChoices n0 (.code lb_impl_ValidChoices_1 :: .code lo_impl_ValidChoices_1 :: ks) l σ := rE_loop
theorem l_impl_ValidChoices_2 {ks : List KI} {l : Fr} {σ : List AObj} {n0 : Nat} : rE fns fa_impl_ValidChoices n0 (.code lo_impl_ValidChoices_2 :: ks) l σ = rE fns fa_impl_ValidChoices n0 (.code lb_impl_ValidChoices_2 :: .code lo_impl_ValidChoices_2 :: ks) l σ := rE_loop
@[simp] theorem nt_internal_stringslite_IndexByte : fa_internal_stringslite_IndexByte.nt = 8 := rfl
@[simp] theorem rs_internal_stringslite_IndexByte : fa_internal_stringslite_IndexByte.rs = [.tmp 4] := rfl
@[simp] theorem fz_internal_stringslite_IndexByte : fa_internal_stringslite_IndexByte.fz = true := rfl
@[simp] theorem rsh_internal_stringslite_IndexByte : fa_internal_stringslite_IndexByte.rsh = .any := rfl
theorem go_internal_stringslite_IndexByte {args : List PV} {σ : List AObj} {r : PV × List AObj} (hl : args.length ≤ 8) (h : rE fns fa_internal_stringslite_IndexByte σ.length [.code ac_internal_stringslite_IndexByte] (frA 0 args) σ = some r) : ev fns i_internal_stringslite_IndexByte args σ = some r := ev_go n_internal_stringslite_IndexByte rfl hl h
@[simp] theorem nt_strings_IndexByte : fa_strings_IndexByte.nt = 8 := rfl
@[simp] theorem rs_strings_IndexByte : fa_strings_IndexByte.rs = [.tmp 4] := rfl
@[simp] theorem fz_strings_IndexByte : fa_strings_IndexByte.fz = true := rfl
@[simp] theorem rsh_strings_IndexByte : fa_strings_IndexByte.rsh = .any := rfl
theorem go_strings_IndexByte {args : List PV} {σ : List AObj} {r : PV × List AObj} (hl : args.length ≤ 8) (h : rE fns fa_strings_IndexByte σ.length [.code ac_strings_IndexByte] (frA 0 args) σ = some r) : ev fns i_strings_IndexByte args σ = some r := ev_go n_strings_IndexByte rfl hl h
@[simp] theorem nt_impl_ValidWord : fa_impl_ValidWord.nt = 18 := rfl
@[simp] theorem rs_impl_ValidWord : fa_impl_ValidWord.rs = [.tmp 2] := rfl
@[simp] theorem fz_impl_ValidWord : fa_impl_ValidWord.fz = true := rfl
@[simp] theorem rsh_impl_ValidWord : fa_impl_ValidWord.rsh = .any := rfl
theorem go_impl_ValidWord {args : List PV} {σ : List AObj} {r : PV × List AObj} (hl : args.length ≤ 18) (h : rE fns fa_impl_ValidWord σ.length [.code ac_impl_ValidWord] (frA 0 args) σ = some r) : ev fns i_impl_ValidWord args σ = some r := ev_go n_impl_ValidWord rfl hl h
theorem l_impl_ValidWord_0 {ks : List KI} {l : Fr} {σ : List AObj} {n0 : Nat} : rE fns fa_impl_ValidWord n0 (.code lo_impl_ValidWord_0 :: ks) l σ = rE fns fa_impl_ValidWord n0 (.code lb_impl_ValidWord_0 :: .code lo_impl_ValidWord_0 :: ks) l σ := rE_loop
@[simp] theorem nt_impl_isCall : fa_impl_isCall.nt = 9 := rfl
@[simp] theorem rs_impl_isCall : fa_impl_isCall.rs = [.tmp 2] := rfl
@[simp] theorem fz_impl_isCall : fa_impl_isCall.fz = true := rfl
@[simp] theorem rsh_impl_isCall : fa_impl_isCall.rsh = .any := rfl
theorem go_impl_isCall {args : List PV} {σ : List AObj} {r : PV × List AObj} (hl : args.length ≤ 9) (h : rE fns fa_impl_isCall σ.length [.code ac_impl_isCall] (frA 0 args) σ = some r) : ev fns i_impl_isCall args σ = some r := ev_go n_impl_isCall rfl hl h
@[simp] theorem nt_impl_isReturn : fa_impl_isReturn.nt = 9 := rfl
@[simp] theorem rs_impl_isReturn : fa_impl_isReturn.rs = [.tmp 2] := rfl
@[simp] theorem fz_impl_isReturn : fa_impl_isReturn.fz = true := rfl
@[simp] theorem rsh_impl_isReturn : fa_impl_isReturn.rsh = .any := rfl
theorem go_impl_isReturn {args : List PV} {σ : List AObj} {r : PV × List AObj} (hl : args.length ≤ 9) (h : rE fns fa_impl_isReturn σ.length [.code ac_impl_isReturn] (frA 0 args) σ = some r) : ev fns i_impl_isReturn args σ = some r := ev_go n_impl_isReturn rfl hl h
@[simp] theorem nt_impl_size_int64 : fa_impl_size_int64.nt = 5 := rfl
@[simp] theorem rs_impl_size_int64 : fa_impl_size_int64.rs = [.tmp 2] := rfl
@[simp] theorem fz_impl_size_int64 : fa_impl_size_int64.fz = true := rfl
@[simp] theorem rsh_impl_size_int64 : fa_impl_size_int64.rsh = .any := rfl
theorem go_impl_size_int64 {args : List PV} {σ : List AObj} {r : PV × List AObj} (hl : args.length ≤ 5) (h : rE fns fa_impl_size_int64 σ.length [.code ac_impl_size_int64] (frA 0 args) σ = some r) : ev fns i_impl_size_int64 args σ = some r := ev_go n_impl_size_int64 rfl hl h
@[simp] theorem nt_impl_match : fa_impl_match.nt = 101 := rfl
@[simp] theorem rs_impl_match : fa_impl_match.rs = [.cell 2 5 true] := rfl
@[simp] theorem fz_impl_match : fa_impl_match.fz = true := rfl
@[simp] theorem rsh_impl_match : fa_impl_match.rsh = .any := rfl
theorem go_impl_match {args : List PV} {σ : List AObj} {r : PV × List AObj} (hl : args.length ≤ 101) (h : rE fns fa_impl_match σ.length [.code ac_impl_match] (frA 0 args) σ = some r) : ev fns i_impl_match args σ = some r := ev_go n_impl_match rfl hl h
theorem l_impl_match_0 {ks : List KI} {l : Fr} {σ : List AObj} {n0 : Nat} : rE fns fa_impl_match n0 (.code lo_impl_match_0 :: ks) l σ = rE fns fa_impl_match n0 (.code lb_impl_match_0 :: .code lo_impl_match_0 :: ks) l σ := rE_loop
@[simp] theorem nt_impl_isMatched : fa_impl_isMatched.nt = 14 := rfl
@[simp] theorem rs_impl_isMatched : fa_impl_isMatched.rs = [.tmp 2] := rfl
@[simp] theorem fz_impl_isMatched : fa_impl_isMatched.fz = true := rfl
@[simp] theorem rsh_impl_isMatched : fa_impl_isMatched.rsh = .any := rfl
theorem go_impl_isMatched {args : List PV} {σ : List AObj} {r : PV × List AObj} (hl : args.length ≤ 14) (h : rE fns fa_impl_isMatched σ.length [.code ac_impl_isMatched] (frA 0 args) σ = some r) : ev fns i_impl_isMatched args σ = some r := ev_go n_impl_isMatched rfl hl h
@[simp] theorem nt_impl_Choices_same : fa_impl_Choices_same.nt = 18 := rfl
@[simp] theorem rs_impl_Choices_same : fa_impl_Choices_same.rs = [.cell 2 5 true] := rfl
@[simp] theorem fz_impl_Choices_same : fa_impl_Choices_same.fz = true := rfl
@[simp] theorem rsh_impl_Choices_same : fa_impl_Choices_same.rsh = .any := rfl
theorem go_impl_Choices_same {args : List PV} {σ : List AObj} {r : PV × List AObj} (hl : args.length ≤ 18) (h : rE fns fa_impl_Choices_same σ.length [.code ac_impl_Choices_same] (frA 0 args) σ = some r) : ev fns i_impl_Choices_same args σ = some r := ev_go n_impl_Choices_same rfl hl h
theorem l_impl_Choices_same_0 {ks : List KI} {l : Fr} {σ : List AObj} {n0 : Nat} : rE fns fa_impl_Choices_same n0 (.code lo_impl_Choices_same_0 :: ks) l σ = rE fns fa_impl_Choices_same n0 (.code lb_impl_Choices_same_0 :: .code lo_impl_Choices_same_0 :: ks) l σ := rE_loop
@[simp] theorem nt_impl_bits : fa_impl_bits.nt = 18 := rfl
@[simp] theorem rs_impl_bits : fa_impl_bits.rs = [.tmp 2] := rfl
@[simp] theorem fz_impl_bits : fa_impl_bits.fz = true := rfl
@[simp] theorem rsh_impl_bits : fa_impl_bits.rsh = .any := rfl
theorem go_impl_bits {args : List PV} {σ : List AObj} {r : PV × List AObj} (hl : args.length ≤ 18) (h : rE fns fa_impl_bits σ.length [.code ac_impl_bits] (frA 0 args) σ = some r) : ev fns i_impl_bits args σ = some r := ev_go n_impl_bits rfl hl h
theorem l_impl_bits_0 {ks : List KI} {l : Fr} {σ : List AObj} {n0 : Nat} : rE fns fa_impl_bits n0 (.code lo_impl_bits_0 :: ks) l σ = rE fns fa_impl_bits n0 (.code lb_impl_bits_0 :: .code lo_impl_bits_0 :: ks) l σ := rE_loop
@[simp] theorem nt_impl_Choices_start : fa_impl_Choices_start.nt = 9 := rfl
@[simp] theorem rs_impl_Choices_start : fa_impl_Choices_start.rs = [.cell 2 6 true] := rfl
@[simp] theorem fz_impl_Choices_start : fa_impl_Choices_start.fz = true := rfl
@[simp] theorem rsh_impl_Choices_start : fa_impl_Choices_start.rsh = .any := rfl
theorem go_impl_Choices_start {args : List PV} {σ : List AObj} {r : PV × List AObj} (hl : args.length ≤ 9) (h : rE fns fa_impl_Choices_start σ.length [.code ac_impl_Choices_start] (frA 0 args) σ = some r) : ev fns i_impl_Choices_start args σ = some r := ev_go n_impl_Choices_start rfl hl h
@[simp] theorem nt_impl_states : fa_impl_states.nt = 22 := rfl
@[simp] theorem rs_impl_states : fa_impl_states.rs = [.tmp 2] := rfl
@[simp] theorem fz_impl_states : fa_impl_states.fz = false := rfl
@[simp] theorem rsh_impl_states : fa_impl_states.rsh = .any := rfl
theorem go_impl_states {args : List PV} {σ : List AObj} {r : PV × List AObj} (hl : args.length ≤ 22) (h : rE fns fa_impl_states σ.length [.code ac_impl_states] (frA 0 args) σ = some r) : ev fns i_impl_states args σ = some r := ev_go n_impl_states rfl hl h
theorem l_impl_states_0 {ks : List KI} {l : Fr} {σ : List AObj} {n0 : Nat} : rE fns fa_impl_states n0 (.code lo_impl_states_0 :: ks) l σ = rE fns fa_impl_states n0 (.code lb_impl_states_0 :: .code lo_impl_states_0 :: ks) l σ := rE_loop
@[simp] theorem nt_impl_all : fa_impl_all.nt = 22 := rfl
@[simp] theorem rs_impl_all : fa_impl_all.rs = [.tmp 4] := rfl
@[simp] theorem fz_impl_all : fa_impl_all.fz = true := rfl
@[simp] theorem rsh_impl_all : fa_impl_all.rsh = .any := rfl
theorem go_impl_all {args : List PV} {σ : List AObj} {r : PV × List AObj} (hl : args.length ≤ 22) (h : rE fns fa_impl_all σ.length [.code ac_impl_all] (frA 0 args) σ = some r) : ev fns i_impl_all args σ = some r := ev_go n_impl_all rfl hl h
theorem l_impl_all_0 {ks : List KI} {l : Fr} {σ : List AObj} {n0 : Nat} : rE fns fa_impl_all n0 (.code lo_impl_all_0 :: ks) l σ = rE fns fa_impl_all n0 (.code lb_impl_all_0 :: .code lo_impl_all_0 :: ks) l σ := rE_loop
@[simp] theorem nt_impl_Choices_call_1 : fa_impl_Choices_call_1.nt = 28 := rfl
@[simp] theorem rs_impl_Choices_call_1 : fa_impl_Choices_call_1.rs = [.tmp 4] := rfl
@[simp] theorem fz_impl_Choices_call_1 : fa_impl_Choices_call_1.fz = true := rfl
@[simp] theorem rsh_impl_Choices_call_1 : fa_impl_Choices_call_1.rsh = .any := rfl
theorem go_impl_Choices_call_1 {args : List PV} {σ : List AObj} {r : PV × List AObj} (hl : args.length ≤ 28) (h : rE fns fa_impl_Choices_call_1 σ.length [.code ac_impl_Choices_call_1] (frA 0 args) σ = some r) : ev fns i_impl_Choices_call_1 args σ = some r := ev_go n_impl_Choices_call_1 rfl hl h
theorem l_impl_Choices_call_1_0 {ks : List KI} {l : Fr} {σ : List AObj} {n0 : Nat} : rE fns fa_impl_Choices_call_1 n0 (.code lo_impl_Choices_call_1_0 :: ks) l σ = rE fns fa_impl_Choices_call_1 n0 (.code lb_impl_Choices_call_1_0 :: .code lo_impl_Choices_call_1_0 :: ks) l σ := rE_loop
@[simp] theorem nt_impl_Choices_call : fa_impl_Choices_call.nt = 14 := rfl
@[simp] theorem rs_impl_Choices_call : fa_impl_Choices_call.rs = [.cell 6 6 true] := rfl
@[simp] theorem fz_impl_Choices_call : fa_impl_Choices_call.fz = true := rfl
@[simp] theorem rsh_impl_Choices_call : fa_impl_Choices_call.rsh = .any := rfl
theorem go_impl_Choices_call {args : List PV} {σ : List AObj} {r : PV × List AObj} (hl : args.length ≤ 14) (h : rE fns fa_impl_Choices_call σ.length [.code ac_impl_Choices_call] (frA 0 args) σ = some r) : ev fns i_impl_Choices_call args σ = some r := ev_go n_impl_Choices_call rfl hl h
@[simp] theorem nt_impl_Choices_inner_1 : fa_impl_Choices_inner_1.nt = 14 := rfl
@[simp] theorem rs_impl_Choices_inner_1 : fa_impl_Choices_inner_1.rs = [.tmp 4] := rfl
@[simp] theorem fz_impl_Choices_inner_1 : fa_impl_Choices_inner_1.fz = true := rfl
@[simp] theorem rsh_impl_Choices_inner_1 : fa_impl_Choices_inner_1.rsh = .any := rfl
theorem go_impl_Choices_inner_1 {args : List PV} {σ : List AObj} {r : PV × List AObj} (hl : args.length ≤ 14) (h : rE fns fa_impl_Choices_inner_1 σ.length [.code ac_impl_Choices_inner_1] (frA 0 args) σ = some r) : ev fns i_impl_Choices_inner_1 args σ = some r := ev_go n_impl_Choices_inner_1 rfl hl h
@[simp] theorem nt_impl_Choices_inner : fa_impl_Choices_inner.nt = 30 := rfl
@[simp] theorem rs_impl_Choices_inner : fa_impl_Choices_inner.rs = [.cell 6 6 true] := rfl
@[simp] theorem fz_impl_Choices_inner : fa_impl_Choices_inner.fz = true := rfl
@[simp] theorem rsh_impl_Choices_inner : fa_impl_Choices_inner.rsh = .any := rfl
theorem go_impl_Choices_inner {args : List PV} {σ : List AObj} {r : PV × List AObj} (hl : args.length ≤ 30) (h : rE fns fa_impl_Choices_inner σ.length [.code ac_impl_Choices_inner] (frA 0 args) σ = some r) : ev fns i_impl_Choices_inner args σ = some r := ev_go n_impl_Choices_inner rfl hl h
theorem l_impl_Choices_inner_0 {ks : List KI} {l : Fr} {σ : List AObj} {n0 : Nat} : rE fns fa_impl_Choices_inner n0 (.code lo_impl_Choices_inner_0 :: ks) l σ = rE fns fa_impl_Choices_inner n0 (.code lb_impl_Choices_inner_0 :: .code lo_impl_Choices_inner_0 :: ks) l σ := rE_loop
@[simp] theorem nt_impl_Choices_free_1 : fa_impl_Choices_free_1.nt = 18 := rfl
@[simp] theorem rs_impl_Choices_free_1 : fa_impl_Choices_free_1.rs = [.tmp 4] := rfl
@[simp] theorem fz_impl_Choices_free_1 : fa_impl_Choices_free_1.fz = true := rfl
@[simp] theorem rsh_impl_Choices_free_1 : fa_impl_Choices_free_1.rsh = .any := rfl
theorem go_impl_Choices_free_1 {args : List PV} {σ : List AObj} {r : PV × List AObj} (hl : args.length ≤ 18) (h : rE fns fa_impl_Choices_free_1 σ.length [.code ac_impl_Choices_free_1] (frA 0 args) σ = some r) : ev fns i_impl_Choices_free_1 args σ = some r := ev_go n_impl_Choices_free_1 rfl hl h
@[simp] theorem nt_impl_Choices_free : fa_impl_Choices_free.nt = 14 := rfl
@[simp] theorem rs_impl_Choices_free : fa_impl_Choices_free.rs = [.cell 6 6 true] := rfl
@[simp] theorem fz_impl_Choices_free : fa_impl_Choices_free.fz = true := rfl
@[simp] theorem rsh_impl_Choices_free : fa_impl_Choices_free.rsh = .any := rfl
theorem go_impl_Choices_free {args : List PV} {σ : List AObj} {r : PV × List AObj} (hl : args.length ≤ 14) (h : rE fns fa_impl_Choices_free σ.length [.code ac_impl_Choices_free] (frA 0 args) σ = some r) : ev fns i_impl_Choices_free args σ = some r := ev_go n_impl_Choices_free rfl hl h
@[simp] theorem nt_impl_Choices_back_1_1 : fa_impl_Choices_back_1_1.nt = 19 := rfl
@[simp] theorem rs_impl_Choices_back_1_1 : fa_impl_Choices_back_1_1.rs = [.tmp 5] := rfl
@[simp] theorem fz_impl_Choices_back_1_1 : fa_impl_Choices_back_1_1.fz = true := rfl
@[simp] theorem rsh_impl_Choices_back_1_1 : fa_impl_Choices_back_1_1.rsh = .any := rfl
theorem go_impl_Choices_back_1_1 {args : List PV} {σ : List AObj} {r : PV × List AObj} (hl : args.length ≤ 19) (h : rE fns fa_impl_Choices_back_1_1 σ.length [.code ac_impl_Choices_back_1_1] (frA 0 args) σ = some r) : ev fns i_impl_Choices_back_1_1 args σ = some r := ev_go n_impl_Choices_back_1_1 rfl hl h
@[simp] theorem nt_impl_Choices_back_1 : fa_impl_Choices_back_1.nt = 34 := rfl
@[simp] theorem rs_impl_Choices_back_1 : fa_impl_Choices_back_1.rs = [.tmp 6] := rfl
@[simp] theorem fz_impl_Choices_back_1 : fa_impl_Choices_back_1.fz = true := rfl
@[simp] theorem rsh_impl_Choices_back_1 : fa_impl_Choices_back_1.rsh = .any := rfl
theorem go_impl_Choices_back_1 {args : List PV} {σ : List AObj} {r : PV × List AObj} (hl : args.length ≤ 34) (h : rE fns fa_impl_Choices_back_1 σ.length [.code ac_impl_Choices_back_1] (frA 0 args) σ = some r) : ev fns i_impl_Choices_back_1 args σ = some r := ev_go n_impl_Choices_back_1 rfl hl h
theorem l_impl_Choices_back_1_0 {ks : List KI} {l : Fr} {σ : List AObj} {n0 : Nat} : rE fns fa_impl_Choices_back_1 n0 (.code lo_impl_Choices_back_1_0 :: ks) l σ = rE fns fa_impl_Choices_back_1 n0 (.code lb_impl_Choices_back_1_0 :: .code lo_impl_Choices_back_1_0 :: ks) l σ := rE_loop
@[simp] theorem nt_impl_Choices_back : fa_impl_Choices_back.nt = 35 := rfl
@[simp] theorem rs_impl_Choices_back : fa_impl_Choices_back.rs = [.cell 10 6 true] := rfl
@[simp] theorem fz_impl_Choices_back : fa_impl_Choices_back.fz = true := rfl
@[simp] theorem rsh_impl_Choices_back : fa_impl_Choices_back.rsh = .any := rfl
theorem go_impl_Choices_back {args : List PV} {σ : List AObj} {r : PV × List AObj} (hl : args.length ≤ 35) (h : rE fns fa_impl_Choices_back σ.length [.code ac_impl_Choices_back] (frA 0 args) σ = some r) : ev fns i_impl_Choices_back args σ = some r := ev_go n_impl_Choices_back rfl hl h
theorem l_impl_Choices_back_0 {ks : List KI} {l : Fr} {σ : List AObj} {n0 : Nat} : rE fns fa_impl_Choices_back n0 (.code lo_impl_Choices_back_0 :: ks) l σ = rE fns fa_impl_Choices_back n0 (.code lb_impl_Choices_back_0 :: .code lo_impl_Choices_back_0 :: ks) l σ := rE_loop
@[simp] theorem nt_impl_kindOf : fa_impl_kindOf.nt = 6 := rfl
@[simp] theorem rs_impl_kindOf : fa_impl_kindOf.rs = [.tmp 2] := rfl
@[simp] theorem fz_impl_kindOf : fa_impl_kindOf.fz = true := rfl
@[simp] theorem rsh_impl_kindOf : fa_impl_kindOf.rsh = .any := rfl
theorem go_impl_kindOf {args : List PV} {σ : List AObj} {r : PV × List AObj} (hl : args.length ≤ 6) (h : rE fns fa_impl_kindOf σ.length [.code ac_impl_kindOf] (frA 0 args) σ = some r) : ev fns i_impl_kindOf args σ = some r := ev_go n_impl_kindOf rfl hl h
@[simp] theorem nt_impl_isInner : fa_impl_isInner.nt = 9 := rfl
@[simp] theorem rs_impl_isInner : fa_impl_isInner.rs = [.tmp 2] := rfl
@[simp] theorem fz_impl_isInner : fa_impl_isInner.fz = true := rfl
@[simp] theorem rsh_impl_isInner : fa_impl_isInner.rsh = .any := rfl
theorem go_impl_isInner {args : List PV} {σ : List AObj} {r : PV × List AObj} (hl : args.length ≤ 9) (h : rE fns fa_impl_isInner σ.length [.code ac_impl_isInner] (frA 0 args) σ = some r) : ev fns i_impl_isInner args σ = some r := ev_go n_impl_isInner rfl hl h
@[simp] theorem nt_impl_Choices_known : fa_impl_Choices_known.nt = 77 := rfl
@[simp] theorem rs_impl_Choices_known : fa_impl_Choices_known.rs = [.cell 4 6 true] := rfl
@[simp] theorem fz_impl_Choices_known : fa_impl_Choices_known.fz = true := rfl
@[simp] theorem rsh_impl_Choices_known : fa_impl_Choices_known.rsh = .any := rfl
theorem go_impl_Choices_known {args : List PV} {σ : List AObj} {r : PV × List AObj} (hl : args.length ≤ 77) (h : rE fns fa_impl_Choices_known σ.length [.code ac_impl_Choices_known] (frA 0 args) σ = some r) : ev fns i_impl_Choices_known args σ = some r := ev_go n_impl_Choices_known rfl hl h
theorem l_impl_Choices_known_0 {ks : List KI} {l : Fr} {σ : List AObj} {n0 : Nat} : rE fns fa_impl_Choices_known n0 (.code lo_impl_Choices_known_0 :: ks) l σ = rE fns fa_impl_Choices_known n0 (.code lb_impl_Choices_known_0 :: .code lo_impl_Choices_known_0 :: ks) l σ := rE_loop
@[simp] theorem nt_impl_PairsOf : fa_impl_PairsOf.nt = 42 := rfl
@[simp] theorem rs_impl_PairsOf : fa_impl_PairsOf.rs = [.tmp 4, .tmp 5] := rfl
@[simp] theorem fz_impl_PairsOf : fa_impl_PairsOf.fz = false := rfl
@[simp] theorem rsh_impl_PairsOf : fa_impl_PairsOf.rsh = .any := rfl
theorem go_impl_PairsOf {args : List PV} {σ : List AObj} {r : PV × List AObj} (hl : args.length ≤ 42) (h : rE fns fa_impl_PairsOf σ.length [.code ac_impl_PairsOf] (frA 0 args) σ = some r) : ev fns i_impl_PairsOf args σ = some r := ev_go n_impl_PairsOf rfl hl h
theorem l_impl_PairsOf_0 {ks : List KI} {l : Fr} {σ : List AObj} {n0 : Nat} : rE fns fa_impl_PairsOf n0 (.code lo_impl_PairsOf_0 :: ks) l σ = rE fns fa_impl_PairsOf n0 (.code lb_impl_PairsOf_0 :: .code lo_impl_PairsOf_0 :: ks) l σ := rE_loop
@[simp] theorem nt_laws_eqInt64S : fa_laws_eqInt64S.nt = 26 := rfl
@[simp] theorem rs_laws_eqInt64S : fa_laws_eqInt64S.rs = [.tmp 4] := rfl
@[simp] theorem fz_laws_eqInt64S : fa_laws_eqInt64S.fz = true := rfl
@[simp] theorem rsh_laws_eqInt64S : fa_laws_eqInt64S.rsh = .any := rfl
theorem go_laws_eqInt64S {args : List PV} {σ : List AObj} {r : PV × List AObj} (hl : args.length ≤ 26) (h : rE fns fa_laws_eqInt64S σ.length [.code ac_laws_eqInt64S] (frA 0 args) σ = some r) : ev fns i_laws_eqInt64S args σ = some r := ev_go n_laws_eqInt64S rfl hl h
theorem l_laws_eqInt64S_0 {ks : List KI} {l : Fr} {σ : List AObj} {n0 : Nat} : rE fns fa_laws_eqInt64S n0 (.code lo_laws_eqInt64S_0 :: ks) l σ = rE fns fa_laws_eqInt64S n0 (.code lb_laws_eqInt64S_0 :: .code lo_laws_eqInt64S_0 :: ks) l σ := rE_loop
@[simp] theorem nt_laws_eqInt64SS : fa_laws_eqInt64SS.nt = 27 := rfl
@[simp] theorem rs_laws_eqInt64SS : fa_laws_eqInt64SS.rs = [.tmp 4] := rfl
@[simp] theorem fz_laws_eqInt64SS : fa_laws_eqInt64SS.fz = true := rfl
@[simp] theorem rsh_laws_eqInt64SS : fa_laws_eqInt64SS.rsh = .any := rfl
theorem go_laws_eqInt64SS {args : List PV} {σ : List AObj} {r : PV × List AObj} (hl : args.length ≤ 27) (h : rE fns fa_laws_eqInt64SS σ.length [.code ac_laws_eqInt64SS] (frA 0 args) σ = some r) : ev fns i_laws_eqInt64SS args σ = some r := ev_go n_laws_eqInt64SS rfl hl h
theorem l_laws_eqInt64SS_0 {ks : List KI} {l : Fr} {σ : List AObj} {n0 : Nat} : rE fns fa_laws_eqInt64SS n0 (.code lo_laws_eqInt64SS_0 :: ks) l σ = rE fns fa_laws_eqInt64SS n0 (.code lb_laws_eqInt64SS_0 :: .code lo_laws_eqInt64SS_0 :: ks) l σ := rE_loop
@[simp] theorem nt_laws_eqBoolS : fa_laws_eqBoolS.nt = 26 := rfl
@[simp] theorem rs_laws_eqBoolS : fa_laws_eqBoolS.rs = [.tmp 4] := rfl
@[simp] theorem fz_laws_eqBoolS : fa_laws_eqBoolS.fz = true := rfl
@[simp] theorem rsh_laws_eqBoolS : fa_laws_eqBoolS.rsh = .any := rfl
theorem go_laws_eqBoolS {args : List PV} {σ : List AObj} {r : PV × List AObj} (hl : args.length ≤ 26) (h : rE fns fa_laws_eqBoolS σ.length [.code ac_laws_eqBoolS] (frA 0 args) σ = some r) : ev fns i_laws_eqBoolS args σ = some r := ev_go n_laws_eqBoolS rfl hl h
theorem l_laws_eqBoolS_0 {ks : List KI} {l : Fr} {σ : List AObj} {n0 : Nat} : rE fns fa_laws_eqBoolS n0 (.code lo_laws_eqBoolS_0 :: ks) l σ = rE fns fa_laws_eqBoolS n0 (.code lb_laws_eqBoolS_0 :: .code lo_laws_eqBoolS_0 :: ks) l σ := rE_loop
@[simp] theorem nt_laws_eqPush : fa_laws_eqPush.nt = 15 := rfl
@[simp] theorem rs_laws_eqPush : fa_laws_eqPush.rs = [.tmp 4] := rfl
@[simp] theorem fz_laws_eqPush : fa_laws_eqPush.fz = true := rfl
@[simp] theorem rsh_laws_eqPush : fa_laws_eqPush.rsh = .any := rfl
theorem go_laws_eqPush {args : List PV} {σ : List AObj} {r : PV × List AObj} (hl : args.length ≤ 15) (h : rE fns fa_laws_eqPush σ.length [.code ac_laws_eqPush] (frA 0 args) σ = some r) : ev fns i_laws_eqPush args σ = some r := ev_go n_laws_eqPush rfl hl h
@[simp] theorem nt_laws_eqPushS : fa_laws_eqPushS.nt = 27 := rfl
@[simp] theorem rs_laws_eqPushS : fa_laws_eqPushS.rs = [.tmp 4] := rfl
@[simp] theorem fz_laws_eqPushS : fa_laws_eqPushS.fz = true := rfl
@[simp] theorem rsh_laws_eqPushS : fa_laws_eqPushS.rsh = .any := rfl
theorem go_laws_eqPushS {args : List PV} {σ : List AObj} {r : PV × List AObj} (hl : args.length ≤ 27) (h : rE fns fa_laws_eqPushS σ.length [.code ac_laws_eqPushS] (frA 0 args) σ = some r) : ev fns i_laws_eqPushS args σ = some r := ev_go n_laws_eqPushS rfl hl h
theorem l_laws_eqPushS_0 {ks : List KI} {l : Fr} {σ : List AObj} {n0 : Nat} : rE fns fa_laws_eqPushS n0 (.code lo_laws_eqPushS_0 :: ks) l σ = rE fns fa_laws_eqPushS n0 (.code lb_laws_eqPushS_0 :: .code lo_laws_eqPushS_0 :: ks) l σ := rE_loop
@[simp] theorem nt_laws_eqPushSS : fa_laws_eqPushSS.nt = 27 := rfl
@[simp] theorem rs_laws_eqPushSS : fa_laws_eqPushSS.rs = [.tmp 4] := rfl
@[simp] theorem fz_laws_eqPushSS : fa_laws_eqPushSS.fz = true := rfl
@[simp] theorem rsh_laws_eqPushSS : fa_laws_eqPushSS.rsh = .any := rfl
theorem go_laws_eqPushSS {args : List PV} {σ : List AObj} {r : PV × List AObj} (hl : args.length ≤ 27) (h : rE fns fa_laws_eqPushSS σ.length [.code ac_laws_eqPushSS] (frA 0 args) σ = some r) : ev fns i_laws_eqPushSS args σ = some r := ev_go n_laws_eqPushSS rfl hl h
theorem l_laws_eqPushSS_0 {ks : List KI} {l : Fr} {σ : List AObj} {n0 : Nat} : rE fns fa_laws_eqPushSS n0 (.code lo_laws_eqPushSS_0 :: ks) l σ = rE fns fa_laws_eqPushSS n0 (.code lb_laws_eqPushSS_0 :: .code lo_laws_eqPushSS_0 :: ks) l σ := rE_loop
@[simp] theorem nt_laws_eqPushSSS : fa_laws_eqPushSSS.nt = 27 := rfl
@[simp] theorem rs_laws_eqPushSSS : fa_laws_eqPushSSS.rs = [.tmp 4] := rfl
@[simp] theorem fz_laws_eqPushSSS : fa_laws_eqPushSSS.fz = true := rfl
@[simp] theorem rsh_laws_eqPushSSS : fa_laws_eqPushSSS.rsh = .any := rfl
theorem go_laws_eqPushSSS {args : List PV} {σ : List AObj} {r : PV × List AObj} (hl : args.length ≤ 27) (h : rE fns fa_laws_eqPushSSS σ.length [.code ac_laws_eqPushSSS] (frA 0 args) σ = some r) : ev fns i_laws_eqPushSSS args σ = some r := ev_go n_laws_eqPushSSS rfl hl h
theorem l_laws_eqPushSSS_0 {ks : List KI} {l : Fr} {σ : List AObj} {n0 : Nat} : rE fns fa_laws_eqPushSSS n0 (.code lo_laws_eqPushSSS_0 :: ks) l σ = rE fns fa_laws_eqPushSSS n0 (.code lb_laws_eqPushSSS_0 :: .code lo_laws_eqPushSSS_0 :: ks) l σ := rE_loop
@[simp] theorem nt_laws_eqInt64SSS : fa_laws_eqInt64SSS.nt = 27 := rfl
@[simp] theorem rs_laws_eqInt64SSS : fa_laws_eqInt64SSS.rs = [.tmp 4] := rfl
@[simp] theorem fz_laws_eqInt64SSS : fa_laws_eqInt64SSS.fz = true := rfl
@[simp] theorem rsh_laws_eqInt64SSS : fa_laws_eqInt64SSS.rsh = .any := rfl
theorem go_laws_eqInt64SSS {args : List PV} {σ : List AObj} {r : PV × List AObj} (hl : args.length ≤ 27) (h : rE fns fa_laws_eqInt64SSS σ.length [.code ac_laws_eqInt64SSS] (frA 0 args) σ = some r) : ev fns i_laws_eqInt64SSS args σ = some r := ev_go n_laws_eqInt64SSS rfl hl h
theorem l_laws_eqInt64SSS_0 {ks : List KI} {l : Fr} {σ : List AObj} {n0 : Nat} : rE fns fa_laws_eqInt64SSS n0 (.code lo_laws_eqInt64SSS_0 :: ks) l σ = rE fns fa_laws_eqInt64SSS n0 (.code lb_laws_eqInt64SSS_0 :: .code lo_laws_eqInt64SSS_0 :: ks) l σ := rE_loop
@[simp] theorem nt_laws_eqInt64SSSS : fa_laws_eqInt64SSSS.nt = 27 := rfl
@[simp] theorem rs_laws_eqInt64SSSS : fa_laws_eqInt64SSSS.rs = [.tmp 4] := rfl
@[simp] theorem fz_laws_eqInt64SSSS : fa_laws_eqInt64SSSS.fz = true := rfl
@[simp] theorem rsh_laws_eqInt64SSSS : fa_laws_eqInt64SSSS.rsh = .any := rfl
theorem go_laws_eqInt64SSSS {args : List PV} {σ : List AObj} {r : PV × List AObj} (hl : args.length ≤ 27) (h : rE fns fa_laws_eqInt64SSSS σ.length [.code ac_laws_eqInt64SSSS] (frA 0 args) σ = some r) : ev fns i_laws_eqInt64SSSS args σ = some r := ev_go n_laws_eqInt64SSSS rfl hl h
theorem l_laws_eqInt64SSSS_0 {ks : List KI} {l : Fr} {σ : List AObj} {n0 : Nat} : rE fns fa_laws_eqInt64SSSS n0 (.code lo_laws_eqInt64SSSS_0 :: ks) l σ = rE fns fa_laws_eqInt64SSSS n0 (.code lb_laws_eqInt64SSSS_0 :: .code lo_laws_eqInt64SSSS_0 :: ks) l σ := rE_loop
@[simp] theorem nt_laws_eqChoices : fa_laws_eqChoices.nt = 40 := rfl
@[simp] theorem rs_laws_eqChoices : fa_laws_eqChoices.rs = [.tmp 4] := rfl
@[simp] theorem fz_laws_eqChoices : fa_laws_eqChoices.fz = true := rfl
@[simp] theorem rsh_laws_eqChoices : fa_laws_eqChoices.rsh = .any := rfl
theorem go_laws_eqChoices {args : List PV} {σ : List AObj} {r : PV × List AObj} (hl : args.length ≤ 40) (h : rE fns fa_laws_eqChoices σ.length [.code ac_laws_eqChoices] (frA 0 args) σ = some r) : ev fns i_laws_eqChoices args σ = some r := ev_go n_laws_eqChoices rfl hl h
@[simp] theorem nt_laws_markInt64S : fa_laws_markInt64S.nt = 19 := rfl
@[simp] theorem rs_laws_markInt64S : fa_laws_markInt64S.rs = [.tmp 4] := rfl
@[simp] theorem fz_laws_markInt64S : fa_laws_markInt64S.fz = false := rfl
@[simp] theorem rsh_laws_markInt64S : fa_laws_markInt64S.rsh = .any := rfl
theorem go_laws_markInt64S {args : List PV} {σ : List AObj} {r : PV × List AObj} (hl : args.length ≤ 19) (h : rE fns fa_laws_markInt64S σ.length [.code ac_laws_markInt64S] (frA 0 args) σ = some r) : ev fns i_laws_markInt64S args σ = some r := ev_go n_laws_markInt64S rfl hl h
theorem l_laws_markInt64S_0 {ks : List KI} {l : Fr} {σ : List AObj} {n0 : Nat} : rE fns fa_laws_markInt64S n0 (.code lo_laws_markInt64S_0 :: ks) l σ = rE fns fa_laws_markInt64S n0 (.code lb_laws_markInt64S_0 :: .code lo_laws_markInt64S_0 :: ks) l σ := rE_loop
@[simp] theorem nt_laws_markBoolS : fa_laws_markBoolS.nt = 21 := rfl
@[simp] theorem rs_laws_markBoolS : fa_laws_markBoolS.rs = [.tmp 4] := rfl
@[simp] theorem fz_laws_markBoolS : fa_laws_markBoolS.fz = false := rfl
@[simp] theorem rsh_laws_markBoolS : fa_laws_markBoolS.rsh = .any := rfl
theorem go_laws_markBoolS {args : List PV} {σ : List AObj} {r : PV × List AObj} (hl : args.length ≤ 21) (h : rE fns fa_laws_markBoolS σ.length [.code ac_laws_markBoolS] (frA 0 args) σ = some r) : ev fns i_laws_markBoolS args σ = some r := ev_go n_laws_markBoolS rfl hl h
theorem l_laws_markBoolS_0 {ks : List KI} {l : Fr} {σ : List AObj} {n0 : Nat} : rE fns fa_laws_markBoolS n0 (.code lo_laws_markBoolS_0 :: ks) l σ = rE fns fa_laws_markBoolS n0 (.code lb_laws_markBoolS_0 :: .code lo_laws_markBoolS_0 :: ks) l σ := rE_loop
@[simp] theorem nt_laws_markPushS : fa_laws_markPushS.nt = 27 := rfl
@[simp] theorem rs_laws_markPushS : fa_laws_markPushS.rs = [.tmp 4] := rfl
@[simp] theorem fz_laws_markPushS : fa_laws_markPushS.fz = false := rfl
@[simp] theorem rsh_laws_markPushS : fa_laws_markPushS.rsh = .any := rfl
theorem go_laws_markPushS {args : List PV} {σ : List AObj} {r : PV × List AObj} (hl : args.length ≤ 27) (h : rE fns fa_laws_markPushS σ.length [.code ac_laws_markPushS] (frA 0 args) σ = some r) : ev fns i_laws_markPushS args σ = some r := ev_go n_laws_markPushS rfl hl h
theorem l_laws_markPushS_0 {ks : List KI} {l : Fr} {σ : List AObj} {n0 : Nat} : rE fns fa_laws_markPushS n0 (.code lo_laws_markPushS_0 :: ks) l σ = rE fns fa_laws_markPushS n0 (.code lb_laws_markPushS_0 :: .code lo_laws_markPushS_0 :: ks) l σ := rE_loop
@[simp] theorem nt_laws_markPushSS : fa_laws_markPushSS.nt = 19 := rfl
@[simp] theorem rs_laws_markPushSS : fa_laws_markPushSS.rs = [.tmp 4] := rfl
@[simp] theorem fz_laws_markPushSS : fa_laws_markPushSS.fz = false := rfl
@[simp] theorem rsh_laws_markPushSS : fa_laws_markPushSS.rsh = .any := rfl
theorem go_laws_markPushSS {args : List PV} {σ : List AObj} {r : PV × List AObj} (hl : args.length ≤ 19) (h : rE fns fa_laws_markPushSS σ.length [.code ac_laws_markPushSS] (frA 0 args) σ = some r) : ev fns i_laws_markPushSS args σ = some r := ev_go n_laws_markPushSS rfl hl h
theorem l_laws_markPushSS_0 {ks : List KI} {l : Fr} {σ : List AObj} {n0 : Nat} : rE fns fa_laws_markPushSS n0 (.code lo_laws_markPushSS_0 :: ks) l σ = rE fns fa_laws_markPushSS n0 (.code lb_laws_markPushSS_0 :: .code lo_laws_markPushSS_0 :: ks) l σ := rE_loop
@[simp] theorem nt_laws_markPushSSS : fa_laws_markPushSSS.nt = 19 := rfl
@[simp] theorem rs_laws_markPushSSS : fa_laws_markPushSSS.rs = [.tmp 4] := rfl
@[simp] theorem fz_laws_markPushSSS : fa_laws_markPushSSS.fz = false := rfl
@[simp] theorem rsh_laws_markPushSSS : fa_laws_markPushSSS.rsh = .any := rfl
theorem go_laws_markPushSSS {args : List PV} {σ : List AObj} {r : PV × List AObj} (hl : args.length ≤ 19) (h : rE fns fa_laws_markPushSSS σ.length [.code ac_laws_markPushSSS] (frA 0 args) σ = some r) : ev fns i_laws_markPushSSS args σ = some r := ev_go n_laws_markPushSSS rfl hl h
theorem l_laws_markPushSSS_0 {ks : List KI} {l : Fr} {σ : List AObj} {n0 : Nat} : rE fns fa_laws_markPushSSS n0 (.code lo_laws_markPushSSS_0 :: ks) l σ = rE fns fa_laws_markPushSSS n0 (.code lb_laws_markPushSSS_0 :: .code lo_laws_markPushSSS_0 :: ks) l σ := rE_loop
@[simp] theorem nt_laws_markInt64SS : fa_laws_markInt64SS.nt = 19 := rfl
@[simp] theorem rs_laws_markInt64SS : fa_laws_markInt64SS.rs = [.tmp 4] := rfl
@[simp] theorem fz_laws_markInt64SS : fa_laws_markInt64SS.fz = false := rfl
@[simp] theorem rsh_laws_markInt64SS : fa_laws_markInt64SS.rsh = .any := rfl
theorem go_laws_markInt64SS {args : List PV} {σ : List AObj} {r : PV × List AObj} (hl : args.length ≤ 19) (h : rE fns fa_laws_markInt64SS σ.length [.code ac_laws_markInt64SS] (frA 0 args) σ = some r) : ev fns i_laws_markInt64SS args σ = some r := ev_go n_laws_markInt64SS rfl hl h
theorem l_laws_markInt64SS_0 {ks : List KI} {l : Fr} {σ : List AObj} {n0 : Nat} : rE fns fa_laws_markInt64SS n0 (.code lo_laws_markInt64SS_0 :: ks) l σ = rE fns fa_laws_markInt64SS n0 (.code lb_laws_markInt64SS_0 :: .code lo_laws_markInt64SS_0 :: ks) l σ := rE_loop
@[simp] theorem nt_laws_markInt64SSS : fa_laws_markInt64SSS.nt = 19 := rfl
@[simp] theorem rs_laws_markInt64SSS : fa_laws_markInt64SSS.rs = [.tmp 4] := rfl
@[simp] theorem fz_laws_markInt64SSS : fa_laws_markInt64SSS.fz = false := rfl
@[simp] theorem rsh_laws_markInt64SSS : fa_laws_markInt64SSS.rsh = .any := rfl
theorem go_laws_markInt64SSS {args : List PV} {σ : List AObj} {r : PV × List AObj} (hl : args.length ≤ 19) (h : rE fns fa_laws_markInt64SSS σ.length [.code ac_laws_markInt64SSS] (frA 0 args) σ = some r) : ev fns i_laws_markInt64SSS args σ = some r := ev_go n_laws_markInt64SSS rfl hl h
theorem l_laws_markInt64SSS_0 {ks : List KI} {l : Fr} {σ : List AObj} {n0 : Nat} : rE fns fa_laws_markInt64SSS n0 (.code lo_laws_markInt64SSS_0 :: ks) l σ = rE fns fa_laws_markInt64SSS n0 (.code lb_laws_markInt64SSS_0 :: .code lo_laws_markInt64SSS_0 :: ks) l σ := rE_loop
@[simp] theorem nt_laws_markInt64SSSS : fa_laws_markInt64SSSS.nt = 19 := rfl
@[simp] theorem rs_laws_markInt64SSSS : fa_laws_markInt64SSSS.rs = [.tmp 4] := rfl
@[simp] theorem fz_laws_markInt64SSSS : fa_laws_markInt64SSSS.fz = false := rfl
@[simp] theorem rsh_laws_markInt64SSSS : fa_laws_markInt64SSSS.rsh = .any := rfl
theorem go_laws_markInt64SSSS {args : List PV} {σ : List AObj} {r : PV × List AObj} (hl : args.length ≤ 19) (h : rE fns fa_laws_markInt64SSSS σ.length [.code ac_laws_markInt64SSSS] (frA 0 args) σ = some r) : ev fns i_laws_markInt64SSSS args σ = some r := ev_go n_laws_markInt64SSSS rfl hl h
theorem l_laws_markInt64SSSS_0 {ks : List KI} {l : Fr} {σ : List AObj} {n0 : Nat} : rE fns fa_laws_markInt64SSSS n0 (.code lo_laws_markInt64SSSS_0 :: ks) l σ = rE fns fa_laws_markInt64SSSS n0 (.code lb_laws_markInt64SSSS_0 :: .code lo_laws_markInt64SSSS_0 :: ks) l σ := rE_loop
@[simp] theorem nt_laws_markChoices : fa_laws_markChoices.nt = 26 := rfl
@[simp] theorem rs_laws_markChoices : fa_laws_markChoices.rs = [.tmp 4] := rfl
@[simp] theorem fz_laws_markChoices : fa_laws_markChoices.fz = false := rfl
@[simp] theorem rsh_laws_markChoices : fa_laws_markChoices.rsh = .any := rfl
theorem go_laws_markChoices {args : List PV} {σ : List AObj} {r : PV × List AObj} (hl : args.length ≤ 26) (h : rE fns fa_laws_markChoices σ.length [.code ac_laws_markChoices] (frA 0 args) σ = some r) : ev fns i_laws_markChoices args σ = some r := ev_go n_laws_markChoices rfl hl h
@[simp] theorem nt_laws_heldInt64S : fa_laws_heldInt64S.nt = 21 := rfl
@[simp] theorem rs_laws_heldInt64S : fa_laws_heldInt64S.rs = [.tmp 4] := rfl
@[simp] theorem fz_laws_heldInt64S : fa_laws_heldInt64S.fz = true := rfl
@[simp] theorem rsh_laws_heldInt64S : fa_laws_heldInt64S.rsh = .any := rfl
theorem go_laws_heldInt64S {args : List PV} {σ : List AObj} {r : PV × List AObj} (hl : args.length ≤ 21) (h : rE fns fa_laws_heldInt64S σ.length [.code ac_laws_heldInt64S] (frA 0 args) σ = some r) : ev fns i_laws_heldInt64S args σ = some r := ev_go n_laws_heldInt64S rfl hl h
theorem l_laws_heldInt64S_0 {ks : List KI} {l : Fr} {σ : List AObj} {n0 : Nat} : rE fns fa_laws_heldInt64S n0 (.code lo_laws_heldInt64S_0 :: ks) l σ = rE fns fa_laws_heldInt64S n0 (.code lb_laws_heldInt64S_0 :: .code lo_laws_heldInt64S_0 :: ks) l σ := rE_loop
@[simp] theorem nt_laws_heldInt64SS : fa_laws_heldInt64SS.nt = 21 := rfl
@[simp] theorem rs_laws_heldInt64SS : fa_laws_heldInt64SS.rs = [.tmp 4] := rfl
@[simp] theorem fz_laws_heldInt64SS : fa_laws_heldInt64SS.fz = true := rfl
@[simp] theorem rsh_laws_heldInt64SS : fa_laws_heldInt64SS.rsh = .any := rfl
theorem go_laws_heldInt64SS {args : List PV} {σ : List AObj} {r : PV × List AObj} (hl : args.length ≤ 21) (h : rE fns fa_laws_heldInt64SS σ.length [.code ac_laws_heldInt64SS] (frA 0 args) σ = some r) : ev fns i_laws_heldInt64SS args σ = some r := ev_go n_laws_heldInt64SS rfl hl h
theorem l_laws_heldInt64SS_0 {ks : List KI} {l : Fr} {σ : List AObj} {n0 : Nat} : rE fns fa_laws_heldInt64SS n0 (.code lo_laws_heldInt64SS_0 :: ks) l σ = rE fns fa_laws_heldInt64SS n0 (.code lb_laws_heldInt64SS_0 :: .code lo_laws_heldInt64SS_0 :: ks) l σ := rE_loop
@[simp] theorem nt_laws_FnExactPairsOf : fa_laws_FnExactPairsOf.nt = 104 := rfl
@[simp] theorem rs_laws_FnExactPairsOf : fa_laws_FnExactPairsOf.rs = [.tmp 4] := rfl
@[simp] theorem fz_laws_FnExactPairsOf : fa_laws_FnExactPairsOf.fz = true := rfl
@[simp] theorem rsh_laws_FnExactPairsOf : fa_laws_FnExactPairsOf.rsh = .any := rfl
theorem go_laws_FnExactPairsOf {args : List PV} {σ : List AObj} {r : PV × List AObj} (hl : args.length ≤ 104) (h : rE fns fa_laws_FnExactPairsOf σ.length [.code ac_laws_FnExactPairsOf] (frA 0 args) σ = some r) : ev fns i_laws_FnExactPairsOf args σ = some r := ev_go n_laws_FnExactPairsOf rfl hl h
end Go.Proofs.YtipmgemnjcjobaaGreat
