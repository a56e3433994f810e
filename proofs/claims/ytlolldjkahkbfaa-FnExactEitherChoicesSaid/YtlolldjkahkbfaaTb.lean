/- The table of all functions; printed by a program (gen2.py). -/
import Derived.Test.YtlolldjkahkbfaaAw30
import Derived.Test.YtlolldjkahkbfaaG0
import Derived.Test.YtlolldjkahkbfaaG1
set_option linter.unusedVariables false
set_option maxRecDepth 100000
namespace Go.Proofs.Ytlolldjkahkbfaa
open Aw
def tbl : List (FnE Try.prog) := [⟨i_laws_szInt64S, fa_laws_szInt64S, cf_laws_szInt64S⟩,
  ⟨i_laws_szBoolS, fa_laws_szBoolS, cf_laws_szBoolS⟩,
  ⟨i_laws_szPushS, fa_laws_szPushS, cf_laws_szPushS⟩,
  ⟨i_laws_szPushSS, fa_laws_szPushSS, cf_laws_szPushSS⟩,
  ⟨i_laws_szPushSSS, fa_laws_szPushSSS, cf_laws_szPushSSS⟩,
  ⟨i_laws_szInt64SS, fa_laws_szInt64SS, cf_laws_szInt64SS⟩,
  ⟨i_laws_szInt64SSS, fa_laws_szInt64SSS, cf_laws_szInt64SSS⟩,
  ⟨i_laws_szInt64SSSS, fa_laws_szInt64SSSS, cf_laws_szInt64SSSS⟩,
  ⟨i_laws_szChoices, fa_laws_szChoices, cf_laws_szChoices⟩,
  ⟨i_spec_l00In, fa_spec_l00In, cf_spec_l00In⟩,
  ⟨i_spec_l00Rises, fa_spec_l00Rises, cf_spec_l00Rises⟩,
  ⟨i_spec_l03Pushes, fa_spec_l03Pushes, cf_spec_l03Pushes⟩,
  ⟨i_spec_l03Ok, fa_spec_l03Ok, cf_spec_l03Ok⟩,
  ⟨i_spec_l03Raised, fa_spec_l03Raised, cf_spec_l03Raised⟩,
  ⟨i_spec_l03Part, fa_spec_l03Part, cf_spec_l03Part⟩,
  ⟨i_spec_l03Told, fa_spec_l03Told, cf_spec_l03Told⟩,
  ⟨i_spec_EitherChoices, fa_spec_EitherChoices, cf_spec_EitherChoices⟩,
  ⟨i_laws_toInt64S, fa_laws_toInt64S, cf_laws_toInt64S⟩,
  ⟨i_laws_toBoolS, fa_laws_toBoolS, cf_laws_toBoolS⟩,
  ⟨i_laws_toPush, fa_laws_toPush, cf_laws_toPush⟩,
  ⟨i_laws_toPushS, fa_laws_toPushS, cf_laws_toPushS⟩,
  ⟨i_laws_toPushSS, fa_laws_toPushSS, cf_laws_toPushSS⟩,
  ⟨i_laws_toPushSSS, fa_laws_toPushSSS, cf_laws_toPushSSS⟩,
  ⟨i_laws_toInt64SS, fa_laws_toInt64SS, cf_laws_toInt64SS⟩,
  ⟨i_laws_toInt64SSS, fa_laws_toInt64SSS, cf_laws_toInt64SSS⟩,
  ⟨i_laws_toInt64SSSS, fa_laws_toInt64SSSS, cf_laws_toInt64SSSS⟩,
  ⟨i_laws_toChoices, fa_laws_toChoices, cf_laws_toChoices⟩,
  ⟨i_impl_within, fa_impl_within, cf_impl_within⟩,
  ⟨i_impl_size_bool, fa_impl_size_bool, cf_impl_size_bool⟩,
  ⟨i_impl_size_L_L_int64, fa_impl_size_L_L_int64, cf_impl_size_L_L_int64⟩,
  ⟨i_impl_size_L_int64, fa_impl_size_L_int64, cf_impl_size_L_int64⟩,
  ⟨i_impl_isRising, fa_impl_isRising, cf_impl_isRising⟩,
  ⟨i_impl_size_L_L_impl_Push, fa_impl_size_L_L_impl_Push, cf_impl_size_L_L_impl_Push⟩,
  ⟨i_impl_size_L_L_L_int64, fa_impl_size_L_L_L_int64, cf_impl_size_L_L_L_int64⟩,
  ⟨i_cmp_Or_int, fa_cmp_Or_int, cf_cmp_Or_int⟩,
  ⟨i_cmp_isNaN_int64, fa_cmp_isNaN_int64, cf_cmp_isNaN_int64⟩,
  ⟨i_cmp_Compare_int64, fa_cmp_Compare_int64, cf_cmp_Compare_int64⟩,
  ⟨i_impl_comparePushes, fa_impl_comparePushes, cf_impl_comparePushes⟩,
  ⟨i_slices_IndexFunc_L_L_int64, fa_slices_IndexFunc_L_L_int64, cf_slices_IndexFunc_L_L_int64⟩,
  ⟨i_slices_ContainsFunc_L_L_int64, fa_slices_ContainsFunc_L_L_int64, cf_slices_ContainsFunc_L_L_int64⟩,
  ⟨i_impl_ValidChoices_1, fa_impl_ValidChoices_1, cf_impl_ValidChoices_1⟩,
  ⟨i_impl_ValidChoices, fa_impl_ValidChoices, cf_impl_ValidChoices⟩,
  ⟨i_impl_raised, fa_impl_raised, cf_impl_raised⟩,
  ⟨i_impl_EitherChoices_1, fa_impl_EitherChoices_1, cf_impl_EitherChoices_1⟩,
  ⟨i_impl_choicesOrLimit, fa_impl_choicesOrLimit, cf_impl_choicesOrLimit⟩,
  ⟨i_impl_EitherChoices, fa_impl_EitherChoices, cf_impl_EitherChoices⟩,
  ⟨i_laws_eqInt64S, fa_laws_eqInt64S, cf_laws_eqInt64S⟩,
  ⟨i_laws_eqBoolS, fa_laws_eqBoolS, cf_laws_eqBoolS⟩,
  ⟨i_laws_eqPush, fa_laws_eqPush, cf_laws_eqPush⟩,
  ⟨i_laws_eqPushS, fa_laws_eqPushS, cf_laws_eqPushS⟩,
  ⟨i_laws_eqPushSS, fa_laws_eqPushSS, cf_laws_eqPushSS⟩,
  ⟨i_laws_eqPushSSS, fa_laws_eqPushSSS, cf_laws_eqPushSSS⟩,
  ⟨i_laws_eqInt64SS, fa_laws_eqInt64SS, cf_laws_eqInt64SS⟩,
  ⟨i_laws_eqInt64SSS, fa_laws_eqInt64SSS, cf_laws_eqInt64SSS⟩,
  ⟨i_laws_eqInt64SSSS, fa_laws_eqInt64SSSS, cf_laws_eqInt64SSSS⟩,
  ⟨i_laws_eqChoices, fa_laws_eqChoices, cf_laws_eqChoices⟩,
  ⟨i_laws_markInt64S, fa_laws_markInt64S, cf_laws_markInt64S⟩,
  ⟨i_laws_markBoolS, fa_laws_markBoolS, cf_laws_markBoolS⟩,
  ⟨i_laws_markPushS, fa_laws_markPushS, cf_laws_markPushS⟩,
  ⟨i_laws_markPushSS, fa_laws_markPushSS, cf_laws_markPushSS⟩,
  ⟨i_laws_markPushSSS, fa_laws_markPushSSS, cf_laws_markPushSSS⟩,
  ⟨i_laws_markInt64SS, fa_laws_markInt64SS, cf_laws_markInt64SS⟩,
  ⟨i_laws_markInt64SSS, fa_laws_markInt64SSS, cf_laws_markInt64SSS⟩,
  ⟨i_laws_markInt64SSSS, fa_laws_markInt64SSSS, cf_laws_markInt64SSSS⟩,
  ⟨i_laws_markChoices, fa_laws_markChoices, cf_laws_markChoices⟩,
  ⟨i_laws_heldInt64S, fa_laws_heldInt64S, cf_laws_heldInt64S⟩,
  ⟨i_laws_heldBoolS, fa_laws_heldBoolS, cf_laws_heldBoolS⟩,
  ⟨i_laws_heldPushS, fa_laws_heldPushS, cf_laws_heldPushS⟩,
  ⟨i_laws_heldPushSS, fa_laws_heldPushSS, cf_laws_heldPushSS⟩,
  ⟨i_laws_heldPushSSS, fa_laws_heldPushSSS, cf_laws_heldPushSSS⟩,
  ⟨i_laws_heldInt64SS, fa_laws_heldInt64SS, cf_laws_heldInt64SS⟩,
  ⟨i_laws_heldInt64SSS, fa_laws_heldInt64SSS, cf_laws_heldInt64SSS⟩,
  ⟨i_laws_heldInt64SSSS, fa_laws_heldInt64SSSS, cf_laws_heldInt64SSSS⟩,
  ⟨i_laws_heldChoices, fa_laws_heldChoices, cf_laws_heldChoices⟩,
  ⟨i_laws_FnExactEitherChoices, fa_laws_FnExactEitherChoices, cf_laws_FnExactEitherChoices⟩]
def fns : Fns := fnsOf tbl
theorem fnsOk : FnsOk Try.prog fns := fnsOf_ok tbl
theorem n_laws_szInt64S : fns i_laws_szInt64S = some fa_laws_szInt64S := rfl
@[simp] theorem c_laws_szInt64S (args : List PV) (σ : List AObj) : callM fns (ev fns) i_laws_szInt64S args σ = callN fns i_laws_szInt64S args σ := callM_np n_laws_szInt64S rfl rfl
theorem n_laws_szBoolS : fns i_laws_szBoolS = some fa_laws_szBoolS := rfl
@[simp] theorem c_laws_szBoolS (args : List PV) (σ : List AObj) : callM fns (ev fns) i_laws_szBoolS args σ = callN fns i_laws_szBoolS args σ := callM_np n_laws_szBoolS rfl rfl
theorem n_laws_szPushS : fns i_laws_szPushS = some fa_laws_szPushS := rfl
@[simp] theorem c_laws_szPushS (args : List PV) (σ : List AObj) : callM fns (ev fns) i_laws_szPushS args σ = callN fns i_laws_szPushS args σ := callM_np n_laws_szPushS rfl rfl
theorem n_laws_szPushSS : fns i_laws_szPushSS = some fa_laws_szPushSS := rfl
@[simp] theorem c_laws_szPushSS (args : List PV) (σ : List AObj) : callM fns (ev fns) i_laws_szPushSS args σ = callN fns i_laws_szPushSS args σ := callM_np n_laws_szPushSS rfl rfl
theorem n_laws_szPushSSS : fns i_laws_szPushSSS = some fa_laws_szPushSSS := rfl
@[simp] theorem c_laws_szPushSSS (args : List PV) (σ : List AObj) : callM fns (ev fns) i_laws_szPushSSS args σ = callN fns i_laws_szPushSSS args σ := callM_np n_laws_szPushSSS rfl rfl
theorem n_laws_szInt64SS : fns i_laws_szInt64SS = some fa_laws_szInt64SS := rfl
@[simp] theorem c_laws_szInt64SS (args : List PV) (σ : List AObj) : callM fns (ev fns) i_laws_szInt64SS args σ = callN fns i_laws_szInt64SS args σ := callM_np n_laws_szInt64SS rfl rfl
theorem n_laws_szInt64SSS : fns i_laws_szInt64SSS = some fa_laws_szInt64SSS := rfl
@[simp] theorem c_laws_szInt64SSS (args : List PV) (σ : List AObj) : callM fns (ev fns) i_laws_szInt64SSS args σ = callN fns i_laws_szInt64SSS args σ := callM_np n_laws_szInt64SSS rfl rfl
theorem n_laws_szInt64SSSS : fns i_laws_szInt64SSSS = some fa_laws_szInt64SSSS := rfl
@[simp] theorem c_laws_szInt64SSSS (args : List PV) (σ : List AObj) : callM fns (ev fns) i_laws_szInt64SSSS args σ = callN fns i_laws_szInt64SSSS args σ := callM_np n_laws_szInt64SSSS rfl rfl
theorem n_laws_szChoices : fns i_laws_szChoices = some fa_laws_szChoices := rfl
@[simp] theorem c_laws_szChoices (args : List PV) (σ : List AObj) : callM fns (ev fns) i_laws_szChoices args σ = callN fns i_laws_szChoices args σ := callM_np n_laws_szChoices rfl rfl
theorem n_spec_l00In : fns i_spec_l00In = some fa_spec_l00In := rfl
@[simp] theorem c_spec_l00In (args : List PV) (σ : List AObj) : callM fns (ev fns) i_spec_l00In args σ = callN fns i_spec_l00In args σ := callM_np n_spec_l00In rfl rfl
theorem n_spec_l00Rises : fns i_spec_l00Rises = some fa_spec_l00Rises := rfl
@[simp] theorem c_spec_l00Rises (args : List PV) (σ : List AObj) : callM fns (ev fns) i_spec_l00Rises args σ = callN fns i_spec_l00Rises args σ := callM_np n_spec_l00Rises rfl rfl
theorem n_spec_l03Pushes : fns i_spec_l03Pushes = some fa_spec_l03Pushes := rfl
@[simp] theorem c_spec_l03Pushes (args : List PV) (σ : List AObj) : callM fns (ev fns) i_spec_l03Pushes args σ = callN fns i_spec_l03Pushes args σ := callM_np n_spec_l03Pushes rfl rfl
theorem n_spec_l03Ok : fns i_spec_l03Ok = some fa_spec_l03Ok := rfl
@[simp] theorem c_spec_l03Ok (args : List PV) (σ : List AObj) : callM fns (ev fns) i_spec_l03Ok args σ = callT fns [(.fp [.any, (.lst 1 .any), (.lst 1 .any), (.lst 1 (.lst 1 (.lst 2 .any))), (.lst 1 (.lst 1 (.lst 1 (.lst 1 .any)))), (.lst 1 (.lst 1 (.lst 1 .any)))])] i_spec_l03Ok args σ := callM_ty n_spec_l03Ok rfl
theorem n_spec_l03Raised : fns i_spec_l03Raised = some fa_spec_l03Raised := rfl
@[simp] theorem c_spec_l03Raised (args : List PV) (σ : List AObj) : callM fns (ev fns) i_spec_l03Raised args σ = callN fns i_spec_l03Raised args σ := callM_np n_spec_l03Raised rfl rfl
theorem n_spec_l03Part : fns i_spec_l03Part = some fa_spec_l03Part := rfl
@[simp] theorem c_spec_l03Part (args : List PV) (σ : List AObj) : callM fns (ev fns) i_spec_l03Part args σ = ev fns i_spec_l03Part args σ := by simp [callM, n_spec_l03Part, fa_spec_l03Part]
theorem n_spec_l03Told : fns i_spec_l03Told = some fa_spec_l03Told := rfl
@[simp] theorem c_spec_l03Told (args : List PV) (σ : List AObj) : callM fns (ev fns) i_spec_l03Told args σ = ev fns i_spec_l03Told args σ := by simp [callM, n_spec_l03Told, fa_spec_l03Told]
theorem n_spec_EitherChoices : fns i_spec_EitherChoices = some fa_spec_EitherChoices := rfl
@[simp] theorem c_spec_EitherChoices (args : List PV) (σ : List AObj) : callM fns (ev fns) i_spec_EitherChoices args σ = callT fns [(.agg [.any, (.lst 1 .any), (.lst 1 .any), (.lst 1 (.lst 1 (.lst 2 .any))), (.lst 1 (.lst 1 (.lst 1 (.lst 1 .any)))), (.lst 1 (.lst 1 (.lst 1 .any)))]), (.agg [.any, (.lst 1 .any), (.lst 1 .any), (.lst 1 (.lst 1 (.lst 2 .any))), (.lst 1 (.lst 1 (.lst 1 (.lst 1 .any)))), (.lst 1 (.lst 1 (.lst 1 .any)))])] i_spec_EitherChoices args σ := callM_ty n_spec_EitherChoices rfl
theorem n_laws_toInt64S : fns i_laws_toInt64S = some fa_laws_toInt64S := rfl
@[simp] theorem c_laws_toInt64S (args : List PV) (σ : List AObj) : callM fns (ev fns) i_laws_toInt64S args σ = callN fns i_laws_toInt64S args σ := callM_np n_laws_toInt64S rfl rfl
theorem n_laws_toBoolS : fns i_laws_toBoolS = some fa_laws_toBoolS := rfl
@[simp] theorem c_laws_toBoolS (args : List PV) (σ : List AObj) : callM fns (ev fns) i_laws_toBoolS args σ = callN fns i_laws_toBoolS args σ := callM_np n_laws_toBoolS rfl rfl
theorem n_laws_toPush : fns i_laws_toPush = some fa_laws_toPush := rfl
@[simp] theorem c_laws_toPush (args : List PV) (σ : List AObj) : callM fns (ev fns) i_laws_toPush args σ = callN fns i_laws_toPush args σ := callM_np n_laws_toPush rfl rfl
theorem n_laws_toPushS : fns i_laws_toPushS = some fa_laws_toPushS := rfl
@[simp] theorem c_laws_toPushS (args : List PV) (σ : List AObj) : callM fns (ev fns) i_laws_toPushS args σ = callN fns i_laws_toPushS args σ := callM_np n_laws_toPushS rfl rfl
theorem n_laws_toPushSS : fns i_laws_toPushSS = some fa_laws_toPushSS := rfl
@[simp] theorem c_laws_toPushSS (args : List PV) (σ : List AObj) : callM fns (ev fns) i_laws_toPushSS args σ = callN fns i_laws_toPushSS args σ := callM_np n_laws_toPushSS rfl rfl
theorem n_laws_toPushSSS : fns i_laws_toPushSSS = some fa_laws_toPushSSS := rfl
@[simp] theorem c_laws_toPushSSS (args : List PV) (σ : List AObj) : callM fns (ev fns) i_laws_toPushSSS args σ = callN fns i_laws_toPushSSS args σ := callM_np n_laws_toPushSSS rfl rfl
theorem n_laws_toInt64SS : fns i_laws_toInt64SS = some fa_laws_toInt64SS := rfl
@[simp] theorem c_laws_toInt64SS (args : List PV) (σ : List AObj) : callM fns (ev fns) i_laws_toInt64SS args σ = callN fns i_laws_toInt64SS args σ := callM_np n_laws_toInt64SS rfl rfl
theorem n_laws_toInt64SSS : fns i_laws_toInt64SSS = some fa_laws_toInt64SSS := rfl
@[simp] theorem c_laws_toInt64SSS (args : List PV) (σ : List AObj) : callM fns (ev fns) i_laws_toInt64SSS args σ = callN fns i_laws_toInt64SSS args σ := callM_np n_laws_toInt64SSS rfl rfl
theorem n_laws_toInt64SSSS : fns i_laws_toInt64SSSS = some fa_laws_toInt64SSSS := rfl
@[simp] theorem c_laws_toInt64SSSS (args : List PV) (σ : List AObj) : callM fns (ev fns) i_laws_toInt64SSSS args σ = callN fns i_laws_toInt64SSSS args σ := callM_np n_laws_toInt64SSSS rfl rfl
theorem n_laws_toChoices : fns i_laws_toChoices = some fa_laws_toChoices := rfl
@[simp] theorem c_laws_toChoices (args : List PV) (σ : List AObj) : callM fns (ev fns) i_laws_toChoices args σ = callN fns i_laws_toChoices args σ := callM_np n_laws_toChoices rfl rfl
theorem n_impl_within : fns i_impl_within = some fa_impl_within := rfl
@[simp] theorem c_impl_within (args : List PV) (σ : List AObj) : callM fns (ev fns) i_impl_within args σ = callN fns i_impl_within args σ := callM_np n_impl_within rfl rfl
theorem n_impl_size_bool : fns i_impl_size_bool = some fa_impl_size_bool := rfl
@[simp] theorem c_impl_size_bool (args : List PV) (σ : List AObj) : callM fns (ev fns) i_impl_size_bool args σ = callN fns i_impl_size_bool args σ := callM_np n_impl_size_bool rfl rfl
theorem n_impl_size_L_L_int64 : fns i_impl_size_L_L_int64 = some fa_impl_size_L_L_int64 := rfl
@[simp] theorem c_impl_size_L_L_int64 (args : List PV) (σ : List AObj) : callM fns (ev fns) i_impl_size_L_L_int64 args σ = callN fns i_impl_size_L_L_int64 args σ := callM_np n_impl_size_L_L_int64 rfl rfl
theorem n_impl_size_L_int64 : fns i_impl_size_L_int64 = some fa_impl_size_L_int64 := rfl
@[simp] theorem c_impl_size_L_int64 (args : List PV) (σ : List AObj) : callM fns (ev fns) i_impl_size_L_int64 args σ = callN fns i_impl_size_L_int64 args σ := callM_np n_impl_size_L_int64 rfl rfl
theorem n_impl_isRising : fns i_impl_isRising = some fa_impl_isRising := rfl
@[simp] theorem c_impl_isRising (args : List PV) (σ : List AObj) : callM fns (ev fns) i_impl_isRising args σ = callN fns i_impl_isRising args σ := callM_np n_impl_isRising rfl rfl
theorem n_impl_size_L_L_impl_Push : fns i_impl_size_L_L_impl_Push = some fa_impl_size_L_L_impl_Push := rfl
@[simp] theorem c_impl_size_L_L_impl_Push (args : List PV) (σ : List AObj) : callM fns (ev fns) i_impl_size_L_L_impl_Push args σ = callN fns i_impl_size_L_L_impl_Push args σ := callM_np n_impl_size_L_L_impl_Push rfl rfl
theorem n_impl_size_L_L_L_int64 : fns i_impl_size_L_L_L_int64 = some fa_impl_size_L_L_L_int64 := rfl
@[simp] theorem c_impl_size_L_L_L_int64 (args : List PV) (σ : List AObj) : callM fns (ev fns) i_impl_size_L_L_L_int64 args σ = callN fns i_impl_size_L_L_L_int64 args σ := callM_np n_impl_size_L_L_L_int64 rfl rfl
theorem n_cmp_Or_int : fns i_cmp_Or_int = some fa_cmp_Or_int := rfl
@[simp] theorem c_cmp_Or_int (args : List PV) (σ : List AObj) : callM fns (ev fns) i_cmp_Or_int args σ = callN fns i_cmp_Or_int args σ := callM_np n_cmp_Or_int rfl rfl
theorem n_cmp_isNaN_int64 : fns i_cmp_isNaN_int64 = some fa_cmp_isNaN_int64 := rfl
@[simp] theorem c_cmp_isNaN_int64 (args : List PV) (σ : List AObj) : callM fns (ev fns) i_cmp_isNaN_int64 args σ = callN fns i_cmp_isNaN_int64 args σ := callM_np n_cmp_isNaN_int64 rfl rfl
theorem n_cmp_Compare_int64 : fns i_cmp_Compare_int64 = some fa_cmp_Compare_int64 := rfl
@[simp] theorem c_cmp_Compare_int64 (args : List PV) (σ : List AObj) : callM fns (ev fns) i_cmp_Compare_int64 args σ = callN fns i_cmp_Compare_int64 args σ := callM_np n_cmp_Compare_int64 rfl rfl
theorem n_impl_comparePushes : fns i_impl_comparePushes = some fa_impl_comparePushes := rfl
@[simp] theorem c_impl_comparePushes (args : List PV) (σ : List AObj) : callM fns (ev fns) i_impl_comparePushes args σ = callN fns i_impl_comparePushes args σ := callM_np n_impl_comparePushes rfl rfl
theorem n_slices_IndexFunc_L_L_int64 : fns i_slices_IndexFunc_L_L_int64 = some fa_slices_IndexFunc_L_L_int64 := rfl
@[simp] theorem c_slices_IndexFunc_L_L_int64 (args : List PV) (σ : List AObj) : callM fns (ev fns) i_slices_IndexFunc_L_L_int64 args σ = callN fns i_slices_IndexFunc_L_L_int64 args σ := callM_np n_slices_IndexFunc_L_L_int64 rfl rfl
theorem n_slices_ContainsFunc_L_L_int64 : fns i_slices_ContainsFunc_L_L_int64 = some fa_slices_ContainsFunc_L_L_int64 := rfl
@[simp] theorem c_slices_ContainsFunc_L_L_int64 (args : List PV) (σ : List AObj) : callM fns (ev fns) i_slices_ContainsFunc_L_L_int64 args σ = callN fns i_slices_ContainsFunc_L_L_int64 args σ := callM_np n_slices_ContainsFunc_L_L_int64 rfl rfl
theorem n_impl_ValidChoices_1 : fns i_impl_ValidChoices_1 = some fa_impl_ValidChoices_1 := rfl
@[simp] theorem c_impl_ValidChoices_1 (args : List PV) (σ : List AObj) : callM fns (ev fns) i_impl_ValidChoices_1 args σ = callN fns i_impl_ValidChoices_1 args σ := callM_np n_impl_ValidChoices_1 rfl rfl
theorem n_impl_ValidChoices : fns i_impl_ValidChoices = some fa_impl_ValidChoices := rfl
@[simp] theorem c_impl_ValidChoices (args : List PV) (σ : List AObj) : callM fns (ev fns) i_impl_ValidChoices args σ = callT fns [(.agg [.any, (.lst 1 .any), (.lst 1 .any), (.lst 1 (.lst 1 (.lst 2 .any))), (.lst 1 (.lst 1 (.lst 1 (.lst 1 .any)))), (.lst 1 (.lst 1 (.lst 1 .any)))])] i_impl_ValidChoices args σ := callM_ty n_impl_ValidChoices rfl
theorem n_impl_raised : fns i_impl_raised = some fa_impl_raised := rfl
@[simp] theorem c_impl_raised (args : List PV) (σ : List AObj) : callM fns (ev fns) i_impl_raised args σ = callN fns i_impl_raised args σ := callM_np n_impl_raised rfl rfl
theorem n_impl_EitherChoices_1 : fns i_impl_EitherChoices_1 = some fa_impl_EitherChoices_1 := rfl
@[simp] theorem c_impl_EitherChoices_1 (args : List PV) (σ : List AObj) : callM fns (ev fns) i_impl_EitherChoices_1 args σ = ev fns i_impl_EitherChoices_1 args σ := by simp [callM, n_impl_EitherChoices_1, fa_impl_EitherChoices_1]
theorem n_impl_choicesOrLimit : fns i_impl_choicesOrLimit = some fa_impl_choicesOrLimit := rfl
@[simp] theorem c_impl_choicesOrLimit (args : List PV) (σ : List AObj) : callM fns (ev fns) i_impl_choicesOrLimit args σ = ev fns i_impl_choicesOrLimit args σ := by simp [callM, n_impl_choicesOrLimit, fa_impl_choicesOrLimit]
theorem n_impl_EitherChoices : fns i_impl_EitherChoices = some fa_impl_EitherChoices := rfl
@[simp] theorem c_impl_EitherChoices (args : List PV) (σ : List AObj) : callM fns (ev fns) i_impl_EitherChoices args σ = callT fns [(.agg [.any, (.lst 1 .any), (.lst 1 .any), (.lst 1 (.lst 1 (.lst 2 .any))), (.lst 1 (.lst 1 (.lst 1 (.lst 1 .any)))), (.lst 1 (.lst 1 (.lst 1 .any)))]), (.agg [.any, (.lst 1 .any), (.lst 1 .any), (.lst 1 (.lst 1 (.lst 2 .any))), (.lst 1 (.lst 1 (.lst 1 (.lst 1 .any)))), (.lst 1 (.lst 1 (.lst 1 .any)))])] i_impl_EitherChoices args σ := callM_ty n_impl_EitherChoices rfl
theorem n_laws_eqInt64S : fns i_laws_eqInt64S = some fa_laws_eqInt64S := rfl
@[simp] theorem c_laws_eqInt64S (args : List PV) (σ : List AObj) : callM fns (ev fns) i_laws_eqInt64S args σ = callT fns [(.lst 1 .any), (.lst 1 .any)] i_laws_eqInt64S args σ := callM_ty n_laws_eqInt64S rfl
theorem n_laws_eqBoolS : fns i_laws_eqBoolS = some fa_laws_eqBoolS := rfl
@[simp] theorem c_laws_eqBoolS (args : List PV) (σ : List AObj) : callM fns (ev fns) i_laws_eqBoolS args σ = callN fns i_laws_eqBoolS args σ := callM_np n_laws_eqBoolS rfl rfl
theorem n_laws_eqPush : fns i_laws_eqPush = some fa_laws_eqPush := rfl
@[simp] theorem c_laws_eqPush (args : List PV) (σ : List AObj) : callM fns (ev fns) i_laws_eqPush args σ = callN fns i_laws_eqPush args σ := callM_np n_laws_eqPush rfl rfl
theorem n_laws_eqPushS : fns i_laws_eqPushS = some fa_laws_eqPushS := rfl
@[simp] theorem c_laws_eqPushS (args : List PV) (σ : List AObj) : callM fns (ev fns) i_laws_eqPushS args σ = callN fns i_laws_eqPushS args σ := callM_np n_laws_eqPushS rfl rfl
theorem n_laws_eqPushSS : fns i_laws_eqPushSS = some fa_laws_eqPushSS := rfl
@[simp] theorem c_laws_eqPushSS (args : List PV) (σ : List AObj) : callM fns (ev fns) i_laws_eqPushSS args σ = callN fns i_laws_eqPushSS args σ := callM_np n_laws_eqPushSS rfl rfl
theorem n_laws_eqPushSSS : fns i_laws_eqPushSSS = some fa_laws_eqPushSSS := rfl
@[simp] theorem c_laws_eqPushSSS (args : List PV) (σ : List AObj) : callM fns (ev fns) i_laws_eqPushSSS args σ = callN fns i_laws_eqPushSSS args σ := callM_np n_laws_eqPushSSS rfl rfl
theorem n_laws_eqInt64SS : fns i_laws_eqInt64SS = some fa_laws_eqInt64SS := rfl
@[simp] theorem c_laws_eqInt64SS (args : List PV) (σ : List AObj) : callM fns (ev fns) i_laws_eqInt64SS args σ = callT fns [(.lst 1 (.lst 1 .any)), (.lst 1 (.lst 1 .any))] i_laws_eqInt64SS args σ := callM_ty n_laws_eqInt64SS rfl
theorem n_laws_eqInt64SSS : fns i_laws_eqInt64SSS = some fa_laws_eqInt64SSS := rfl
@[simp] theorem c_laws_eqInt64SSS (args : List PV) (σ : List AObj) : callM fns (ev fns) i_laws_eqInt64SSS args σ = callN fns i_laws_eqInt64SSS args σ := callM_np n_laws_eqInt64SSS rfl rfl
theorem n_laws_eqInt64SSSS : fns i_laws_eqInt64SSSS = some fa_laws_eqInt64SSSS := rfl
@[simp] theorem c_laws_eqInt64SSSS (args : List PV) (σ : List AObj) : callM fns (ev fns) i_laws_eqInt64SSSS args σ = callN fns i_laws_eqInt64SSSS args σ := callM_np n_laws_eqInt64SSSS rfl rfl
theorem n_laws_eqChoices : fns i_laws_eqChoices = some fa_laws_eqChoices := rfl
@[simp] theorem c_laws_eqChoices (args : List PV) (σ : List AObj) : callM fns (ev fns) i_laws_eqChoices args σ = callT fns [(.agg [.any, (.lst 1 .any), (.lst 1 .any), (.lst 1 (.lst 1 (.lst 2 .any))), (.lst 1 (.lst 1 (.lst 1 (.lst 1 .any)))), (.lst 1 (.lst 1 (.lst 1 .any)))]), (.agg [.any, (.lst 1 .any), (.lst 1 .any), (.lst 1 (.lst 1 (.lst 2 .any))), (.lst 1 (.lst 1 (.lst 1 (.lst 1 .any)))), (.lst 1 (.lst 1 (.lst 1 .any)))])] i_laws_eqChoices args σ := callM_ty n_laws_eqChoices rfl
theorem n_laws_markInt64S : fns i_laws_markInt64S = some fa_laws_markInt64S := rfl
@[simp] theorem c_laws_markInt64S (args : List PV) (σ : List AObj) : callM fns (ev fns) i_laws_markInt64S args σ = ev fns i_laws_markInt64S args σ := by simp [callM, n_laws_markInt64S, fa_laws_markInt64S]
theorem n_laws_markBoolS : fns i_laws_markBoolS = some fa_laws_markBoolS := rfl
@[simp] theorem c_laws_markBoolS (args : List PV) (σ : List AObj) : callM fns (ev fns) i_laws_markBoolS args σ = ev fns i_laws_markBoolS args σ := by simp [callM, n_laws_markBoolS, fa_laws_markBoolS]
theorem n_laws_markPushS : fns i_laws_markPushS = some fa_laws_markPushS := rfl
@[simp] theorem c_laws_markPushS (args : List PV) (σ : List AObj) : callM fns (ev fns) i_laws_markPushS args σ = ev fns i_laws_markPushS args σ := by simp [callM, n_laws_markPushS, fa_laws_markPushS]
theorem n_laws_markPushSS : fns i_laws_markPushSS = some fa_laws_markPushSS := rfl
@[simp] theorem c_laws_markPushSS (args : List PV) (σ : List AObj) : callM fns (ev fns) i_laws_markPushSS args σ = ev fns i_laws_markPushSS args σ := by simp [callM, n_laws_markPushSS, fa_laws_markPushSS]
theorem n_laws_markPushSSS : fns i_laws_markPushSSS = some fa_laws_markPushSSS := rfl
@[simp] theorem c_laws_markPushSSS (args : List PV) (σ : List AObj) : callM fns (ev fns) i_laws_markPushSSS args σ = ev fns i_laws_markPushSSS args σ := by simp [callM, n_laws_markPushSSS, fa_laws_markPushSSS]
theorem n_laws_markInt64SS : fns i_laws_markInt64SS = some fa_laws_markInt64SS := rfl
@[simp] theorem c_laws_markInt64SS (args : List PV) (σ : List AObj) : callM fns (ev fns) i_laws_markInt64SS args σ = ev fns i_laws_markInt64SS args σ := by simp [callM, n_laws_markInt64SS, fa_laws_markInt64SS]
theorem n_laws_markInt64SSS : fns i_laws_markInt64SSS = some fa_laws_markInt64SSS := rfl
@[simp] theorem c_laws_markInt64SSS (args : List PV) (σ : List AObj) : callM fns (ev fns) i_laws_markInt64SSS args σ = ev fns i_laws_markInt64SSS args σ := by simp [callM, n_laws_markInt64SSS, fa_laws_markInt64SSS]
theorem n_laws_markInt64SSSS : fns i_laws_markInt64SSSS = some fa_laws_markInt64SSSS := rfl
@[simp] theorem c_laws_markInt64SSSS (args : List PV) (σ : List AObj) : callM fns (ev fns) i_laws_markInt64SSSS args σ = ev fns i_laws_markInt64SSSS args σ := by simp [callM, n_laws_markInt64SSSS, fa_laws_markInt64SSSS]
theorem n_laws_markChoices : fns i_laws_markChoices = some fa_laws_markChoices := rfl
@[simp] theorem c_laws_markChoices (args : List PV) (σ : List AObj) : callM fns (ev fns) i_laws_markChoices args σ = ev fns i_laws_markChoices args σ := by simp [callM, n_laws_markChoices, fa_laws_markChoices]
theorem n_laws_heldInt64S : fns i_laws_heldInt64S = some fa_laws_heldInt64S := rfl
@[simp] theorem c_laws_heldInt64S (args : List PV) (σ : List AObj) : callM fns (ev fns) i_laws_heldInt64S args σ = callT fns [(.lst 1 .any), .any] i_laws_heldInt64S args σ := callM_ty n_laws_heldInt64S rfl
theorem n_laws_heldBoolS : fns i_laws_heldBoolS = some fa_laws_heldBoolS := rfl
@[simp] theorem c_laws_heldBoolS (args : List PV) (σ : List AObj) : callM fns (ev fns) i_laws_heldBoolS args σ = callN fns i_laws_heldBoolS args σ := callM_np n_laws_heldBoolS rfl rfl
theorem n_laws_heldPushS : fns i_laws_heldPushS = some fa_laws_heldPushS := rfl
@[simp] theorem c_laws_heldPushS (args : List PV) (σ : List AObj) : callM fns (ev fns) i_laws_heldPushS args σ = callN fns i_laws_heldPushS args σ := callM_np n_laws_heldPushS rfl rfl
theorem n_laws_heldPushSS : fns i_laws_heldPushSS = some fa_laws_heldPushSS := rfl
@[simp] theorem c_laws_heldPushSS (args : List PV) (σ : List AObj) : callM fns (ev fns) i_laws_heldPushSS args σ = callN fns i_laws_heldPushSS args σ := callM_np n_laws_heldPushSS rfl rfl
theorem n_laws_heldPushSSS : fns i_laws_heldPushSSS = some fa_laws_heldPushSSS := rfl
@[simp] theorem c_laws_heldPushSSS (args : List PV) (σ : List AObj) : callM fns (ev fns) i_laws_heldPushSSS args σ = callN fns i_laws_heldPushSSS args σ := callM_np n_laws_heldPushSSS rfl rfl
theorem n_laws_heldInt64SS : fns i_laws_heldInt64SS = some fa_laws_heldInt64SS := rfl
@[simp] theorem c_laws_heldInt64SS (args : List PV) (σ : List AObj) : callM fns (ev fns) i_laws_heldInt64SS args σ = callT fns [(.lst 1 (.lst 1 .any)), .any] i_laws_heldInt64SS args σ := callM_ty n_laws_heldInt64SS rfl
theorem n_laws_heldInt64SSS : fns i_laws_heldInt64SSS = some fa_laws_heldInt64SSS := rfl
@[simp] theorem c_laws_heldInt64SSS (args : List PV) (σ : List AObj) : callM fns (ev fns) i_laws_heldInt64SSS args σ = callN fns i_laws_heldInt64SSS args σ := callM_np n_laws_heldInt64SSS rfl rfl
theorem n_laws_heldInt64SSSS : fns i_laws_heldInt64SSSS = some fa_laws_heldInt64SSSS := rfl
@[simp] theorem c_laws_heldInt64SSSS (args : List PV) (σ : List AObj) : callM fns (ev fns) i_laws_heldInt64SSSS args σ = callN fns i_laws_heldInt64SSSS args σ := callM_np n_laws_heldInt64SSSS rfl rfl
theorem n_laws_heldChoices : fns i_laws_heldChoices = some fa_laws_heldChoices := rfl
@[simp] theorem c_laws_heldChoices (args : List PV) (σ : List AObj) : callM fns (ev fns) i_laws_heldChoices args σ = callT fns [(.agg [.any, (.lst 1 .any), (.lst 1 .any), (.lst 1 (.lst 1 (.lst 2 .any))), (.lst 1 (.lst 1 (.lst 1 (.lst 1 .any)))), (.lst 1 (.lst 1 (.lst 1 .any)))]), .any] i_laws_heldChoices args σ := callM_ty n_laws_heldChoices rfl
theorem n_laws_FnExactEitherChoices : fns i_laws_FnExactEitherChoices = some fa_laws_FnExactEitherChoices := rfl
@[simp] theorem c_laws_FnExactEitherChoices (args : List PV) (σ : List AObj) : callM fns (ev fns) i_laws_FnExactEitherChoices args σ = callN fns i_laws_FnExactEitherChoices args σ := callM_np n_laws_FnExactEitherChoices rfl rfl
@[simp] theorem nt_laws_szInt64S : fa_laws_szInt64S.nt = 12 := rfl
@[simp] theorem rs_laws_szInt64S : fa_laws_szInt64S.rs = [.tmp 4] := rfl
@[simp] theorem fz_laws_szInt64S : fa_laws_szInt64S.fz = true := rfl
@[simp] theorem rsh_laws_szInt64S : fa_laws_szInt64S.rsh = .any := rfl
theorem go_laws_szInt64S {args : List PV} {σ : List AObj} {r : PV × List AObj} (hl : args.length ≤ 12) (h : rE fns fa_laws_szInt64S σ.length [.code ac_laws_szInt64S] (frA 0 args) σ = some r) : ev fns i_laws_szInt64S args σ = some r := ev_go n_laws_szInt64S rfl hl h
@[simp] theorem nt_laws_szBoolS : fa_laws_szBoolS.nt = 12 := rfl
@[simp] theorem rs_laws_szBoolS : fa_laws_szBoolS.rs = [.tmp 4] := rfl
@[simp] theorem fz_laws_szBoolS : fa_laws_szBoolS.fz = true := rfl
@[simp] theorem rsh_laws_szBoolS : fa_laws_szBoolS.rsh = .any := rfl
theorem go_laws_szBoolS {args : List PV} {σ : List AObj} {r : PV × List AObj} (hl : args.length ≤ 12) (h : rE fns fa_laws_szBoolS σ.length [.code ac_laws_szBoolS] (frA 0 args) σ = some r) : ev fns i_laws_szBoolS args σ = some r := ev_go n_laws_szBoolS rfl hl h
@[simp] theorem nt_laws_szPushS : fa_laws_szPushS.nt = 12 := rfl
@[simp] theorem rs_laws_szPushS : fa_laws_szPushS.rs = [.tmp 4] := rfl
@[simp] theorem fz_laws_szPushS : fa_laws_szPushS.fz = true := rfl
@[simp] theorem rsh_laws_szPushS : fa_laws_szPushS.rsh = .any := rfl
theorem go_laws_szPushS {args : List PV} {σ : List AObj} {r : PV × List AObj} (hl : args.length ≤ 12) (h : rE fns fa_laws_szPushS σ.length [.code ac_laws_szPushS] (frA 0 args) σ = some r) : ev fns i_laws_szPushS args σ = some r := ev_go n_laws_szPushS rfl hl h
@[simp] theorem nt_laws_szPushSS : fa_laws_szPushSS.nt = 27 := rfl
@[simp] theorem rs_laws_szPushSS : fa_laws_szPushSS.rs = [.tmp 4] := rfl
@[simp] theorem fz_laws_szPushSS : fa_laws_szPushSS.fz = true := rfl
@[simp] theorem rsh_laws_szPushSS : fa_laws_szPushSS.rsh = .any := rfl
theorem go_laws_szPushSS {args : List PV} {σ : List AObj} {r : PV × List AObj} (hl : args.length ≤ 27) (h : rE fns fa_laws_szPushSS σ.length [.code ac_laws_szPushSS] (frA 0 args) σ = some r) : ev fns i_laws_szPushSS args σ = some r := ev_go n_laws_szPushSS rfl hl h
theorem l_laws_szPushSS_0 {ks : List KI} {l : Fr} {σ : List AObj} {n0 : Nat} : rE fns fa_laws_szPushSS n0 (.code lo_laws_szPushSS_0 :: ks) l σ = rE fns fa_laws_szPushSS n0 (.code lb_laws_szPushSS_0 :: .code lo_laws_szPushSS_0 :: ks) l σ := rE_loop
@[simp] theorem nt_laws_szPushSSS : fa_laws_szPushSSS.nt = 27 := rfl
@[simp] theorem rs_laws_szPushSSS : fa_laws_szPushSSS.rs = [.tmp 4] := rfl
@[simp] theorem fz_laws_szPushSSS : fa_laws_szPushSSS.fz = true := rfl
@[simp] theorem rsh_laws_szPushSSS : fa_laws_szPushSSS.rsh = .any := rfl
theorem go_laws_szPushSSS {args : List PV} {σ : List AObj} {r : PV × List AObj} (hl : args.length ≤ 27) (h : rE fns fa_laws_szPushSSS σ.length [.code ac_laws_szPushSSS] (frA 0 args) σ = some r) : ev fns i_laws_szPushSSS args σ = some r := ev_go n_laws_szPushSSS rfl hl h
theorem l_laws_szPushSSS_0 {ks : List KI} {l : Fr} {σ : List AObj} {n0 : Nat} : rE fns fa_laws_szPushSSS n0 (.code lo_laws_szPushSSS_0 :: ks) l σ = rE fns fa_laws_szPushSSS n0 (.code lb_laws_szPushSSS_0 :: .code lo_laws_szPushSSS_0 :: ks) l σ := rE_loop
@[simp] theorem nt_laws_szInt64SS : fa_laws_szInt64SS.nt = 27 := rfl
@[simp] theorem rs_laws_szInt64SS : fa_laws_szInt64SS.rs = [.tmp 4] := rfl
@[simp] theorem fz_laws_szInt64SS : fa_laws_szInt64SS.fz = true := rfl
@[simp] theorem rsh_laws_szInt64SS : fa_laws_szInt64SS.rsh = .any := rfl
theorem go_laws_szInt64SS {args : List PV} {σ : List AObj} {r : PV × List AObj} (hl : args.length ≤ 27) (h : rE fns fa_laws_szInt64SS σ.length [.code ac_laws_szInt64SS] (frA 0 args) σ = some r) : ev fns i_laws_szInt64SS args σ = some r := ev_go n_laws_szInt64SS rfl hl h
theorem l_laws_szInt64SS_0 {ks : List KI} {l : Fr} {σ : List AObj} {n0 : Nat} : rE fns fa_laws_szInt64SS n0 (.code lo_laws_szInt64SS_0 :: ks) l σ = rE fns fa_laws_szInt64SS n0 (.code lb_laws_szInt64SS_0 :: .code lo_laws_szInt64SS_0 :: ks) l σ := rE_loop
@[simp] theorem nt_laws_szInt64SSS : fa_laws_szInt64SSS.nt = 27 := rfl
@[simp] theorem rs_laws_szInt64SSS : fa_laws_szInt64SSS.rs = [.tmp 4] := rfl
@[simp] theorem fz_laws_szInt64SSS : fa_laws_szInt64SSS.fz = true := rfl
@[simp] theorem rsh_laws_szInt64SSS : fa_laws_szInt64SSS.rsh = .any := rfl
theorem go_laws_szInt64SSS {args : List PV} {σ : List AObj} {r : PV × List AObj} (hl : args.length ≤ 27) (h : rE fns fa_laws_szInt64SSS σ.length [.code ac_laws_szInt64SSS] (frA 0 args) σ = some r) : ev fns i_laws_szInt64SSS args σ = some r := ev_go n_laws_szInt64SSS rfl hl h
theorem l_laws_szInt64SSS_0 {ks : List KI} {l : Fr} {σ : List AObj} {n0 : Nat} : rE fns fa_laws_szInt64SSS n0 (.code lo_laws_szInt64SSS_0 :: ks) l σ = rE fns fa_laws_szInt64SSS n0 (.code lb_laws_szInt64SSS_0 :: .code lo_laws_szInt64SSS_0 :: ks) l σ := rE_loop
@[simp] theorem nt_laws_szInt64SSSS : fa_laws_szInt64SSSS.nt = 27 := rfl
@[simp] theorem rs_laws_szInt64SSSS : fa_laws_szInt64SSSS.rs = [.tmp 4] := rfl
@[simp] theorem fz_laws_szInt64SSSS : fa_laws_szInt64SSSS.fz = true := rfl
@[simp] theorem rsh_laws_szInt64SSSS : fa_laws_szInt64SSSS.rsh = .any := rfl
theorem go_laws_szInt64SSSS {args : List PV} {σ : List AObj} {r : PV × List AObj} (hl : args.length ≤ 27) (h : rE fns fa_laws_szInt64SSSS σ.length [.code ac_laws_szInt64SSSS] (frA 0 args) σ = some r) : ev fns i_laws_szInt64SSSS args σ = some r := ev_go n_laws_szInt64SSSS rfl hl h
theorem l_laws_szInt64SSSS_0 {ks : List KI} {l : Fr} {σ : List AObj} {n0 : Nat} : rE fns fa_laws_szInt64SSSS n0 (.code lo_laws_szInt64SSSS_0 :: ks) l σ = rE fns fa_laws_szInt64SSSS n0 (.code lb_laws_szInt64SSSS_0 :: .code lo_laws_szInt64SSSS_0 :: ks) l σ := rE_loop
@[simp] theorem nt_laws_szChoices : fa_laws_szChoices.nt = 36 := rfl
@[simp] theorem rs_laws_szChoices : fa_laws_szChoices.rs = [.tmp 4] := rfl
@[simp] theorem fz_laws_szChoices : fa_laws_szChoices.fz = true := rfl
@[simp] theorem rsh_laws_szChoices : fa_laws_szChoices.rsh = .any := rfl
theorem go_laws_szChoices {args : List PV} {σ : List AObj} {r : PV × List AObj} (hl : args.length ≤ 36) (h : rE fns fa_laws_szChoices σ.length [.code ac_laws_szChoices] (frA 0 args) σ = some r) : ev fns i_laws_szChoices args σ = some r := ev_go n_laws_szChoices rfl hl h
@[simp] theorem nt_spec_l00In : fa_spec_l00In.nt = 15 := rfl
@[simp] theorem rs_spec_l00In : fa_spec_l00In.rs = [.tmp 6] := rfl
@[simp] theorem fz_spec_l00In : fa_spec_l00In.fz = true := rfl
@[simp] theorem rsh_spec_l00In : fa_spec_l00In.rsh = .any := rfl
theorem go_spec_l00In {args : List PV} {σ : List AObj} {r : PV × List AObj} (hl : args.length ≤ 15) (h : rE fns fa_spec_l00In σ.length [.code ac_spec_l00In] (frA 0 args) σ = some r) : ev fns i_spec_l00In args σ = some r := ev_go n_spec_l00In rfl hl h
@[simp] theorem nt_spec_l00Rises : fa_spec_l00Rises.nt = 38 := rfl
@[simp] theorem rs_spec_l00Rises : fa_spec_l00Rises.rs = [.tmp 6] := rfl
@[simp] theorem fz_spec_l00Rises : fa_spec_l00Rises.fz = true := rfl
@[simp] theorem rsh_spec_l00Rises : fa_spec_l00Rises.rsh = .any := rfl
theorem go_spec_l00Rises {args : List PV} {σ : List AObj} {r : PV × List AObj} (hl : args.length ≤ 38) (h : rE fns fa_spec_l00Rises σ.length [.code ac_spec_l00Rises] (frA 0 args) σ = some r) : ev fns i_spec_l00Rises args σ = some r := ev_go n_spec_l00Rises rfl hl h
theorem l_spec_l00Rises_0 {ks : List KI} {l : Fr} {σ : List AObj} {n0 : Nat} : rE fns fa_spec_l00Rises n0 (.code lo_spec_l00Rises_0 :: ks) l σ = rE fns fa_spec_l00Rises n0 (.code lb_spec_l00Rises_0 :: .code lo_spec_l00Rises_0 :: ks) l σ := rE_loop
@[simp] theorem nt_spec_l03Pushes : fa_spec_l03Pushes.nt = 68 := rfl
@[simp] theorem rs_spec_l03Pushes : fa_spec_l03Pushes.rs = [.tmp 6] := rfl
@[simp] theorem fz_spec_l03Pushes : fa_spec_l03Pushes.fz = true := rfl
@[simp] theorem rsh_spec_l03Pushes : fa_spec_l03Pushes.rsh = .any := rfl
theorem go_spec_l03Pushes {args : List PV} {σ : List AObj} {r : PV × List AObj} (hl : args.length ≤ 68) (h : rE fns fa_spec_l03Pushes σ.length [.code ac_spec_l03Pushes] (frA 0 args) σ = some r) : ev fns i_spec_l03Pushes args σ = some r := ev_go n_spec_l03Pushes rfl hl h
theorem l_spec_l03Pushes_0 {ks : List KI} {l : Fr} {σ : List AObj} {n0 : Nat} : rE fns fa_spec_l03Pushes n0 (.code lo_spec_l03Pushes_0 :: ks) l σ = rE fns fa_spec_l03Pushes n0 (.code lb_spec_l03Pushes_0 :: .code lo_spec_l03Pushes_0 :: ks) l σ := rE_loop
@[simp] theorem nt_spec_l03Ok : fa_spec_l03Ok.nt = 184 := rfl
@[simp] theorem rs_spec_l03Ok : fa_spec_l03Ok.rs = [.tmp 2] := rfl
@[simp] theorem fz_spec_l03Ok : fa_spec_l03Ok.fz = true := rfl
@[simp] theorem rsh_spec_l03Ok : fa_spec_l03Ok.rsh = .any := rfl
theorem go_spec_l03Ok {args : List PV} {σ : List AObj} {r : PV × List AObj} (hl : args.length ≤ 184) (h : rE fns fa_spec_l03Ok σ.length [.code ac_spec_l03Ok] (frA 0 args) σ = some r) : ev fns i_spec_l03Ok args σ = some r := ev_go n_spec_l03Ok rfl hl h
theorem l_spec_l03Ok_0 {ks : List KI} {l : Fr} {σ : List AObj} {n0 : Nat} : rE fns fa_spec_l03Ok n0 (.code lo_spec_l03Ok_0 :: ks) l σ = rE fns fa_spec_l03Ok n0 (.code lb_spec_l03Ok_0 :: .code lo_spec_l03Ok_0 :: ks) l σ := rE_loop
theorem l_spec_l03Ok_1 {ks : List KI} {l : Fr} {σ : List AObj} {n0 : Nat} : rE fns fa_spec_l03Ok n0 (.code lo_spec_l03Ok_1 :: ks) l σ = rE fns fa_spec_l03Ok n0 (.code lb_spec_l03Ok_1 :: .code lo_spec_l03Ok_1 :: ks) l σ := rE_loop
theorem l_spec_l03Ok_2 {ks : List KI} {l : Fr} {σ : List AObj} {n0 : Nat} : rE fns fa_spec_l03Ok n0 (.code lo_spec_l03Ok_2 :: ks) l σ = rE fns fa_spec_l03Ok n0 (.code lb_spec_l03Ok_2 :: .code lo_spec_l03Ok_2 :: ks) l σ := rE_loop
@[simp] theorem nt_spec_l03Raised : fa_spec_l03Raised.nt = 24 := rfl
@[simp] theorem rs_spec_l03Raised : fa_spec_l03Raised.rs = [.tmp 4] := rfl
@[simp] theorem fz_spec_l03Raised : fa_spec_l03Raised.fz = false := rfl
@[simp] theorem rsh_spec_l03Raised : fa_spec_l03Raised.rsh = .any := rfl
theorem go_spec_l03Raised {args : List PV} {σ : List AObj} {r : PV × List AObj} (hl : args.length ≤ 24) (h : rE fns fa_spec_l03Raised σ.length [.code ac_spec_l03Raised] (frA 0 args) σ = some r) : ev fns i_spec_l03Raised args σ = some r := ev_go n_spec_l03Raised rfl hl h
theorem l_spec_l03Raised_0 {ks : List KI} {l : Fr} {σ : List AObj} {n0 : Nat} : rE fns fa_spec_l03Raised n0 (.code lo_spec_l03Raised_0 :: ks) l σ = rE fns fa_spec_l03Raised n0 (.code lb_spec_l03Raised_0 :: .code lo_spec_l03Raised_0 :: ks) l σ := rE_loop
@[simp] theorem nt_spec_l03Part : fa_spec_l03Part.nt = 223 := rfl
@[simp] theorem rs_spec_l03Part : fa_spec_l03Part.rs = [] := rfl
@[simp] theorem fz_spec_l03Part : fa_spec_l03Part.fz = false := rfl
@[simp] theorem rsh_spec_l03Part : fa_spec_l03Part.rsh = .any := rfl
theorem go_spec_l03Part {args : List PV} {σ : List AObj} {r : PV × List AObj} (hl : args.length ≤ 223) (h : rE fns fa_spec_l03Part σ.length [.code ac_spec_l03Part] (frA 0 args) σ = some r) : ev fns i_spec_l03Part args σ = some r := ev_go n_spec_l03Part rfl hl h
theorem l_spec_l03Part_0 {ks : List KI} {l : Fr} {σ : List AObj} {n0 : Nat} : rE fns fa_spec_l03Part n0 (.code lo_spec_l03Part_0 :: ks) l σ = rE fns fa_spec_l03Part n0 (.code lb_spec_l03Part_0 :: .code lo_spec_l03Part_0 :: ks) l σ := rE_loop
theorem l_spec_l03Part_1 {ks : List KI} {l : Fr} {σ : List AObj} {n0 : Nat} : rE fns fa_spec_l03Part n0 (.code lo_spec_l03Part_1 :: ks) l σ = rE fns fa_spec_l03Part n0 (.code lb_spec_l03Part_1 :: .code lo_spec_l03Part_1 :: ks) l σ := rE_loop
theorem l_spec_l03Part_2 {ks : List KI} {l : Fr} {σ : List AObj} {n0 : Nat} : rE fns fa_spec_l03Part n0 (.code lo_spec_l03Part_2 :: ks) l σ = rE fns fa_spec_l03Part n0 (.code lb_spec_l03Part_2 :: .code lo_spec_l03Part_2 :: ks) l σ := rE_loop
theorem l_spec_l03Part_3 {ks : List KI} {l : Fr} {σ : List AObj} {n0 : Nat} : rE fns fa_spec_l03Part n0 (.code lo_spec_l03Part_3 :: ks) l σ = rE fns fa_spec_l03Part n0 (.code lb_spec_l03Part_3 :: .code lo_spec_l03Part_3 :: ks) l σ := rE_loop
theorem l_spec_l03Part_4 {ks : List KI} {l : Fr} {σ : List AObj} {n0 : Nat} : rE fns fa_spec_l03Part n0 (.code lo_spec_l03Part_4 :: ks) l σ = rE fns fa_spec_l03Part n0 (.code lb_spec_l03Part_4 :: .code lo_spec_l03Part_4 :: ks) l σ := rE_loop
theorem l_spec_l03Part_5 {ks : List KI} {l : Fr} {σ : List AObj} {n0 : Nat} : rE fns fa_spec_l03Part n0 (.code lo_spec_l03Part_5 :: ks) l σ = rE fns fa_spec_l03Part n0 (.code lb_spec_l03Part_5 :: .code lo_spec_l03Part_5 :: ks) l σ := rE_loop
@[simp] theorem nt_spec_l03Told : fa_spec_l03Told.nt = 8 := rfl
@[simp] theorem rs_spec_l03Told : fa_spec_l03Told.rs = [.cell 2 6 true, .tmp 3] := rfl
@[simp] theorem fz_spec_l03Told : fa_spec_l03Told.fz = false := rfl
@[simp] theorem rsh_spec_l03Told : fa_spec_l03Told.rsh = .any := rfl
theorem go_spec_l03Told {args : List PV} {σ : List AObj} {r : PV × List AObj} (hl : args.length ≤ 8) (h : rE fns fa_spec_l03Told σ.length [.code ac_spec_l03Told] (frA 0 args) σ = some r) : ev fns i_spec_l03Told args σ = some r := ev_go n_spec_l03Told rfl hl h
@[simp] theorem nt_spec_EitherChoices : fa_spec_EitherChoices.nt = 33 := rfl
@[simp] theorem rs_spec_EitherChoices : fa_spec_EitherChoices.rs = [.cell 4 6 true, .tmp 5] := rfl
@[simp] theorem fz_spec_EitherChoices : fa_spec_EitherChoices.fz = true := rfl
@[simp] theorem rsh_spec_EitherChoices : fa_spec_EitherChoices.rsh = .any := rfl
theorem go_spec_EitherChoices {args : List PV} {σ : List AObj} {r : PV × List AObj} (hl : args.length ≤ 33) (h : rE fns fa_spec_EitherChoices σ.length [.code ac_spec_EitherChoices] (frA 0 args) σ = some r) : ev fns i_spec_EitherChoices args σ = some r := ev_go n_spec_EitherChoices rfl hl h
@[simp] theorem nt_laws_toInt64S : fa_laws_toInt64S.nt = 22 := rfl
@[simp] theorem rs_laws_toInt64S : fa_laws_toInt64S.rs = [.tmp 2] := rfl
@[simp] theorem fz_laws_toInt64S : fa_laws_toInt64S.fz = false := rfl
@[simp] theorem rsh_laws_toInt64S : fa_laws_toInt64S.rsh = .any := rfl
theorem go_laws_toInt64S {args : List PV} {σ : List AObj} {r : PV × List AObj} (hl : args.length ≤ 22) (h : rE fns fa_laws_toInt64S σ.length [.code ac_laws_toInt64S] (frA 0 args) σ = some r) : ev fns i_laws_toInt64S args σ = some r := ev_go n_laws_toInt64S rfl hl h
theorem l_laws_toInt64S_0 {ks : List KI} {l : Fr} {σ : List AObj} {n0 : Nat} : rE fns fa_laws_toInt64S n0 (.code lo_laws_toInt64S_0 :: ks) l σ = rE fns fa_laws_toInt64S n0 (.code lb_laws_toInt64S_0 :: .code lo_laws_toInt64S_0 :: ks) l σ := rE_loop
@[simp] theorem nt_laws_toBoolS : fa_laws_toBoolS.nt = 22 := rfl
@[simp] theorem rs_laws_toBoolS : fa_laws_toBoolS.rs = [.tmp 2] := rfl
@[simp] theorem fz_laws_toBoolS : fa_laws_toBoolS.fz = false := rfl
@[simp] theorem rsh_laws_toBoolS : fa_laws_toBoolS.rsh = .any := rfl
theorem go_laws_toBoolS {args : List PV} {σ : List AObj} {r : PV × List AObj} (hl : args.length ≤ 22) (h : rE fns fa_laws_toBoolS σ.length [.code ac_laws_toBoolS] (frA 0 args) σ = some r) : ev fns i_laws_toBoolS args σ = some r := ev_go n_laws_toBoolS rfl hl h
theorem l_laws_toBoolS_0 {ks : List KI} {l : Fr} {σ : List AObj} {n0 : Nat} : rE fns fa_laws_toBoolS n0 (.code lo_laws_toBoolS_0 :: ks) l σ = rE fns fa_laws_toBoolS n0 (.code lb_laws_toBoolS_0 :: .code lo_laws_toBoolS_0 :: ks) l σ := rE_loop
@[simp] theorem nt_laws_toPush : fa_laws_toPush.nt = 11 := rfl
@[simp] theorem rs_laws_toPush : fa_laws_toPush.rs = [.cell 2 2 true] := rfl
@[simp] theorem fz_laws_toPush : fa_laws_toPush.fz = false := rfl
@[simp] theorem rsh_laws_toPush : fa_laws_toPush.rsh = .any := rfl
theorem go_laws_toPush {args : List PV} {σ : List AObj} {r : PV × List AObj} (hl : args.length ≤ 11) (h : rE fns fa_laws_toPush σ.length [.code ac_laws_toPush] (frA 0 args) σ = some r) : ev fns i_laws_toPush args σ = some r := ev_go n_laws_toPush rfl hl h
@[simp] theorem nt_laws_toPushS : fa_laws_toPushS.nt = 23 := rfl
@[simp] theorem rs_laws_toPushS : fa_laws_toPushS.rs = [.tmp 2] := rfl
@[simp] theorem fz_laws_toPushS : fa_laws_toPushS.fz = false := rfl
@[simp] theorem rsh_laws_toPushS : fa_laws_toPushS.rsh = .any := rfl
theorem go_laws_toPushS {args : List PV} {σ : List AObj} {r : PV × List AObj} (hl : args.length ≤ 23) (h : rE fns fa_laws_toPushS σ.length [.code ac_laws_toPushS] (frA 0 args) σ = some r) : ev fns i_laws_toPushS args σ = some r := ev_go n_laws_toPushS rfl hl h
theorem l_laws_toPushS_0 {ks : List KI} {l : Fr} {σ : List AObj} {n0 : Nat} : rE fns fa_laws_toPushS n0 (.code lo_laws_toPushS_0 :: ks) l σ = rE fns fa_laws_toPushS n0 (.code lb_laws_toPushS_0 :: .code lo_laws_toPushS_0 :: ks) l σ := rE_loop
@[simp] theorem nt_laws_toPushSS : fa_laws_toPushSS.nt = 23 := rfl
@[simp] theorem rs_laws_toPushSS : fa_laws_toPushSS.rs = [.tmp 2] := rfl
@[simp] theorem fz_laws_toPushSS : fa_laws_toPushSS.fz = false := rfl
@[simp] theorem rsh_laws_toPushSS : fa_laws_toPushSS.rsh = .any := rfl
theorem go_laws_toPushSS {args : List PV} {σ : List AObj} {r : PV × List AObj} (hl : args.length ≤ 23) (h : rE fns fa_laws_toPushSS σ.length [.code ac_laws_toPushSS] (frA 0 args) σ = some r) : ev fns i_laws_toPushSS args σ = some r := ev_go n_laws_toPushSS rfl hl h
theorem l_laws_toPushSS_0 {ks : List KI} {l : Fr} {σ : List AObj} {n0 : Nat} : rE fns fa_laws_toPushSS n0 (.code lo_laws_toPushSS_0 :: ks) l σ = rE fns fa_laws_toPushSS n0 (.code lb_laws_toPushSS_0 :: .code lo_laws_toPushSS_0 :: ks) l σ := rE_loop
@[simp] theorem nt_laws_toPushSSS : fa_laws_toPushSSS.nt = 23 := rfl
@[simp] theorem rs_laws_toPushSSS : fa_laws_toPushSSS.rs = [.tmp 2] := rfl
@[simp] theorem fz_laws_toPushSSS : fa_laws_toPushSSS.fz = false := rfl
@[simp] theorem rsh_laws_toPushSSS : fa_laws_toPushSSS.rsh = .any := rfl
theorem go_laws_toPushSSS {args : List PV} {σ : List AObj} {r : PV × List AObj} (hl : args.length ≤ 23) (h : rE fns fa_laws_toPushSSS σ.length [.code ac_laws_toPushSSS] (frA 0 args) σ = some r) : ev fns i_laws_toPushSSS args σ = some r := ev_go n_laws_toPushSSS rfl hl h
theorem l_laws_toPushSSS_0 {ks : List KI} {l : Fr} {σ : List AObj} {n0 : Nat} : rE fns fa_laws_toPushSSS n0 (.code lo_laws_toPushSSS_0 :: ks) l σ = rE fns fa_laws_toPushSSS n0 (.code lb_laws_toPushSSS_0 :: .code lo_laws_toPushSSS_0 :: ks) l σ := rE_loop
@[simp] theorem nt_laws_toInt64SS : fa_laws_toInt64SS.nt = 23 := rfl
@[simp] theorem rs_laws_toInt64SS : fa_laws_toInt64SS.rs = [.tmp 2] := rfl
@[simp] theorem fz_laws_toInt64SS : fa_laws_toInt64SS.fz = false := rfl
@[simp] theorem rsh_laws_toInt64SS : fa_laws_toInt64SS.rsh = .any := rfl
theorem go_laws_toInt64SS {args : List PV} {σ : List AObj} {r : PV × List AObj} (hl : args.length ≤ 23) (h : rE fns fa_laws_toInt64SS σ.length [.code ac_laws_toInt64SS] (frA 0 args) σ = some r) : ev fns i_laws_toInt64SS args σ = some r := ev_go n_laws_toInt64SS rfl hl h
theorem l_laws_toInt64SS_0 {ks : List KI} {l : Fr} {σ : List AObj} {n0 : Nat} : rE fns fa_laws_toInt64SS n0 (.code lo_laws_toInt64SS_0 :: ks) l σ = rE fns fa_laws_toInt64SS n0 (.code lb_laws_toInt64SS_0 :: .code lo_laws_toInt64SS_0 :: ks) l σ := rE_loop
@[simp] theorem nt_laws_toInt64SSS : fa_laws_toInt64SSS.nt = 23 := rfl
@[simp] theorem rs_laws_toInt64SSS : fa_laws_toInt64SSS.rs = [.tmp 2] := rfl
@[simp] theorem fz_laws_toInt64SSS : fa_laws_toInt64SSS.fz = false := rfl
@[simp] theorem rsh_laws_toInt64SSS : fa_laws_toInt64SSS.rsh = .any := rfl
theorem go_laws_toInt64SSS {args : List PV} {σ : List AObj} {r : PV × List AObj} (hl : args.length ≤ 23) (h : rE fns fa_laws_toInt64SSS σ.length [.code ac_laws_toInt64SSS] (frA 0 args) σ = some r) : ev fns i_laws_toInt64SSS args σ = some r := ev_go n_laws_toInt64SSS rfl hl h
theorem l_laws_toInt64SSS_0 {ks : List KI} {l : Fr} {σ : List AObj} {n0 : Nat} : rE fns fa_laws_toInt64SSS n0 (.code lo_laws_toInt64SSS_0 :: ks) l σ = rE fns fa_laws_toInt64SSS n0 (.code lb_laws_toInt64SSS_0 :: .code lo_laws_toInt64SSS_0 :: ks) l σ := rE_loop
@[simp] theorem nt_laws_toInt64SSSS : fa_laws_toInt64SSSS.nt = 23 := rfl
@[simp] theorem rs_laws_toInt64SSSS : fa_laws_toInt64SSSS.rs = [.tmp 2] := rfl
@[simp] theorem fz_laws_toInt64SSSS : fa_laws_toInt64SSSS.fz = false := rfl
@[simp] theorem rsh_laws_toInt64SSSS : fa_laws_toInt64SSSS.rsh = .any := rfl
theorem go_laws_toInt64SSSS {args : List PV} {σ : List AObj} {r : PV × List AObj} (hl : args.length ≤ 23) (h : rE fns fa_laws_toInt64SSSS σ.length [.code ac_laws_toInt64SSSS] (frA 0 args) σ = some r) : ev fns i_laws_toInt64SSSS args σ = some r := ev_go n_laws_toInt64SSSS rfl hl h
theorem l_laws_toInt64SSSS_0 {ks : List KI} {l : Fr} {σ : List AObj} {n0 : Nat} : rE fns fa_laws_toInt64SSSS n0 (.code lo_laws_toInt64SSSS_0 :: ks) l σ = rE fns fa_laws_toInt64SSSS n0 (.code lb_laws_toInt64SSSS_0 :: .code lo_laws_toInt64SSSS_0 :: ks) l σ := rE_loop
@[simp] theorem nt_laws_toChoices : fa_laws_toChoices.nt = 28 := rfl
@[simp] theorem rs_laws_toChoices : fa_laws_toChoices.rs = [.cell 2 6 true] := rfl
@[simp] theorem fz_laws_toChoices : fa_laws_toChoices.fz = false := rfl
@[simp] theorem rsh_laws_toChoices : fa_laws_toChoices.rsh = .any := rfl
theorem go_laws_toChoices {args : List PV} {σ : List AObj} {r : PV × List AObj} (hl : args.length ≤ 28) (h : rE fns fa_laws_toChoices σ.length [.code ac_laws_toChoices] (frA 0 args) σ = some r) : ev fns i_laws_toChoices args σ = some r := ev_go n_laws_toChoices rfl hl h
@[simp] theorem nt_impl_within : fa_impl_within.nt = 15 := rfl
@[simp] theorem rs_impl_within : fa_impl_within.rs = [.tmp 6] := rfl
@[simp] theorem fz_impl_within : fa_impl_within.fz = true := rfl
@[simp] theorem rsh_impl_within : fa_impl_within.rsh = .any := rfl
theorem go_impl_within {args : List PV} {σ : List AObj} {r : PV × List AObj} (hl : args.length ≤ 15) (h : rE fns fa_impl_within σ.length [.code ac_impl_within] (frA 0 args) σ = some r) : ev fns i_impl_within args σ = some r := ev_go n_impl_within rfl hl h
@[simp] theorem nt_impl_size_bool : fa_impl_size_bool.nt = 5 := rfl
@[simp] theorem rs_impl_size_bool : fa_impl_size_bool.rs = [.tmp 2] := rfl
@[simp] theorem fz_impl_size_bool : fa_impl_size_bool.fz = true := rfl
@[simp] theorem rsh_impl_size_bool : fa_impl_size_bool.rsh = .any := rfl
theorem go_impl_size_bool {args : List PV} {σ : List AObj} {r : PV × List AObj} (hl : args.length ≤ 5) (h : rE fns fa_impl_size_bool σ.length [.code ac_impl_size_bool] (frA 0 args) σ = some r) : ev fns i_impl_size_bool args σ = some r := ev_go n_impl_size_bool rfl hl h
@[simp] theorem nt_impl_size_L_L_int64 : fa_impl_size_L_L_int64.nt = 5 := rfl
@[simp] theorem rs_impl_size_L_L_int64 : fa_impl_size_L_L_int64.rs = [.tmp 2] := rfl
@[simp] theorem fz_impl_size_L_L_int64 : fa_impl_size_L_L_int64.fz = true := rfl
@[simp] theorem rsh_impl_size_L_L_int64 : fa_impl_size_L_L_int64.rsh = .any := rfl
theorem go_impl_size_L_L_int64 {args : List PV} {σ : List AObj} {r : PV × List AObj} (hl : args.length ≤ 5) (h : rE fns fa_impl_size_L_L_int64 σ.length [.code ac_impl_size_L_L_int64] (frA 0 args) σ = some r) : ev fns i_impl_size_L_L_int64 args σ = some r := ev_go n_impl_size_L_L_int64 rfl hl h
@[simp] theorem nt_impl_size_L_int64 : fa_impl_size_L_int64.nt = 5 := rfl
@[simp] theorem rs_impl_size_L_int64 : fa_impl_size_L_int64.rs = [.tmp 2] := rfl
@[simp] theorem fz_impl_size_L_int64 : fa_impl_size_L_int64.fz = true := rfl
@[simp] theorem rsh_impl_size_L_int64 : fa_impl_size_L_int64.rsh = .any := rfl
theorem go_impl_size_L_int64 {args : List PV} {σ : List AObj} {r : PV × List AObj} (hl : args.length ≤ 5) (h : rE fns fa_impl_size_L_int64 σ.length [.code ac_impl_size_L_int64] (frA 0 args) σ = some r) : ev fns i_impl_size_L_int64 args σ = some r := ev_go n_impl_size_L_int64 rfl hl h
@[simp] theorem nt_impl_isRising : fa_impl_isRising.nt = 33 := rfl
@[simp] theorem rs_impl_isRising : fa_impl_isRising.rs = [.tmp 4] := rfl
@[simp] theorem fz_impl_isRising : fa_impl_isRising.fz = true := rfl
@[simp] theorem rsh_impl_isRising : fa_impl_isRising.rsh = .any := rfl
theorem go_impl_isRising {args : List PV} {σ : List AObj} {r : PV × List AObj} (hl : args.length ≤ 33) (h : rE fns fa_impl_isRising σ.length [.code ac_impl_isRising] (frA 0 args) σ = some r) : ev fns i_impl_isRising args σ = some r := ev_go n_impl_isRising rfl hl h
theorem l_impl_isRising_0 {ks : List KI} {l : Fr} {σ : List AObj} {n0 : Nat} : rE fns fa_impl_isRising n0 (.code lo_impl_isRising_0 :: ks) l σ = rE fns fa_impl_isRising n0 (.code lb_impl_isRising_0 :: .code lo_impl_isRising_0 :: ks) l σ := rE_loop
@[simp] theorem nt_impl_size_L_L_impl_Push : fa_impl_size_L_L_impl_Push.nt = 5 := rfl
@[simp] theorem rs_impl_size_L_L_impl_Push : fa_impl_size_L_L_impl_Push.rs = [.tmp 2] := rfl
@[simp] theorem fz_impl_size_L_L_impl_Push : fa_impl_size_L_L_impl_Push.fz = true := rfl
@[simp] theorem rsh_impl_size_L_L_impl_Push : fa_impl_size_L_L_impl_Push.rsh = .any := rfl
theorem go_impl_size_L_L_impl_Push {args : List PV} {σ : List AObj} {r : PV × List AObj} (hl : args.length ≤ 5) (h : rE fns fa_impl_size_L_L_impl_Push σ.length [.code ac_impl_size_L_L_impl_Push] (frA 0 args) σ = some r) : ev fns i_impl_size_L_L_impl_Push args σ = some r := ev_go n_impl_size_L_L_impl_Push rfl hl h
@[simp] theorem nt_impl_size_L_L_L_int64 : fa_impl_size_L_L_L_int64.nt = 5 := rfl
@[simp] theorem rs_impl_size_L_L_L_int64 : fa_impl_size_L_L_L_int64.rs = [.tmp 2] := rfl
@[simp] theorem fz_impl_size_L_L_L_int64 : fa_impl_size_L_L_L_int64.fz = true := rfl
@[simp] theorem rsh_impl_size_L_L_L_int64 : fa_impl_size_L_L_L_int64.rsh = .any := rfl
theorem go_impl_size_L_L_L_int64 {args : List PV} {σ : List AObj} {r : PV × List AObj} (hl : args.length ≤ 5) (h : rE fns fa_impl_size_L_L_L_int64 σ.length [.code ac_impl_size_L_L_L_int64] (frA 0 args) σ = some r) : ev fns i_impl_size_L_L_L_int64 args σ = some r := ev_go n_impl_size_L_L_L_int64 rfl hl h
@[simp] theorem nt_cmp_Or_int : fa_cmp_Or_int.nt = 18 := rfl
@[simp] theorem rs_cmp_Or_int : fa_cmp_Or_int.rs = [.tmp 2] := rfl
@[simp] theorem fz_cmp_Or_int : fa_cmp_Or_int.fz = true := rfl
@[simp] theorem rsh_cmp_Or_int : fa_cmp_Or_int.rsh = .any := rfl
theorem go_cmp_Or_int {args : List PV} {σ : List AObj} {r : PV × List AObj} (hl : args.length ≤ 18) (h : rE fns fa_cmp_Or_int σ.length [.code ac_cmp_Or_int] (frA 0 args) σ = some r) : ev fns i_cmp_Or_int args σ = some r := ev_go n_cmp_Or_int rfl hl h
theorem l_cmp_Or_int_0 {ks : List KI} {l : Fr} {σ : List AObj} {n0 : Nat} : rE fns fa_cmp_Or_int n0 (.code lo_cmp_Or_int_0 :: ks) l σ = rE fns fa_cmp_Or_int n0 (.code lb_cmp_Or_int_0 :: .code lo_cmp_Or_int_0 :: ks) l σ := rE_loop
@[simp] theorem nt_cmp_isNaN_int64 : fa_cmp_isNaN_int64.nt = 6 := rfl
@[simp] theorem rs_cmp_isNaN_int64 : fa_cmp_isNaN_int64.rs = [.tmp 2] := rfl
@[simp] theorem fz_cmp_isNaN_int64 : fa_cmp_isNaN_int64.fz = true := rfl
@[simp] theorem rsh_cmp_isNaN_int64 : fa_cmp_isNaN_int64.rsh = .any := rfl
theorem go_cmp_isNaN_int64 {args : List PV} {σ : List AObj} {r : PV × List AObj} (hl : args.length ≤ 6) (h : rE fns fa_cmp_isNaN_int64 σ.length [.code ac_cmp_isNaN_int64] (frA 0 args) σ = some r) : ev fns i_cmp_isNaN_int64 args σ = some r := ev_go n_cmp_isNaN_int64 rfl hl h
@[simp] theorem nt_cmp_Compare_int64 : fa_cmp_Compare_int64.nt = 20 := rfl
@[simp] theorem rs_cmp_Compare_int64 : fa_cmp_Compare_int64.rs = [.tmp 4] := rfl
@[simp] theorem fz_cmp_Compare_int64 : fa_cmp_Compare_int64.fz = true := rfl
@[simp] theorem rsh_cmp_Compare_int64 : fa_cmp_Compare_int64.rsh = .any := rfl
theorem go_cmp_Compare_int64 {args : List PV} {σ : List AObj} {r : PV × List AObj} (hl : args.length ≤ 20) (h : rE fns fa_cmp_Compare_int64 σ.length [.code ac_cmp_Compare_int64] (frA 0 args) σ = some r) : ev fns i_cmp_Compare_int64 args σ = some r := ev_go n_cmp_Compare_int64 rfl hl h
@[simp] theorem nt_impl_comparePushes : fa_impl_comparePushes.nt = 17 := rfl
@[simp] theorem rs_impl_comparePushes : fa_impl_comparePushes.rs = [.tmp 4] := rfl
@[simp] theorem fz_impl_comparePushes : fa_impl_comparePushes.fz = true := rfl
@[simp] theorem rsh_impl_comparePushes : fa_impl_comparePushes.rsh = .any := rfl
theorem go_impl_comparePushes {args : List PV} {σ : List AObj} {r : PV × List AObj} (hl : args.length ≤ 17) (h : rE fns fa_impl_comparePushes σ.length [.code ac_impl_comparePushes] (frA 0 args) σ = some r) : ev fns i_impl_comparePushes args σ = some r := ev_go n_impl_comparePushes rfl hl h
@[simp] theorem nt_slices_IndexFunc_L_L_int64 : fa_slices_IndexFunc_L_L_int64.nt = 19 := rfl
@[simp] theorem rs_slices_IndexFunc_L_L_int64 : fa_slices_IndexFunc_L_L_int64.rs = [.tmp 4] := rfl
@[simp] theorem fz_slices_IndexFunc_L_L_int64 : fa_slices_IndexFunc_L_L_int64.fz = true := rfl
@[simp] theorem rsh_slices_IndexFunc_L_L_int64 : fa_slices_IndexFunc_L_L_int64.rsh = .any := rfl
theorem go_slices_IndexFunc_L_L_int64 {args : List PV} {σ : List AObj} {r : PV × List AObj} (hl : args.length ≤ 19) (h : rE fns fa_slices_IndexFunc_L_L_int64 σ.length [.code ac_slices_IndexFunc_L_L_int64] (frA 0 args) σ = some r) : ev fns i_slices_IndexFunc_L_L_int64 args σ = some r := ev_go n_slices_IndexFunc_L_L_int64 rfl hl h
theorem l_slices_IndexFunc_L_L_int64_0 {ks : List KI} {l : Fr} {σ : List AObj} {n0 : Nat} : rE fns fa_slices_IndexFunc_L_L_int64 n0 (.code lo_slices_IndexFunc_L_L_int64_0 :: ks) l σ = rE fns fa_slices_IndexFunc_L_L_int64 n0 (.code lb_slices_IndexFunc_L_L_int64_0 :: .code lo_slices_IndexFunc_L_L_int64_0 :: ks) l σ := rE_loop
@[simp] theorem nt_slices_ContainsFunc_L_L_int64 : fa_slices_ContainsFunc_L_L_int64.nt = 9 := rfl
@[simp] theorem rs_slices_ContainsFunc_L_L_int64 : fa_slices_ContainsFunc_L_L_int64.rs = [.tmp 4] := rfl
@[simp] theorem fz_slices_ContainsFunc_L_L_int64 : fa_slices_ContainsFunc_L_L_int64.fz = true := rfl
@[simp] theorem rsh_slices_ContainsFunc_L_L_int64 : fa_slices_ContainsFunc_L_L_int64.rsh = .any := rfl
theorem go_slices_ContainsFunc_L_L_int64 {args : List PV} {σ : List AObj} {r : PV × List AObj} (hl : args.length ≤ 9) (h : rE fns fa_slices_ContainsFunc_L_L_int64 σ.length [.code ac_slices_ContainsFunc_L_L_int64] (frA 0 args) σ = some r) : ev fns i_slices_ContainsFunc_L_L_int64 args σ = some r := ev_go n_slices_ContainsFunc_L_L_int64 rfl hl h
@[simp] theorem nt_impl_ValidChoices_1 : fa_impl_ValidChoices_1.nt = 8 := rfl
@[simp] theorem rs_impl_ValidChoices_1 : fa_impl_ValidChoices_1.rs = [.tmp 3] := rfl
@[simp] theorem fz_impl_ValidChoices_1 : fa_impl_ValidChoices_1.fz = true := rfl
@[simp] theorem rsh_impl_ValidChoices_1 : fa_impl_ValidChoices_1.rsh = .any := rfl
theorem go_impl_ValidChoices_1 {args : List PV} {σ : List AObj} {r : PV × List AObj} (hl : args.length ≤ 8) (h : rE fns fa_impl_ValidChoices_1 σ.length [.code ac_impl_ValidChoices_1] (frA 0 args) σ = some r) : ev fns i_impl_ValidChoices_1 args σ = some r := ev_go n_impl_ValidChoices_1 rfl hl h
@[simp] theorem nt_impl_ValidChoices : fa_impl_ValidChoices.nt = 171 := rfl
@[simp] theorem rs_impl_ValidChoices : fa_impl_ValidChoices.rs = [.tmp 2] := rfl
@[simp] theorem fz_impl_ValidChoices : fa_impl_ValidChoices.fz = true := rfl
@[simp] theorem rsh_impl_ValidChoices : fa_impl_ValidChoices.rsh = .any := rfl
theorem go_impl_ValidChoices {args : List PV} {σ : List AObj} {r : PV × List AObj} (hl : args.length ≤ 171) (h : rE fns fa_impl_ValidChoices σ.length [.code ac_impl_ValidChoices] (frA 0 args) σ = some r) : ev fns i_impl_ValidChoices args σ = some r := ev_go n_impl_ValidChoices rfl hl h
theorem l_impl_ValidChoices_0 {ks : List KI} {l : Fr} {σ : List AObj} {n0 : Nat} : rE fns fa_impl_ValidChoices n0 (.code lo_impl_ValidChoices_0 :: ks) l σ = rE fns fa_impl_ValidChoices n0 (.code lb_impl_ValidChoices_0 :: .code lo_impl_ValidChoices_0 :: ks) l σ := rE_loop
theorem l_impl_ValidChoices_1 {ks : List KI} {l : Fr} {σ : List AObj} {n0 : Nat} : rE fns fa_impl_ValidChoices n0 (.code lo_impl_ValidChoices_1 :: ks) l σ = rE fns fa_impl_ValidChoices n0 (.code lb_impl_ValidChoices_1 :: .code lo_impl_ValidChoices_1 :: ks) l σ := rE_loop
theorem l_impl_ValidChoices_2 {ks : List KI} {l : Fr} {σ : List AObj} {n0 : Nat} : rE fns fa_impl_ValidChoices n0 (.code lo_impl_ValidChoices_2 :: ks) l σ = rE fns fa_impl_ValidChoices n0 (.code lb_impl_ValidChoices_2 :: .code lo_impl_ValidChoices_2 :: ks) l σ := rE_loop
@[simp] theorem nt_impl_raised : fa_impl_raised.nt = 23 := rfl
@[simp] theorem rs_impl_raised : fa_impl_raised.rs = [.tmp 4] := rfl
@[simp] theorem fz_impl_raised : fa_impl_raised.fz = false := rfl
@[simp] theorem rsh_impl_raised : fa_impl_raised.rsh = .any := rfl
theorem go_impl_raised {args : List PV} {σ : List AObj} {r : PV × List AObj} (hl : args.length ≤ 23) (h : rE fns fa_impl_raised σ.length [.code ac_impl_raised] (frA 0 args) σ = some r) : ev fns i_impl_raised args σ = some r := ev_go n_impl_raised rfl hl h
theorem l_impl_raised_0 {ks : List KI} {l : Fr} {σ : List AObj} {n0 : Nat} : rE fns fa_impl_raised n0 (.code lo_impl_raised_0 :: ks) l σ = rE fns fa_impl_raised n0 (.code lb_impl_raised_0 :: .code lo_impl_raised_0 :: ks) l σ := rE_loop
@[simp] theorem nt_impl_EitherChoices_1 : fa_impl_EitherChoices_1.nt = 147 := rfl
@[simp] theorem rs_impl_EitherChoices_1 : fa_impl_EitherChoices_1.rs = [] := rfl
@[simp] theorem fz_impl_EitherChoices_1 : fa_impl_EitherChoices_1.fz = false := rfl
@[simp] theorem rsh_impl_EitherChoices_1 : fa_impl_EitherChoices_1.rsh = .any := rfl
theorem go_impl_EitherChoices_1 {args : List PV} {σ : List AObj} {r : PV × List AObj} (hl : args.length ≤ 147) (h : rE fns fa_impl_EitherChoices_1 σ.length [.code ac_impl_EitherChoices_1] (frA 0 args) σ = some r) : ev fns i_impl_EitherChoices_1 args σ = some r := ev_go n_impl_EitherChoices_1 rfl hl h
theorem l_impl_EitherChoices_1_0 {ks : List KI} {l : Fr} {σ : List AObj} {n0 : Nat} : rE fns fa_impl_EitherChoices_1 n0 (.code lo_impl_EitherChoices_1_0 :: ks) l σ = rE fns fa_impl_EitherChoices_1 n0 (.code lb_impl_EitherChoices_1_0 :: .code lo_impl_EitherChoices_1_0 :: ks) l σ := rE_loop
theorem l_impl_EitherChoices_1_1 {ks : List KI} {l : Fr} {σ : List AObj} {n0 : Nat} : rE fns fa_impl_EitherChoices_1 n0 (.code lo_impl_EitherChoices_1_1 :: ks) l σ = rE fns fa_impl_EitherChoices_1 n0 (.code lb_impl_EitherChoices_1_1 :: .code lo_impl_EitherChoices_1_1 :: ks) l σ := rE_loop
theorem l_impl_EitherChoices_1_2 {ks : List KI} {l : Fr} {σ : List AObj} {n0 : Nat} : rE fns fa_impl_EitherChoices_1 n0 (.code lo_impl_EitherChoices_1_2 :: ks) l σ = rE fns fa_impl_EitherChoices_1 n0 (.code lb_impl_EitherChoices_1_2 :: .code lo_impl_EitherChoices_1_2 :: ks) l σ := rE_loop
theorem l_impl_EitherChoices_1_3 {ks : List KI} {l : Fr} {σ : List AObj} {n0 : Nat} : rE fns fa_impl_EitherChoices_1 n0 (.code lo_impl_EitherChoices_1_3 :: ks) l σ = rE fns fa_impl_EitherChoices_1 n0 (.code lb_impl_EitherChoices_1_3 :: .code lo_impl_EitherChoices_1_3 :: ks) l σ := rE_loop
@[simp] theorem nt_impl_choicesOrLimit : fa_impl_choicesOrLimit.nt = 9 := rfl
@[simp] theorem rs_impl_choicesOrLimit : fa_impl_choicesOrLimit.rs = [.cell 2 6 true, .tmp 3] := rfl
@[simp] theorem fz_impl_choicesOrLimit : fa_impl_choicesOrLimit.fz = false := rfl
@[simp] theorem rsh_impl_choicesOrLimit : fa_impl_choicesOrLimit.rsh = .any := rfl
theorem go_impl_choicesOrLimit {args : List PV} {σ : List AObj} {r : PV × List AObj} (hl : args.length ≤ 9) (h : rE fns fa_impl_choicesOrLimit σ.length [.code ac_impl_choicesOrLimit] (frA 0 args) σ = some r) : ev fns i_impl_choicesOrLimit args σ = some r := ev_go n_impl_choicesOrLimit rfl hl h
@[simp] theorem nt_impl_EitherChoices : fa_impl_EitherChoices.nt = 39 := rfl
@[simp] theorem rs_impl_EitherChoices : fa_impl_EitherChoices.rs = [.cell 4 6 true, .tmp 5] := rfl
@[simp] theorem fz_impl_EitherChoices : fa_impl_EitherChoices.fz = false := rfl
@[simp] theorem rsh_impl_EitherChoices : fa_impl_EitherChoices.rsh = .any := rfl
theorem go_impl_EitherChoices {args : List PV} {σ : List AObj} {r : PV × List AObj} (hl : args.length ≤ 39) (h : rE fns fa_impl_EitherChoices σ.length [.code ac_impl_EitherChoices] (frA 0 args) σ = some r) : ev fns i_impl_EitherChoices args σ = some r := ev_go n_impl_EitherChoices rfl hl h
@[simp] theorem nt_laws_eqInt64S : fa_laws_eqInt64S.nt = 26 := rfl
@[simp] theorem rs_laws_eqInt64S : fa_laws_eqInt64S.rs = [.tmp 4] := rfl
@[simp] theorem fz_laws_eqInt64S : fa_laws_eqInt64S.fz = true := rfl
@[simp] theorem rsh_laws_eqInt64S : fa_laws_eqInt64S.rsh = .any := rfl
theorem go_laws_eqInt64S {args : List PV} {σ : List AObj} {r : PV × List AObj} (hl : args.length ≤ 26) (h : rE fns fa_laws_eqInt64S σ.length [.code ac_laws_eqInt64S] (frA 0 args) σ = some r) : ev fns i_laws_eqInt64S args σ = some r := ev_go n_laws_eqInt64S rfl hl h
theorem l_laws_eqInt64S_0 {ks : List KI} {l : Fr} {σ : List AObj} {n0 : Nat} : rE fns fa_laws_eqInt64S n0 (.code lo_laws_eqInt64S_0 :: ks) l σ = rE fns fa_laws_eqInt64S n0 (.code lb_laws_eqInt64S_0 :: .code lo_laws_eqInt64S_0 :: ks) l σ := rE_loop
@[simp] theorem nt_laws_eqBoolS : fa_laws_eqBoolS.nt = 26 := rfl
@[simp] theorem rs_laws_eqBoolS : fa_laws_eqBoolS.rs = [.tmp 4] := rfl
@[simp] theorem fz_laws_eqBoolS : fa_laws_eqBoolS.fz = true := rfl
@[simp] theorem rsh_laws_eqBoolS : fa_laws_eqBoolS.rsh = .any := rfl
theorem go_laws_eqBoolS {args : List PV} {σ : List AObj} {r : PV × List AObj} (hl : args.length ≤ 26) (h : rE fns fa_laws_eqBoolS σ.length [.code ac_laws_eqBoolS] (frA 0 args) σ = some r) : ev fns i_laws_eqBoolS args σ = some r := ev_go n_laws_eqBoolS rfl hl h
theorem l_laws_eqBoolS_0 {ks : List KI} {l : Fr} {σ : List AObj} {n0 : Nat} : rE fns fa_laws_eqBoolS n0 (.code lo_laws_eqBoolS_0 :: ks) l σ = rE fns fa_laws_eqBoolS n0 (.code lb_laws_eqBoolS_0 :: .code lo_laws_eqBoolS_0 :: ks) l σ := rE_loop
@[simp] theorem nt_laws_eqPush : fa_laws_eqPush.nt = 15 := rfl
@[simp] theorem rs_laws_eqPush : fa_laws_eqPush.rs = [.tmp 4] := rfl
@[simp] theorem fz_laws_eqPush : fa_laws_eqPush.fz = true := rfl
@[simp] theorem rsh_laws_eqPush : fa_laws_eqPush.rsh = .any := rfl
theorem go_laws_eqPush {args : List PV} {σ : List AObj} {r : PV × List AObj} (hl : args.length ≤ 15) (h : rE fns fa_laws_eqPush σ.length [.code ac_laws_eqPush] (frA 0 args) σ = some r) : ev fns i_laws_eqPush args σ = some r := ev_go n_laws_eqPush rfl hl h
@[simp] theorem nt_laws_eqPushS : fa_laws_eqPushS.nt = 27 := rfl
@[simp] theorem rs_laws_eqPushS : fa_laws_eqPushS.rs = [.tmp 4] := rfl
@[simp] theorem fz_laws_eqPushS : fa_laws_eqPushS.fz = true := rfl
@[simp] theorem rsh_laws_eqPushS : fa_laws_eqPushS.rsh = .any := rfl
theorem go_laws_eqPushS {args : List PV} {σ : List AObj} {r : PV × List AObj} (hl : args.length ≤ 27) (h : rE fns fa_laws_eqPushS σ.length [.code ac_laws_eqPushS] (frA 0 args) σ = some r) : ev fns i_laws_eqPushS args σ = some r := ev_go n_laws_eqPushS rfl hl h
theorem l_laws_eqPushS_0 {ks : List KI} {l : Fr} {σ : List AObj} {n0 : Nat} : rE fns fa_laws_eqPushS n0 (.code lo_laws_eqPushS_0 :: ks) l σ = rE fns fa_laws_eqPushS n0 (.code lb_laws_eqPushS_0 :: .code lo_laws_eqPushS_0 :: ks) l σ := rE_loop
@[simp] theorem nt_laws_eqPushSS : fa_laws_eqPushSS.nt = 27 := rfl
@[simp] theorem rs_laws_eqPushSS : fa_laws_eqPushSS.rs = [.tmp 4] := rfl
@[simp] theorem fz_laws_eqPushSS : fa_laws_eqPushSS.fz = true := rfl
@[simp] theorem rsh_laws_eqPushSS : fa_laws_eqPushSS.rsh = .any := rfl
theorem go_laws_eqPushSS {args : List PV} {σ : List AObj} {r : PV × List AObj} (hl : args.length ≤ 27) (h : rE fns fa_laws_eqPushSS σ.length [.code ac_laws_eqPushSS] (frA 0 args) σ = some r) : ev fns i_laws_eqPushSS args σ = some r := ev_go n_laws_eqPushSS rfl hl h
theorem l_laws_eqPushSS_0 {ks : List KI} {l : Fr} {σ : List AObj} {n0 : Nat} : rE fns fa_laws_eqPushSS n0 (.code lo_laws_eqPushSS_0 :: ks) l σ = rE fns fa_laws_eqPushSS n0 (.code lb_laws_eqPushSS_0 :: .code lo_laws_eqPushSS_0 :: ks) l σ := rE_loop
@[simp] theorem nt_laws_eqPushSSS : fa_laws_eqPushSSS.nt = 27 := rfl
@[simp] theorem rs_laws_eqPushSSS : fa_laws_eqPushSSS.rs = [.tmp 4] := rfl
@[simp] theorem fz_laws_eqPushSSS : fa_laws_eqPushSSS.fz = true := rfl
@[simp] theorem rsh_laws_eqPushSSS : fa_laws_eqPushSSS.rsh = .any := rfl
theorem go_laws_eqPushSSS {args : List PV} {σ : List AObj} {r : PV × List AObj} (hl : args.length ≤ 27) (h : rE fns fa_laws_eqPushSSS σ.length [.code ac_laws_eqPushSSS] (frA 0 args) σ = some r) : ev fns i_laws_eqPushSSS args σ = some r := ev_go n_laws_eqPushSSS rfl hl h
theorem l_laws_eqPushSSS_0 {ks : List KI} {l : Fr} {σ : List AObj} {n0 : Nat} : rE fns fa_laws_eqPushSSS n0 (.code lo_laws_eqPushSSS_0 :: ks) l σ = rE fns fa_laws_eqPushSSS n0 (.code lb_laws_eqPushSSS_0 :: .code lo_laws_eqPushSSS_0 :: ks) l σ := rE_loop
@[simp] theorem nt_laws_eqInt64SS : fa_laws_eqInt64SS.nt = 27 := rfl
@[simp] theorem rs_laws_eqInt64SS : fa_laws_eqInt64SS.rs = [.tmp 4] := rfl
@[simp] theorem fz_laws_eqInt64SS : fa_laws_eqInt64SS.fz = true := rfl
@[simp] theorem rsh_laws_eqInt64SS : fa_laws_eqInt64SS.rsh = .any := rfl
theorem go_laws_eqInt64SS {args : List PV} {σ : List AObj} {r : PV × List AObj} (hl : args.length ≤ 27) (h : rE fns fa_laws_eqInt64SS σ.length [.code ac_laws_eqInt64SS] (frA 0 args) σ = some r) : ev fns i_laws_eqInt64SS args σ = some r := ev_go n_laws_eqInt64SS rfl hl h
theorem l_laws_eqInt64SS_0 {ks : List KI} {l : Fr} {σ : List AObj} {n0 : Nat} : rE fns fa_laws_eqInt64SS n0 (.code lo_laws_eqInt64SS_0 :: ks) l σ = rE fns fa_laws_eqInt64SS n0 (.code lb_laws_eqInt64SS_0 :: .code lo_laws_eqInt64SS_0 :: ks) l σ := rE_loop
@[simp] theorem nt_laws_eqInt64SSS : fa_laws_eqInt64SSS.nt = 27 := rfl
@[simp] theorem rs_laws_eqInt64SSS : fa_laws_eqInt64SSS.rs = [.tmp 4] := rfl
@[simp] theorem fz_laws_eqInt64SSS : fa_laws_eqInt64SSS.fz = true := rfl
@[simp] theorem rsh_laws_eqInt64SSS : fa_laws_eqInt64SSS.rsh = .any := rfl
theorem go_laws_eqInt64SSS {args : List PV} {σ : List AObj} {r : PV × List AObj} (hl : args.length ≤ 27) (h : rE fns fa_laws_eqInt64SSS σ.length [.code ac_laws_eqInt64SSS] (frA 0 args) σ = some r) : ev fns i_laws_eqInt64SSS args σ = some r := ev_go n_laws_eqInt64SSS rfl hl h
theorem l_laws_eqInt64SSS_0 {ks : List KI} {l : Fr} {σ : List AObj} {n0 : Nat} : rE fns fa_laws_eqInt64SSS n0 (.code lo_laws_eqInt64SSS_0 :: ks) l σ = rE fns fa_laws_eqInt64SSS n0 (.code lb_laws_eqInt64SSS_0 :: .code lo_laws_eqInt64SSS_0 :: ks) l σ := rE_loop
@[simp] theorem nt_laws_eqInt64SSSS : fa_laws_eqInt64SSSS.nt = 27 := rfl
@[simp] theorem rs_laws_eqInt64SSSS : fa_laws_eqInt64SSSS.rs = [.tmp 4] := rfl
@[simp] theorem fz_laws_eqInt64SSSS : fa_laws_eqInt64SSSS.fz = true := rfl
@[simp] theorem rsh_laws_eqInt64SSSS : fa_laws_eqInt64SSSS.rsh = .any := rfl
theorem go_laws_eqInt64SSSS {args : List PV} {σ : List AObj} {r : PV × List AObj} (hl : args.length ≤ 27) (h : rE fns fa_laws_eqInt64SSSS σ.length [.code ac_laws_eqInt64SSSS] (frA 0 args) σ = some r) : ev fns i_laws_eqInt64SSSS args σ = some r := ev_go n_laws_eqInt64SSSS rfl hl h
theorem l_laws_eqInt64SSSS_0 {ks : List KI} {l : Fr} {σ : List AObj} {n0 : Nat} : rE fns fa_laws_eqInt64SSSS n0 (.code lo_laws_eqInt64SSSS_0 :: ks) l σ = rE fns fa_laws_eqInt64SSSS n0 (.code lb_laws_eqInt64SSSS_0 :: .code lo_laws_eqInt64SSSS_0 :: ks) l σ := rE_loop
@[simp] theorem nt_laws_eqChoices : fa_laws_eqChoices.nt = 40 := rfl
@[simp] theorem rs_laws_eqChoices : fa_laws_eqChoices.rs = [.tmp 4] := rfl
@[simp] theorem fz_laws_eqChoices : fa_laws_eqChoices.fz = true := rfl
@[simp] theorem rsh_laws_eqChoices : fa_laws_eqChoices.rsh = .any := rfl
theorem go_laws_eqChoices {args : List PV} {σ : List AObj} {r : PV × List AObj} (hl : args.length ≤ 40) (h : rE fns fa_laws_eqChoices σ.length [.code ac_laws_eqChoices] (frA 0 args) σ = some r) : ev fns i_laws_eqChoices args σ = some r := ev_go n_laws_eqChoices rfl hl h
@[simp] theorem nt_laws_markInt64S : fa_laws_markInt64S.nt = 19 := rfl
@[simp] theorem rs_laws_markInt64S : fa_laws_markInt64S.rs = [.tmp 4] := rfl
@[simp] theorem fz_laws_markInt64S : fa_laws_markInt64S.fz = false := rfl
@[simp] theorem rsh_laws_markInt64S : fa_laws_markInt64S.rsh = .any := rfl
theorem go_laws_markInt64S {args : List PV} {σ : List AObj} {r : PV × List AObj} (hl : args.length ≤ 19) (h : rE fns fa_laws_markInt64S σ.length [.code ac_laws_markInt64S] (frA 0 args) σ = some r) : ev fns i_laws_markInt64S args σ = some r := ev_go n_laws_markInt64S rfl hl h
theorem l_laws_markInt64S_0 {ks : List KI} {l : Fr} {σ : List AObj} {n0 : Nat} : rE fns fa_laws_markInt64S n0 (.code lo_laws_markInt64S_0 :: ks) l σ = rE fns fa_laws_markInt64S n0 (.code lb_laws_markInt64S_0 :: .code lo_laws_markInt64S_0 :: ks) l σ := rE_loop
@[simp] theorem nt_laws_markBoolS : fa_laws_markBoolS.nt = 21 := rfl
@[simp] theorem rs_laws_markBoolS : fa_laws_markBoolS.rs = [.tmp 4] := rfl
@[simp] theorem fz_laws_markBoolS : fa_laws_markBoolS.fz = false := rfl
@[simp] theorem rsh_laws_markBoolS : fa_laws_markBoolS.rsh = .any := rfl
theorem go_laws_markBoolS {args : List PV} {σ : List AObj} {r : PV × List AObj} (hl : args.length ≤ 21) (h : rE fns fa_laws_markBoolS σ.length [.code ac_laws_markBoolS] (frA 0 args) σ = some r) : ev fns i_laws_markBoolS args σ = some r := ev_go n_laws_markBoolS rfl hl h
theorem l_laws_markBoolS_0 {ks : List KI} {l : Fr} {σ : List AObj} {n0 : Nat} : rE fns fa_laws_markBoolS n0 (.code lo_laws_markBoolS_0 :: ks) l σ = rE fns fa_laws_markBoolS n0 (.code lb_laws_markBoolS_0 :: .code lo_laws_markBoolS_0 :: ks) l σ := rE_loop
@[simp] theorem nt_laws_markPushS : fa_laws_markPushS.nt = 27 := rfl
@[simp] theorem rs_laws_markPushS : fa_laws_markPushS.rs = [.tmp 4] := rfl
@[simp] theorem fz_laws_markPushS : fa_laws_markPushS.fz = false := rfl
@[simp] theorem rsh_laws_markPushS : fa_laws_markPushS.rsh = .any := rfl
theorem go_laws_markPushS {args : List PV} {σ : List AObj} {r : PV × List AObj} (hl : args.length ≤ 27) (h : rE fns fa_laws_markPushS σ.length [.code ac_laws_markPushS] (frA 0 args) σ = some r) : ev fns i_laws_markPushS args σ = some r := ev_go n_laws_markPushS rfl hl h
theorem l_laws_markPushS_0 {ks : List KI} {l : Fr} {σ : List AObj} {n0 : Nat} : rE fns fa_laws_markPushS n0 (.code lo_laws_markPushS_0 :: ks) l σ = rE fns fa_laws_markPushS n0 (.code lb_laws_markPushS_0 :: .code lo_laws_markPushS_0 :: ks) l σ := rE_loop
@[simp] theorem nt_laws_markPushSS : fa_laws_markPushSS.nt = 19 := rfl
@[simp] theorem rs_laws_markPushSS : fa_laws_markPushSS.rs = [.tmp 4] := rfl
@[simp] theorem fz_laws_markPushSS : fa_laws_markPushSS.fz = false := rfl
@[simp] theorem rsh_laws_markPushSS : fa_laws_markPushSS.rsh = .any := rfl
theorem go_laws_markPushSS {args : List PV} {σ : List AObj} {r : PV × List AObj} (hl : args.length ≤ 19) (h : rE fns fa_laws_markPushSS σ.length [.code ac_laws_markPushSS] (frA 0 args) σ = some r) : ev fns i_laws_markPushSS args σ = some r := ev_go n_laws_markPushSS rfl hl h
theorem l_laws_markPushSS_0 {ks : List KI} {l : Fr} {σ : List AObj} {n0 : Nat} : rE fns fa_laws_markPushSS n0 (.code lo_laws_markPushSS_0 :: ks) l σ = rE fns fa_laws_markPushSS n0 (.code lb_laws_markPushSS_0 :: .code lo_laws_markPushSS_0 :: ks) l σ := rE_loop
@[simp] theorem nt_laws_markPushSSS : fa_laws_markPushSSS.nt = 19 := rfl
@[simp] theorem rs_laws_markPushSSS : fa_laws_markPushSSS.rs = [.tmp 4] := rfl
@[simp] theorem fz_laws_markPushSSS : fa_laws_markPushSSS.fz = false := rfl
@[simp] theorem rsh_laws_markPushSSS : fa_laws_markPushSSS.rsh = .any := rfl
theorem go_laws_markPushSSS {args : List PV} {σ : List AObj} {r : PV × List AObj} (hl : args.length ≤ 19) (h : rE fns fa_laws_markPushSSS σ.length [.code ac_laws_markPushSSS] (frA 0 args) σ = some r) : ev fns i_laws_markPushSSS args σ = some r := ev_go n_laws_markPushSSS rfl hl h
theorem l_laws_markPushSSS_0 {ks : List KI} {l : Fr} {σ : List AObj} {n0 : Nat} : rE fns fa_laws_markPushSSS n0 (.code lo_laws_markPushSSS_0 :: ks) l σ = rE fns fa_laws_markPushSSS n0 (.code lb_laws_markPushSSS_0 :: .code lo_laws_markPushSSS_0 :: ks) l σ := rE_loop
@[simp] theorem nt_laws_markInt64SS : fa_laws_markInt64SS.nt = 19 := rfl
@[simp] theorem rs_laws_markInt64SS : fa_laws_markInt64SS.rs = [.tmp 4] := rfl
@[simp] theorem fz_laws_markInt64SS : fa_laws_markInt64SS.fz = false := rfl
@[simp] theorem rsh_laws_markInt64SS : fa_laws_markInt64SS.rsh = .any := rfl
theorem go_laws_markInt64SS {args : List PV} {σ : List AObj} {r : PV × List AObj} (hl : args.length ≤ 19) (h : rE fns fa_laws_markInt64SS σ.length [.code ac_laws_markInt64SS] (frA 0 args) σ = some r) : ev fns i_laws_markInt64SS args σ = some r := ev_go n_laws_markInt64SS rfl hl h
theorem l_laws_markInt64SS_0 {ks : List KI} {l : Fr} {σ : List AObj} {n0 : Nat} : rE fns fa_laws_markInt64SS n0 (.code lo_laws_markInt64SS_0 :: ks) l σ = rE fns fa_laws_markInt64SS n0 (.code lb_laws_markInt64SS_0 :: .code lo_laws_markInt64SS_0 :: ks) l σ := rE_loop
@[simp] theorem nt_laws_markInt64SSS : fa_laws_markInt64SSS.nt = 19 := rfl
@[simp] theorem rs_laws_markInt64SSS : fa_laws_markInt64SSS.rs = [.tmp 4] := rfl
@[simp] theorem fz_laws_markInt64SSS : fa_laws_markInt64SSS.fz = false := rfl
@[simp] theorem rsh_laws_markInt64SSS : fa_laws_markInt64SSS.rsh = .any := rfl
theorem go_laws_markInt64SSS {args : List PV} {σ : List AObj} {r : PV × List AObj} (hl : args.length ≤ 19) (h : rE fns fa_laws_markInt64SSS σ.length [.code ac_laws_markInt64SSS] (frA 0 args) σ = some r) : ev fns i_laws_markInt64SSS args σ = some r := ev_go n_laws_markInt64SSS rfl hl h
theorem l_laws_markInt64SSS_0 {ks : List KI} {l : Fr} {σ : List AObj} {n0 : Nat} : rE fns fa_laws_markInt64SSS n0 (.code lo_laws_markInt64SSS_0 :: ks) l σ = rE fns fa_laws_markInt64SSS n0 (.code lb_laws_markInt64SSS_0 :: .code lo_laws_markInt64SSS_0 :: ks) l σ := rE_loop
@[simp] theorem nt_laws_markInt64SSSS : fa_laws_markInt64SSSS.nt = 19 := rfl
@[simp] theorem rs_laws_markInt64SSSS : fa_laws_markInt64SSSS.rs = [.tmp 4] := rfl
@[simp] theorem fz_laws_markInt64SSSS : fa_laws_markInt64SSSS.fz = false := rfl
@[simp] theorem rsh_laws_markInt64SSSS : fa_laws_markInt64SSSS.rsh = .any := rfl
theorem go_laws_markInt64SSSS {args : List PV} {σ : List AObj} {r : PV × List AObj} (hl : args.length ≤ 19) (h : rE fns fa_laws_markInt64SSSS σ.length [.code ac_laws_markInt64SSSS] (frA 0 args) σ = some r) : ev fns i_laws_markInt64SSSS args σ = some r := ev_go n_laws_markInt64SSSS rfl hl h
theorem l_laws_markInt64SSSS_0 {ks : List KI} {l : Fr} {σ : List AObj} {n0 : Nat} : rE fns fa_laws_markInt64SSSS n0 (.code lo_laws_markInt64SSSS_0 :: ks) l σ = rE fns fa_laws_markInt64SSSS n0 (.code lb_laws_markInt64SSSS_0 :: .code lo_laws_markInt64SSSS_0 :: ks) l σ := rE_loop
@[simp] theorem nt_laws_markChoices : fa_laws_markChoices.nt = 26 := rfl
@[simp] theorem rs_laws_markChoices : fa_laws_markChoices.rs = [.tmp 4] := rfl
@[simp] theorem fz_laws_markChoices : fa_laws_markChoices.fz = false := rfl
@[simp] theorem rsh_laws_markChoices : fa_laws_markChoices.rsh = .any := rfl
theorem go_laws_markChoices {args : List PV} {σ : List AObj} {r : PV × List AObj} (hl : args.length ≤ 26) (h : rE fns fa_laws_markChoices σ.length [.code ac_laws_markChoices] (frA 0 args) σ = some r) : ev fns i_laws_markChoices args σ = some r := ev_go n_laws_markChoices rfl hl h
@[simp] theorem nt_laws_heldInt64S : fa_laws_heldInt64S.nt = 21 := rfl
@[simp] theorem rs_laws_heldInt64S : fa_laws_heldInt64S.rs = [.tmp 4] := rfl
@[simp] theorem fz_laws_heldInt64S : fa_laws_heldInt64S.fz = true := rfl
@[simp] theorem rsh_laws_heldInt64S : fa_laws_heldInt64S.rsh = .any := rfl
theorem go_laws_heldInt64S {args : List PV} {σ : List AObj} {r : PV × List AObj} (hl : args.length ≤ 21) (h : rE fns fa_laws_heldInt64S σ.length [.code ac_laws_heldInt64S] (frA 0 args) σ = some r) : ev fns i_laws_heldInt64S args σ = some r := ev_go n_laws_heldInt64S rfl hl h
theorem l_laws_heldInt64S_0 {ks : List KI} {l : Fr} {σ : List AObj} {n0 : Nat} : rE fns fa_laws_heldInt64S n0 (.code lo_laws_heldInt64S_0 :: ks) l σ = rE fns fa_laws_heldInt64S n0 (.code lb_laws_heldInt64S_0 :: .code lo_laws_heldInt64S_0 :: ks) l σ := rE_loop
@[simp] theorem nt_laws_heldBoolS : fa_laws_heldBoolS.nt = 23 := rfl
@[simp] theorem rs_laws_heldBoolS : fa_laws_heldBoolS.rs = [.tmp 4] := rfl
@[simp] theorem fz_laws_heldBoolS : fa_laws_heldBoolS.fz = true := rfl
@[simp] theorem rsh_laws_heldBoolS : fa_laws_heldBoolS.rsh = .any := rfl
theorem go_laws_heldBoolS {args : List PV} {σ : List AObj} {r : PV × List AObj} (hl : args.length ≤ 23) (h : rE fns fa_laws_heldBoolS σ.length [.code ac_laws_heldBoolS] (frA 0 args) σ = some r) : ev fns i_laws_heldBoolS args σ = some r := ev_go n_laws_heldBoolS rfl hl h
theorem l_laws_heldBoolS_0 {ks : List KI} {l : Fr} {σ : List AObj} {n0 : Nat} : rE fns fa_laws_heldBoolS n0 (.code lo_laws_heldBoolS_0 :: ks) l σ = rE fns fa_laws_heldBoolS n0 (.code lb_laws_heldBoolS_0 :: .code lo_laws_heldBoolS_0 :: ks) l σ := rE_loop
@[simp] theorem nt_laws_heldPushS : fa_laws_heldPushS.nt = 31 := rfl
@[simp] theorem rs_laws_heldPushS : fa_laws_heldPushS.rs = [.tmp 4] := rfl
@[simp] theorem fz_laws_heldPushS : fa_laws_heldPushS.fz = true := rfl
@[simp] theorem rsh_laws_heldPushS : fa_laws_heldPushS.rsh = .any := rfl
theorem go_laws_heldPushS {args : List PV} {σ : List AObj} {r : PV × List AObj} (hl : args.length ≤ 31) (h : rE fns fa_laws_heldPushS σ.length [.code ac_laws_heldPushS] (frA 0 args) σ = some r) : ev fns i_laws_heldPushS args σ = some r := ev_go n_laws_heldPushS rfl hl h
theorem l_laws_heldPushS_0 {ks : List KI} {l : Fr} {σ : List AObj} {n0 : Nat} : rE fns fa_laws_heldPushS n0 (.code lo_laws_heldPushS_0 :: ks) l σ = rE fns fa_laws_heldPushS n0 (.code lb_laws_heldPushS_0 :: .code lo_laws_heldPushS_0 :: ks) l σ := rE_loop
@[simp] theorem nt_laws_heldPushSS : fa_laws_heldPushSS.nt = 21 := rfl
@[simp] theorem rs_laws_heldPushSS : fa_laws_heldPushSS.rs = [.tmp 4] := rfl
@[simp] theorem fz_laws_heldPushSS : fa_laws_heldPushSS.fz = true := rfl
@[simp] theorem rsh_laws_heldPushSS : fa_laws_heldPushSS.rsh = .any := rfl
theorem go_laws_heldPushSS {args : List PV} {σ : List AObj} {r : PV × List AObj} (hl : args.length ≤ 21) (h : rE fns fa_laws_heldPushSS σ.length [.code ac_laws_heldPushSS] (frA 0 args) σ = some r) : ev fns i_laws_heldPushSS args σ = some r := ev_go n_laws_heldPushSS rfl hl h
theorem l_laws_heldPushSS_0 {ks : List KI} {l : Fr} {σ : List AObj} {n0 : Nat} : rE fns fa_laws_heldPushSS n0 (.code lo_laws_heldPushSS_0 :: ks) l σ = rE fns fa_laws_heldPushSS n0 (.code lb_laws_heldPushSS_0 :: .code lo_laws_heldPushSS_0 :: ks) l σ := rE_loop
@[simp] theorem nt_laws_heldPushSSS : fa_laws_heldPushSSS.nt = 21 := rfl
@[simp] theorem rs_laws_heldPushSSS : fa_laws_heldPushSSS.rs = [.tmp 4] := rfl
@[simp] theorem fz_laws_heldPushSSS : fa_laws_heldPushSSS.fz = true := rfl
@[simp] theorem rsh_laws_heldPushSSS : fa_laws_heldPushSSS.rsh = .any := rfl
theorem go_laws_heldPushSSS {args : List PV} {σ : List AObj} {r : PV × List AObj} (hl : args.length ≤ 21) (h : rE fns fa_laws_heldPushSSS σ.length [.code ac_laws_heldPushSSS] (frA 0 args) σ = some r) : ev fns i_laws_heldPushSSS args σ = some r := ev_go n_laws_heldPushSSS rfl hl h
theorem l_laws_heldPushSSS_0 {ks : List KI} {l : Fr} {σ : List AObj} {n0 : Nat} : rE fns fa_laws_heldPushSSS n0 (.code lo_laws_heldPushSSS_0 :: ks) l σ = rE fns fa_laws_heldPushSSS n0 (.code lb_laws_heldPushSSS_0 :: .code lo_laws_heldPushSSS_0 :: ks) l σ := rE_loop
@[simp] theorem nt_laws_heldInt64SS : fa_laws_heldInt64SS.nt = 21 := rfl
@[simp] theorem rs_laws_heldInt64SS : fa_laws_heldInt64SS.rs = [.tmp 4] := rfl
@[simp] theorem fz_laws_heldInt64SS : fa_laws_heldInt64SS.fz = true := rfl
@[simp] theorem rsh_laws_heldInt64SS : fa_laws_heldInt64SS.rsh = .any := rfl
theorem go_laws_heldInt64SS {args : List PV} {σ : List AObj} {r : PV × List AObj} (hl : args.length ≤ 21) (h : rE fns fa_laws_heldInt64SS σ.length [.code ac_laws_heldInt64SS] (frA 0 args) σ = some r) : ev fns i_laws_heldInt64SS args σ = some r := ev_go n_laws_heldInt64SS rfl hl h
theorem l_laws_heldInt64SS_0 {ks : List KI} {l : Fr} {σ : List AObj} {n0 : Nat} : rE fns fa_laws_heldInt64SS n0 (.code lo_laws_heldInt64SS_0 :: ks) l σ = rE fns fa_laws_heldInt64SS n0 (.code lb_laws_heldInt64SS_0 :: .code lo_laws_heldInt64SS_0 :: ks) l σ := rE_loop
@[simp] theorem nt_laws_heldInt64SSS : fa_laws_heldInt64SSS.nt = 21 := rfl
@[simp] theorem rs_laws_heldInt64SSS : fa_laws_heldInt64SSS.rs = [.tmp 4] := rfl
@[simp] theorem fz_laws_heldInt64SSS : fa_laws_heldInt64SSS.fz = true := rfl
@[simp] theorem rsh_laws_heldInt64SSS : fa_laws_heldInt64SSS.rsh = .any := rfl
theorem go_laws_heldInt64SSS {args : List PV} {σ : List AObj} {r : PV × List AObj} (hl : args.length ≤ 21) (h : rE fns fa_laws_heldInt64SSS σ.length [.code ac_laws_heldInt64SSS] (frA 0 args) σ = some r) : ev fns i_laws_heldInt64SSS args σ = some r := ev_go n_laws_heldInt64SSS rfl hl h
theorem l_laws_heldInt64SSS_0 {ks : List KI} {l : Fr} {σ : List AObj} {n0 : Nat} : rE fns fa_laws_heldInt64SSS n0 (.code lo_laws_heldInt64SSS_0 :: ks) l σ = rE fns fa_laws_heldInt64SSS n0 (.code lb_laws_heldInt64SSS_0 :: .code lo_laws_heldInt64SSS_0 :: ks) l σ := rE_loop
@[simp] theorem nt_laws_heldInt64SSSS : fa_laws_heldInt64SSSS.nt = 21 := rfl
@[simp] theorem rs_laws_heldInt64SSSS : fa_laws_heldInt64SSSS.rs = [.tmp 4] := rfl
@[simp] theorem fz_laws_heldInt64SSSS : fa_laws_heldInt64SSSS.fz = true := rfl
@[simp] theorem rsh_laws_heldInt64SSSS : fa_laws_heldInt64SSSS.rsh = .any := rfl
theorem go_laws_heldInt64SSSS {args : List PV} {σ : List AObj} {r : PV × List AObj} (hl : args.length ≤ 21) (h : rE fns fa_laws_heldInt64SSSS σ.length [.code ac_laws_heldInt64SSSS] (frA 0 args) σ = some r) : ev fns i_laws_heldInt64SSSS args σ = some r := ev_go n_laws_heldInt64SSSS rfl hl h
theorem l_laws_heldInt64SSSS_0 {ks : List KI} {l : Fr} {σ : List AObj} {n0 : Nat} : rE fns fa_laws_heldInt64SSSS n0 (.code lo_laws_heldInt64SSSS_0 :: ks) l σ = rE fns fa_laws_heldInt64SSSS n0 (.code lb_laws_heldInt64SSSS_0 :: .code lo_laws_heldInt64SSSS_0 :: ks) l σ := rE_loop
@[simp] theorem nt_laws_heldChoices : fa_laws_heldChoices.nt = 36 := rfl
@[simp] theorem rs_laws_heldChoices : fa_laws_heldChoices.rs = [.tmp 4] := rfl
@[simp] theorem fz_laws_heldChoices : fa_laws_heldChoices.fz = true := rfl
@[simp] theorem rsh_laws_heldChoices : fa_laws_heldChoices.rsh = .any := rfl
theorem go_laws_heldChoices {args : List PV} {σ : List AObj} {r : PV × List AObj} (hl : args.length ≤ 36) (h : rE fns fa_laws_heldChoices σ.length [.code ac_laws_heldChoices] (frA 0 args) σ = some r) : ev fns i_laws_heldChoices args σ = some r := ev_go n_laws_heldChoices rfl hl h
@[simp] theorem nt_laws_FnExactEitherChoices : fa_laws_FnExactEitherChoices.nt = 119 := rfl
@[simp] theorem rs_laws_FnExactEitherChoices : fa_laws_FnExactEitherChoices.rs = [.tmp 4] := rfl
@[simp] theorem fz_laws_FnExactEitherChoices : fa_laws_FnExactEitherChoices.fz = true := rfl
@[simp] theorem rsh_laws_FnExactEitherChoices : fa_laws_FnExactEitherChoices.rsh = .any := rfl
theorem go_laws_FnExactEitherChoices {args : List PV} {σ : List AObj} {r : PV × List AObj} (hl : args.length ≤ 119) (h : rE fns fa_laws_FnExactEitherChoices σ.length [.code ac_laws_FnExactEitherChoices] (frA 0 args) σ = some r) : ev fns i_laws_FnExactEitherChoices args σ = some r := ev_go n_laws_FnExactEitherChoices rfl hl h
end Go.Proofs.Ytlolldjkahkbfaa
