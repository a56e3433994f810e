/- The table of all functions; printed by a program (gen2.py). -/
import Derived.Test.YtoliadfdklfmfaaAw30
import Derived.Test.YtoliadfdklfmfaaG0
import Derived.Test.YtoliadfdklfmfaaG1
import Derived.Test.YtoliadfdklfmfaaSp
set_option linter.unusedVariables false
set_option maxRecDepth 100000
namespace Go.Proofs.Ytoliadfdklfmfaa
open Aw
def tbl : List (FnE Try.prog) := [⟨i_laws_szBoolS, fa_laws_szBoolS, cf_laws_szBoolS⟩,
  ⟨i_laws_szPushS, fa_laws_szPushS, cf_laws_szPushS⟩,
  ⟨i_laws_szPushSS, fa_laws_szPushSS, cf_laws_szPushSS⟩,
  ⟨i_laws_szInt64S, fa_laws_szInt64S, cf_laws_szInt64S⟩,
  ⟨i_laws_szInt64SS, fa_laws_szInt64SS, cf_laws_szInt64SS⟩,
  ⟨i_laws_szInt64SSS, fa_laws_szInt64SSS, cf_laws_szInt64SSS⟩,
  ⟨i_laws_szChecker, fa_laws_szChecker, cf_laws_szChecker⟩,
  ⟨i_laws_toBoolS, fa_laws_toBoolS, cf_laws_toBoolS⟩,
  ⟨i_laws_toPush, fa_laws_toPush, cf_laws_toPush⟩,
  ⟨i_laws_toPushS, fa_laws_toPushS, cf_laws_toPushS⟩,
  ⟨i_laws_toPushSS, fa_laws_toPushSS, cf_laws_toPushSS⟩,
  ⟨i_laws_toInt64S, fa_laws_toInt64S, cf_laws_toInt64S⟩,
  ⟨i_laws_toInt64SS, fa_laws_toInt64SS, cf_laws_toInt64SS⟩,
  ⟨i_laws_toInt64SSS, fa_laws_toInt64SSS, cf_laws_toInt64SSS⟩,
  ⟨i_laws_toChecker, fa_laws_toChecker, cf_laws_toChecker⟩,
  ⟨i_laws_eqBoolS, fa_laws_eqBoolS, cf_laws_eqBoolS⟩,
  ⟨i_laws_eqInt64S, fa_laws_eqInt64S, cf_laws_eqInt64S⟩,
  ⟨i_laws_eqInt64SS, fa_laws_eqInt64SS, cf_laws_eqInt64SS⟩,
  ⟨i_laws_eqInt64SSS, fa_laws_eqInt64SSS, cf_laws_eqInt64SSS⟩,
  ⟨i_laws_eqPush, fa_laws_eqPush, cf_laws_eqPush⟩,
  ⟨i_laws_eqPushS, fa_laws_eqPushS, cf_laws_eqPushS⟩,
  ⟨i_laws_eqPushSS, fa_laws_eqPushSS, cf_laws_eqPushSS⟩,
  ⟨i_laws_eqChecker, fa_laws_eqChecker, cf_laws_eqChecker⟩,
  ⟨i_laws_markBoolS, fa_laws_markBoolS, cf_laws_markBoolS⟩,
  ⟨i_laws_markPushS, fa_laws_markPushS, cf_laws_markPushS⟩,
  ⟨i_laws_markPushSS, fa_laws_markPushSS, cf_laws_markPushSS⟩,
  ⟨i_laws_markInt64S, fa_laws_markInt64S, cf_laws_markInt64S⟩,
  ⟨i_laws_markInt64SS, fa_laws_markInt64SS, cf_laws_markInt64SS⟩,
  ⟨i_laws_markInt64SSS, fa_laws_markInt64SSS, cf_laws_markInt64SSS⟩,
  ⟨i_laws_markChecker, fa_laws_markChecker, cf_laws_markChecker⟩,
  ⟨i_spec_l00In, fa_spec_l00In, cf_spec_l00In⟩,
  ⟨i_spec_l02List, fa_spec_l02List, cf_spec_l02List⟩,
  ⟨i_spec_l02Ok, fa_spec_l02Ok, cf_spec_l02Ok⟩,
  ⟨i_spec_l00Own, fa_spec_l00Own, cf_spec_l00Own⟩,
  ⟨i_spec_l00Has, fa_spec_l00Has, cf_spec_l00Has⟩,
  ⟨i_spec_l00Put, fa_spec_l00Put, cf_spec_l00Put⟩,
  ⟨i_spec_l02Used, fa_spec_l02Used, cf_spec_l02Used⟩,
  ⟨i_spec_TrimChecker, fa_spec_TrimChecker, cf_spec_TrimChecker⟩,
  ⟨i_impl_size_bool, fa_impl_size_bool, cf_impl_size_bool⟩,
  ⟨i_impl_within, fa_impl_within, cf_impl_within⟩,
  ⟨i_impl_Checker_isState, fa_impl_Checker_isState, cf_impl_Checker_isState⟩,
  ⟨i_impl_size_L_impl_Push, fa_impl_size_L_impl_Push, cf_impl_size_L_impl_Push⟩,
  ⟨i_impl_size_L_L_int64, fa_impl_size_L_L_int64, cf_impl_size_L_L_int64⟩,
  ⟨i_impl_size_L_int64, fa_impl_size_L_int64, cf_impl_size_L_int64⟩,
  ⟨i_impl_size_int64, fa_impl_size_int64, cf_impl_size_int64⟩,
  ⟨i_slices_IndexFunc_L_int64, fa_slices_IndexFunc_L_int64, cf_slices_IndexFunc_L_int64⟩,
  ⟨i_slices_ContainsFunc_L_int64, fa_slices_ContainsFunc_L_int64, cf_slices_ContainsFunc_L_int64⟩,
  ⟨i_impl_ValidChecker_1_1, fa_impl_ValidChecker_1_1, cf_impl_ValidChecker_1_1⟩,
  ⟨i_impl_ValidChecker_1, fa_impl_ValidChecker_1, cf_impl_ValidChecker_1⟩,
  ⟨i_impl_Checker_isMark, fa_impl_Checker_isMark, cf_impl_Checker_isMark⟩,
  ⟨i_impl_ValidChecker, fa_impl_ValidChecker, cf_impl_ValidChecker⟩,
  ⟨i_slices_Grow_L_int64, fa_slices_Grow_L_int64, cf_slices_Grow_L_int64⟩,
  ⟨i_slices_Concat_L_int64, fa_slices_Concat_L_int64, cf_slices_Concat_L_int64⟩,
  ⟨i_slices_Index_L_int64, fa_slices_Index_L_int64, cf_slices_Index_L_int64⟩,
  ⟨i_slices_Contains_L_int64, fa_slices_Contains_L_int64, cf_slices_Contains_L_int64⟩,
  ⟨i_impl_Checker_used, fa_impl_Checker_used, cf_impl_Checker_used⟩,
  ⟨i_impl_TrimChecker_1, fa_impl_TrimChecker_1, cf_impl_TrimChecker_1⟩,
  ⟨i_impl_built, fa_impl_built, cf_impl_built⟩,
  ⟨i_impl_TrimChecker_2, fa_impl_TrimChecker_2, cf_impl_TrimChecker_2⟩,
  ⟨i_impl_TrimChecker_3, fa_impl_TrimChecker_3, cf_impl_TrimChecker_3⟩,
  ⟨i_impl_TrimChecker_4, fa_impl_TrimChecker_4, cf_impl_TrimChecker_4⟩,
  ⟨i_impl_TrimChecker_5, fa_impl_TrimChecker_5, cf_impl_TrimChecker_5⟩,
  ⟨i_impl_TrimChecker, fa_impl_TrimChecker, cf_impl_TrimChecker⟩,
  ⟨i_laws_heldBoolS, fa_laws_heldBoolS, cf_laws_heldBoolS⟩,
  ⟨i_laws_heldInt64S, fa_laws_heldInt64S, cf_laws_heldInt64S⟩,
  ⟨i_laws_heldInt64SS, fa_laws_heldInt64SS, cf_laws_heldInt64SS⟩,
  ⟨i_laws_heldInt64SSS, fa_laws_heldInt64SSS, cf_laws_heldInt64SSS⟩,
  ⟨i_laws_heldPushS, fa_laws_heldPushS, cf_laws_heldPushS⟩,
  ⟨i_laws_heldPushSS, fa_laws_heldPushSS, cf_laws_heldPushSS⟩,
  ⟨i_laws_heldChecker, fa_laws_heldChecker, cf_laws_heldChecker⟩,
  ⟨i_laws_FnExactTrimChecker, fa_laws_FnExactTrimChecker, cf_laws_FnExactTrimChecker⟩,
  ⟨i_slices_Sort_L_int64, fs_slices_Sort_L_int64, ok_slices_Sort_L_int64⟩]
def fns : Fns := fnsOf tbl
theorem fnsOk : FnsOk Try.prog fns := fnsOf_ok tbl
theorem n_slices_Sort_L_int64 : fns i_slices_Sort_L_int64 = some fs_slices_Sort_L_int64 := rfl
@[simp] theorem c_slices_Sort_L_int64 (args : List PV) (σ : List AObj) : callM fns (ev fns) i_slices_Sort_L_int64 args σ = ev fns i_slices_Sort_L_int64 args σ := by simp [callM, n_slices_Sort_L_int64, fs_slices_Sort_L_int64]
theorem sp_slices_Sort_L_int64 (args : List PV) (σ : List AObj) : ev fns i_slices_Sort_L_int64 args σ = spSort args σ := ev_sp n_slices_Sort_L_int64 rfl args σ
theorem n_laws_szBoolS : fns i_laws_szBoolS = some fa_laws_szBoolS := rfl
@[simp] theorem c_laws_szBoolS (args : List PV) (σ : List AObj) : callM fns (ev fns) i_laws_szBoolS args σ = callN fns i_laws_szBoolS args σ := callM_np n_laws_szBoolS rfl rfl
theorem n_laws_szPushS : fns i_laws_szPushS = some fa_laws_szPushS := rfl
@[simp] theorem c_laws_szPushS (args : List PV) (σ : List AObj) : callM fns (ev fns) i_laws_szPushS args σ = callN fns i_laws_szPushS args σ := callM_np n_laws_szPushS rfl rfl
theorem n_laws_szPushSS : fns i_laws_szPushSS = some fa_laws_szPushSS := rfl
@[simp] theorem c_laws_szPushSS (args : List PV) (σ : List AObj) : callM fns (ev fns) i_laws_szPushSS args σ = callN fns i_laws_szPushSS args σ := callM_np n_laws_szPushSS rfl rfl
theorem n_laws_szInt64S : fns i_laws_szInt64S = some fa_laws_szInt64S := rfl
@[simp] theorem c_laws_szInt64S (args : List PV) (σ : List AObj) : callM fns (ev fns) i_laws_szInt64S args σ = callN fns i_laws_szInt64S args σ := callM_np n_laws_szInt64S rfl rfl
theorem n_laws_szInt64SS : fns i_laws_szInt64SS = some fa_laws_szInt64SS := rfl
@[simp] theorem c_laws_szInt64SS (args : List PV) (σ : List AObj) : callM fns (ev fns) i_laws_szInt64SS args σ = callN fns i_laws_szInt64SS args σ := callM_np n_laws_szInt64SS rfl rfl
theorem n_laws_szInt64SSS : fns i_laws_szInt64SSS = some fa_laws_szInt64SSS := rfl
@[simp] theorem c_laws_szInt64SSS (args : List PV) (σ : List AObj) : callM fns (ev fns) i_laws_szInt64SSS args σ = callN fns i_laws_szInt64SSS args σ := callM_np n_laws_szInt64SSS rfl rfl
theorem n_laws_szChecker : fns i_laws_szChecker = some fa_laws_szChecker := rfl
@[simp] theorem c_laws_szChecker (args : List PV) (σ : List AObj) : callM fns (ev fns) i_laws_szChecker args σ = callN fns i_laws_szChecker args σ := callM_np n_laws_szChecker rfl rfl
theorem n_laws_toBoolS : fns i_laws_toBoolS = some fa_laws_toBoolS := rfl
@[simp] theorem c_laws_toBoolS (args : List PV) (σ : List AObj) : callM fns (ev fns) i_laws_toBoolS args σ = callN fns i_laws_toBoolS args σ := callM_np n_laws_toBoolS rfl rfl
theorem n_laws_toPush : fns i_laws_toPush = some fa_laws_toPush := rfl
@[simp] theorem c_laws_toPush (args : List PV) (σ : List AObj) : callM fns (ev fns) i_laws_toPush args σ = callN fns i_laws_toPush args σ := callM_np n_laws_toPush rfl rfl
theorem n_laws_toPushS : fns i_laws_toPushS = some fa_laws_toPushS := rfl
@[simp] theorem c_laws_toPushS (args : List PV) (σ : List AObj) : callM fns (ev fns) i_laws_toPushS args σ = callN fns i_laws_toPushS args σ := callM_np n_laws_toPushS rfl rfl
theorem n_laws_toPushSS : fns i_laws_toPushSS = some fa_laws_toPushSS := rfl
@[simp] theorem c_laws_toPushSS (args : List PV) (σ : List AObj) : callM fns (ev fns) i_laws_toPushSS args σ = callN fns i_laws_toPushSS args σ := callM_np n_laws_toPushSS rfl rfl
theorem n_laws_toInt64S : fns i_laws_toInt64S = some fa_laws_toInt64S := rfl
@[simp] theorem c_laws_toInt64S (args : List PV) (σ : List AObj) : callM fns (ev fns) i_laws_toInt64S args σ = callN fns i_laws_toInt64S args σ := callM_np n_laws_toInt64S rfl rfl
theorem n_laws_toInt64SS : fns i_laws_toInt64SS = some fa_laws_toInt64SS := rfl
@[simp] theorem c_laws_toInt64SS (args : List PV) (σ : List AObj) : callM fns (ev fns) i_laws_toInt64SS args σ = callN fns i_laws_toInt64SS args σ := callM_np n_laws_toInt64SS rfl rfl
theorem n_laws_toInt64SSS : fns i_laws_toInt64SSS = some fa_laws_toInt64SSS := rfl
@[simp] theorem c_laws_toInt64SSS (args : List PV) (σ : List AObj) : callM fns (ev fns) i_laws_toInt64SSS args σ = callN fns i_laws_toInt64SSS args σ := callM_np n_laws_toInt64SSS rfl rfl
theorem n_laws_toChecker : fns i_laws_toChecker = some fa_laws_toChecker := rfl
@[simp] theorem c_laws_toChecker (args : List PV) (σ : List AObj) : callM fns (ev fns) i_laws_toChecker args σ = callN fns i_laws_toChecker args σ := callM_np n_laws_toChecker rfl rfl
theorem n_laws_eqBoolS : fns i_laws_eqBoolS = some fa_laws_eqBoolS := rfl
@[simp] theorem c_laws_eqBoolS (args : List PV) (σ : List AObj) : callM fns (ev fns) i_laws_eqBoolS args σ = callN fns i_laws_eqBoolS args σ := callM_np n_laws_eqBoolS rfl rfl
theorem n_laws_eqInt64S : fns i_laws_eqInt64S = some fa_laws_eqInt64S := rfl
@[simp] theorem c_laws_eqInt64S (args : List PV) (σ : List AObj) : callM fns (ev fns) i_laws_eqInt64S args σ = callT fns [(.lst 1 .any), (.lst 1 .any)] i_laws_eqInt64S args σ := callM_ty n_laws_eqInt64S rfl
theorem n_laws_eqInt64SS : fns i_laws_eqInt64SS = some fa_laws_eqInt64SS := rfl
@[simp] theorem c_laws_eqInt64SS (args : List PV) (σ : List AObj) : callM fns (ev fns) i_laws_eqInt64SS args σ = callT fns [(.lst 1 (.lst 1 .any)), (.lst 1 (.lst 1 .any))] i_laws_eqInt64SS args σ := callM_ty n_laws_eqInt64SS rfl
theorem n_laws_eqInt64SSS : fns i_laws_eqInt64SSS = some fa_laws_eqInt64SSS := rfl
@[simp] theorem c_laws_eqInt64SSS (args : List PV) (σ : List AObj) : callM fns (ev fns) i_laws_eqInt64SSS args σ = callN fns i_laws_eqInt64SSS args σ := callM_np n_laws_eqInt64SSS rfl rfl
theorem n_laws_eqPush : fns i_laws_eqPush = some fa_laws_eqPush := rfl
@[simp] theorem c_laws_eqPush (args : List PV) (σ : List AObj) : callM fns (ev fns) i_laws_eqPush args σ = callN fns i_laws_eqPush args σ := callM_np n_laws_eqPush rfl rfl
theorem n_laws_eqPushS : fns i_laws_eqPushS = some fa_laws_eqPushS := rfl
@[simp] theorem c_laws_eqPushS (args : List PV) (σ : List AObj) : callM fns (ev fns) i_laws_eqPushS args σ = callN fns i_laws_eqPushS args σ := callM_np n_laws_eqPushS rfl rfl
theorem n_laws_eqPushSS : fns i_laws_eqPushSS = some fa_laws_eqPushSS := rfl
@[simp] theorem c_laws_eqPushSS (args : List PV) (σ : List AObj) : callM fns (ev fns) i_laws_eqPushSS args σ = callN fns i_laws_eqPushSS args σ := callM_np n_laws_eqPushSS rfl rfl
theorem n_laws_eqChecker : fns i_laws_eqChecker = some fa_laws_eqChecker := rfl
@[simp] theorem c_laws_eqChecker (args : List PV) (σ : List AObj) : callM fns (ev fns) i_laws_eqChecker args σ = callT fns [(.agg [.any, .any, (.lst 1 .any), (.lst 1 (.lst 2 .any)), (.lst 1 (.lst 1 (.lst 1 .any))), (.lst 1 (.lst 1 .any))]), (.agg [.any, .any, (.lst 1 .any), (.lst 1 (.lst 2 .any)), (.lst 1 (.lst 1 (.lst 1 .any))), (.lst 1 (.lst 1 .any))])] i_laws_eqChecker args σ := callM_ty n_laws_eqChecker rfl
theorem n_laws_markBoolS : fns i_laws_markBoolS = some fa_laws_markBoolS := rfl
@[simp] theorem c_laws_markBoolS (args : List PV) (σ : List AObj) : callM fns (ev fns) i_laws_markBoolS args σ = ev fns i_laws_markBoolS args σ := by simp [callM, n_laws_markBoolS, fa_laws_markBoolS]
theorem n_laws_markPushS : fns i_laws_markPushS = some fa_laws_markPushS := rfl
@[simp] theorem c_laws_markPushS (args : List PV) (σ : List AObj) : callM fns (ev fns) i_laws_markPushS args σ = ev fns i_laws_markPushS args σ := by simp [callM, n_laws_markPushS, fa_laws_markPushS]
theorem n_laws_markPushSS : fns i_laws_markPushSS = some fa_laws_markPushSS := rfl
@[simp] theorem c_laws_markPushSS (args : List PV) (σ : List AObj) : callM fns (ev fns) i_laws_markPushSS args σ = ev fns i_laws_markPushSS args σ := by simp [callM, n_laws_markPushSS, fa_laws_markPushSS]
theorem n_laws_markInt64S : fns i_laws_markInt64S = some fa_laws_markInt64S := rfl
@[simp] theorem c_laws_markInt64S (args : List PV) (σ : List AObj) : callM fns (ev fns) i_laws_markInt64S args σ = ev fns i_laws_markInt64S args σ := by simp [callM, n_laws_markInt64S, fa_laws_markInt64S]
theorem n_laws_markInt64SS : fns i_laws_markInt64SS = some fa_laws_markInt64SS := rfl
@[simp] theorem c_laws_markInt64SS (args : List PV) (σ : List AObj) : callM fns (ev fns) i_laws_markInt64SS args σ = ev fns i_laws_markInt64SS args σ := by simp [callM, n_laws_markInt64SS, fa_laws_markInt64SS]
theorem n_laws_markInt64SSS : fns i_laws_markInt64SSS = some fa_laws_markInt64SSS := rfl
@[simp] theorem c_laws_markInt64SSS (args : List PV) (σ : List AObj) : callM fns (ev fns) i_laws_markInt64SSS args σ = ev fns i_laws_markInt64SSS args σ := by simp [callM, n_laws_markInt64SSS, fa_laws_markInt64SSS]
theorem n_laws_markChecker : fns i_laws_markChecker = some fa_laws_markChecker := rfl
@[simp] theorem c_laws_markChecker (args : List PV) (σ : List AObj) : callM fns (ev fns) i_laws_markChecker args σ = ev fns i_laws_markChecker args σ := by simp [callM, n_laws_markChecker, fa_laws_markChecker]
theorem n_spec_l00In : fns i_spec_l00In = some fa_spec_l00In := rfl
@[simp] theorem c_spec_l00In (args : List PV) (σ : List AObj) : callM fns (ev fns) i_spec_l00In args σ = callN fns i_spec_l00In args σ := callM_np n_spec_l00In rfl rfl
theorem n_spec_l02List : fns i_spec_l02List = some fa_spec_l02List := rfl
@[simp] theorem c_spec_l02List (args : List PV) (σ : List AObj) : callM fns (ev fns) i_spec_l02List args σ = callN fns i_spec_l02List args σ := callM_np n_spec_l02List rfl rfl
theorem n_spec_l02Ok : fns i_spec_l02Ok = some fa_spec_l02Ok := rfl
@[simp] theorem c_spec_l02Ok (args : List PV) (σ : List AObj) : callM fns (ev fns) i_spec_l02Ok args σ = callN fns i_spec_l02Ok args σ := callM_np n_spec_l02Ok rfl rfl
theorem n_spec_l00Own : fns i_spec_l00Own = some fa_spec_l00Own := rfl
@[simp] theorem c_spec_l00Own (args : List PV) (σ : List AObj) : callM fns (ev fns) i_spec_l00Own args σ = callN fns i_spec_l00Own args σ := callM_np n_spec_l00Own rfl rfl
theorem n_spec_l00Has : fns i_spec_l00Has = some fa_spec_l00Has := rfl
@[simp] theorem c_spec_l00Has (args : List PV) (σ : List AObj) : callM fns (ev fns) i_spec_l00Has args σ = callN fns i_spec_l00Has args σ := callM_np n_spec_l00Has rfl rfl
theorem n_spec_l00Put : fns i_spec_l00Put = some fa_spec_l00Put := rfl
@[simp] theorem c_spec_l00Put (args : List PV) (σ : List AObj) : callM fns (ev fns) i_spec_l00Put args σ = callN fns i_spec_l00Put args σ := callM_np n_spec_l00Put rfl rfl
theorem n_spec_l02Used : fns i_spec_l02Used = some fa_spec_l02Used := rfl
@[simp] theorem c_spec_l02Used (args : List PV) (σ : List AObj) : callM fns (ev fns) i_spec_l02Used args σ = callN fns i_spec_l02Used args σ := callM_np n_spec_l02Used rfl rfl
theorem n_spec_TrimChecker : fns i_spec_TrimChecker = some fa_spec_TrimChecker := rfl
@[simp] theorem c_spec_TrimChecker (args : List PV) (σ : List AObj) : callM fns (ev fns) i_spec_TrimChecker args σ = callT fns [(.agg [.any, .any, (.lst 1 .any), (.lst 1 (.lst 2 .any)), (.lst 1 (.lst 1 (.lst 1 .any))), (.lst 1 (.lst 1 .any))])] i_spec_TrimChecker args σ := callM_ty n_spec_TrimChecker rfl
theorem n_impl_size_bool : fns i_impl_size_bool = some fa_impl_size_bool := rfl
@[simp] theorem c_impl_size_bool (args : List PV) (σ : List AObj) : callM fns (ev fns) i_impl_size_bool args σ = callN fns i_impl_size_bool args σ := callM_np n_impl_size_bool rfl rfl
theorem n_impl_within : fns i_impl_within = some fa_impl_within := rfl
@[simp] theorem c_impl_within (args : List PV) (σ : List AObj) : callM fns (ev fns) i_impl_within args σ = callN fns i_impl_within args σ := callM_np n_impl_within rfl rfl
theorem n_impl_Checker_isState : fns i_impl_Checker_isState = some fa_impl_Checker_isState := rfl
@[simp] theorem c_impl_Checker_isState (args : List PV) (σ : List AObj) : callM fns (ev fns) i_impl_Checker_isState args σ = callN fns i_impl_Checker_isState args σ := callM_np n_impl_Checker_isState rfl rfl
theorem n_impl_size_L_impl_Push : fns i_impl_size_L_impl_Push = some fa_impl_size_L_impl_Push := rfl
@[simp] theorem c_impl_size_L_impl_Push (args : List PV) (σ : List AObj) : callM fns (ev fns) i_impl_size_L_impl_Push args σ = callN fns i_impl_size_L_impl_Push args σ := callM_np n_impl_size_L_impl_Push rfl rfl
theorem n_impl_size_L_L_int64 : fns i_impl_size_L_L_int64 = some fa_impl_size_L_L_int64 := rfl
@[simp] theorem c_impl_size_L_L_int64 (args : List PV) (σ : List AObj) : callM fns (ev fns) i_impl_size_L_L_int64 args σ = callN fns i_impl_size_L_L_int64 args σ := callM_np n_impl_size_L_L_int64 rfl rfl
theorem n_impl_size_L_int64 : fns i_impl_size_L_int64 = some fa_impl_size_L_int64 := rfl
@[simp] theorem c_impl_size_L_int64 (args : List PV) (σ : List AObj) : callM fns (ev fns) i_impl_size_L_int64 args σ = callN fns i_impl_size_L_int64 args σ := callM_np n_impl_size_L_int64 rfl rfl
theorem n_impl_size_int64 : fns i_impl_size_int64 = some fa_impl_size_int64 := rfl
@[simp] theorem c_impl_size_int64 (args : List PV) (σ : List AObj) : callM fns (ev fns) i_impl_size_int64 args σ = callN fns i_impl_size_int64 args σ := callM_np n_impl_size_int64 rfl rfl
theorem n_slices_IndexFunc_L_int64 : fns i_slices_IndexFunc_L_int64 = some fa_slices_IndexFunc_L_int64 := rfl
@[simp] theorem c_slices_IndexFunc_L_int64 (args : List PV) (σ : List AObj) : callM fns (ev fns) i_slices_IndexFunc_L_int64 args σ = callN fns i_slices_IndexFunc_L_int64 args σ := callM_np n_slices_IndexFunc_L_int64 rfl rfl
theorem n_slices_ContainsFunc_L_int64 : fns i_slices_ContainsFunc_L_int64 = some fa_slices_ContainsFunc_L_int64 := rfl
@[simp] theorem c_slices_ContainsFunc_L_int64 (args : List PV) (σ : List AObj) : callM fns (ev fns) i_slices_ContainsFunc_L_int64 args σ = callN fns i_slices_ContainsFunc_L_int64 args σ := callM_np n_slices_ContainsFunc_L_int64 rfl rfl
theorem n_impl_ValidChecker_1_1 : fns i_impl_ValidChecker_1_1 = some fa_impl_ValidChecker_1_1 := rfl
@[simp] theorem c_impl_ValidChecker_1_1 (args : List PV) (σ : List AObj) : callM fns (ev fns) i_impl_ValidChecker_1_1 args σ = callN fns i_impl_ValidChecker_1_1 args σ := callM_np n_impl_ValidChecker_1_1 rfl rfl
theorem n_impl_ValidChecker_1 : fns i_impl_ValidChecker_1 = some fa_impl_ValidChecker_1 := rfl
@[simp] theorem c_impl_ValidChecker_1 (args : List PV) (σ : List AObj) : callM fns (ev fns) i_impl_ValidChecker_1 args σ = callN fns i_impl_ValidChecker_1 args σ := callM_np n_impl_ValidChecker_1 rfl rfl
theorem n_impl_Checker_isMark : fns i_impl_Checker_isMark = some fa_impl_Checker_isMark := rfl
@[simp] theorem c_impl_Checker_isMark (args : List PV) (σ : List AObj) : callM fns (ev fns) i_impl_Checker_isMark args σ = callN fns i_impl_Checker_isMark args σ := callM_np n_impl_Checker_isMark rfl rfl
theorem n_impl_ValidChecker : fns i_impl_ValidChecker = some fa_impl_ValidChecker := rfl
@[simp] theorem c_impl_ValidChecker (args : List PV) (σ : List AObj) : callM fns (ev fns) i_impl_ValidChecker args σ = callN fns i_impl_ValidChecker args σ := callM_np n_impl_ValidChecker rfl rfl
theorem n_slices_Grow_L_int64 : fns i_slices_Grow_L_int64 = some fa_slices_Grow_L_int64 := rfl
@[simp] theorem c_slices_Grow_L_int64 (args : List PV) (σ : List AObj) : callM fns (ev fns) i_slices_Grow_L_int64 args σ = callN fns i_slices_Grow_L_int64 args σ := callM_np n_slices_Grow_L_int64 rfl rfl
theorem n_slices_Concat_L_int64 : fns i_slices_Concat_L_int64 = some fa_slices_Concat_L_int64 := rfl
@[simp] theorem c_slices_Concat_L_int64 (args : List PV) (σ : List AObj) : callM fns (ev fns) i_slices_Concat_L_int64 args σ = callN fns i_slices_Concat_L_int64 args σ := callM_np n_slices_Concat_L_int64 rfl rfl
theorem n_slices_Index_L_int64 : fns i_slices_Index_L_int64 = some fa_slices_Index_L_int64 := rfl
@[simp] theorem c_slices_Index_L_int64 (args : List PV) (σ : List AObj) : callM fns (ev fns) i_slices_Index_L_int64 args σ = callN fns i_slices_Index_L_int64 args σ := callM_np n_slices_Index_L_int64 rfl rfl
theorem n_slices_Contains_L_int64 : fns i_slices_Contains_L_int64 = some fa_slices_Contains_L_int64 := rfl
@[simp] theorem c_slices_Contains_L_int64 (args : List PV) (σ : List AObj) : callM fns (ev fns) i_slices_Contains_L_int64 args σ = callN fns i_slices_Contains_L_int64 args σ := callM_np n_slices_Contains_L_int64 rfl rfl
theorem n_impl_Checker_used : fns i_impl_Checker_used = some fa_impl_Checker_used := rfl
@[simp] theorem c_impl_Checker_used (args : List PV) (σ : List AObj) : callM fns (ev fns) i_impl_Checker_used args σ = callT fns [(.agg [.any, .any, (.lst 1 .any), (.lst 1 (.lst 2 .any)), (.lst 1 (.lst 1 (.lst 1 .any))), (.lst 1 (.lst 1 .any))])] i_impl_Checker_used args σ := callM_ty n_impl_Checker_used rfl
theorem n_impl_TrimChecker_1 : fns i_impl_TrimChecker_1 = some fa_impl_TrimChecker_1 := rfl
@[simp] theorem c_impl_TrimChecker_1 (args : List PV) (σ : List AObj) : callM fns (ev fns) i_impl_TrimChecker_1 args σ = callN fns i_impl_TrimChecker_1 args σ := callM_np n_impl_TrimChecker_1 rfl rfl
theorem n_impl_built : fns i_impl_built = some fa_impl_built := rfl
@[simp] theorem c_impl_built (args : List PV) (σ : List AObj) : callM fns (ev fns) i_impl_built args σ = callN fns i_impl_built args σ := callM_np n_impl_built rfl rfl
theorem n_impl_TrimChecker_2 : fns i_impl_TrimChecker_2 = some fa_impl_TrimChecker_2 := rfl
@[simp] theorem c_impl_TrimChecker_2 (args : List PV) (σ : List AObj) : callM fns (ev fns) i_impl_TrimChecker_2 args σ = callN fns i_impl_TrimChecker_2 args σ := callM_np n_impl_TrimChecker_2 rfl rfl
theorem n_impl_TrimChecker_3 : fns i_impl_TrimChecker_3 = some fa_impl_TrimChecker_3 := rfl
@[simp] theorem c_impl_TrimChecker_3 (args : List PV) (σ : List AObj) : callM fns (ev fns) i_impl_TrimChecker_3 args σ = callN fns i_impl_TrimChecker_3 args σ := callM_np n_impl_TrimChecker_3 rfl rfl
theorem n_impl_TrimChecker_4 : fns i_impl_TrimChecker_4 = some fa_impl_TrimChecker_4 := rfl
@[simp] theorem c_impl_TrimChecker_4 (args : List PV) (σ : List AObj) : callM fns (ev fns) i_impl_TrimChecker_4 args σ = callN fns i_impl_TrimChecker_4 args σ := callM_np n_impl_TrimChecker_4 rfl rfl
theorem n_impl_TrimChecker_5 : fns i_impl_TrimChecker_5 = some fa_impl_TrimChecker_5 := rfl
@[simp] theorem c_impl_TrimChecker_5 (args : List PV) (σ : List AObj) : callM fns (ev fns) i_impl_TrimChecker_5 args σ = callN fns i_impl_TrimChecker_5 args σ := callM_np n_impl_TrimChecker_5 rfl rfl
theorem n_impl_TrimChecker : fns i_impl_TrimChecker = some fa_impl_TrimChecker := rfl
@[simp] theorem c_impl_TrimChecker (args : List PV) (σ : List AObj) : callM fns (ev fns) i_impl_TrimChecker args σ = callT fns [(.agg [.any, .any, (.lst 1 .any), (.lst 1 (.lst 2 .any)), (.lst 1 (.lst 1 (.lst 1 .any))), (.lst 1 (.lst 1 .any))])] i_impl_TrimChecker args σ := callM_ty n_impl_TrimChecker rfl
theorem n_laws_heldBoolS : fns i_laws_heldBoolS = some fa_laws_heldBoolS := rfl
@[simp] theorem c_laws_heldBoolS (args : List PV) (σ : List AObj) : callM fns (ev fns) i_laws_heldBoolS args σ = callN fns i_laws_heldBoolS args σ := callM_np n_laws_heldBoolS rfl rfl
theorem n_laws_heldInt64S : fns i_laws_heldInt64S = some fa_laws_heldInt64S := rfl
@[simp] theorem c_laws_heldInt64S (args : List PV) (σ : List AObj) : callM fns (ev fns) i_laws_heldInt64S args σ = callT fns [(.lst 1 .any), .any] i_laws_heldInt64S args σ := callM_ty n_laws_heldInt64S rfl
theorem n_laws_heldInt64SS : fns i_laws_heldInt64SS = some fa_laws_heldInt64SS := rfl
@[simp] theorem c_laws_heldInt64SS (args : List PV) (σ : List AObj) : callM fns (ev fns) i_laws_heldInt64SS args σ = callT fns [(.lst 1 (.lst 1 .any)), .any] i_laws_heldInt64SS args σ := callM_ty n_laws_heldInt64SS rfl
theorem n_laws_heldInt64SSS : fns i_laws_heldInt64SSS = some fa_laws_heldInt64SSS := rfl
@[simp] theorem c_laws_heldInt64SSS (args : List PV) (σ : List AObj) : callM fns (ev fns) i_laws_heldInt64SSS args σ = callN fns i_laws_heldInt64SSS args σ := callM_np n_laws_heldInt64SSS rfl rfl
theorem n_laws_heldPushS : fns i_laws_heldPushS = some fa_laws_heldPushS := rfl
@[simp] theorem c_laws_heldPushS (args : List PV) (σ : List AObj) : callM fns (ev fns) i_laws_heldPushS args σ = callN fns i_laws_heldPushS args σ := callM_np n_laws_heldPushS rfl rfl
theorem n_laws_heldPushSS : fns i_laws_heldPushSS = some fa_laws_heldPushSS := rfl
@[simp] theorem c_laws_heldPushSS (args : List PV) (σ : List AObj) : callM fns (ev fns) i_laws_heldPushSS args σ = callN fns i_laws_heldPushSS args σ := callM_np n_laws_heldPushSS rfl rfl
theorem n_laws_heldChecker : fns i_laws_heldChecker = some fa_laws_heldChecker := rfl
@[simp] theorem c_laws_heldChecker (args : List PV) (σ : List AObj) : callM fns (ev fns) i_laws_heldChecker args σ = callT fns [(.agg [.any, .any, (.lst 1 .any), (.lst 1 (.lst 2 .any)), (.lst 1 (.lst 1 (.lst 1 .any))), (.lst 1 (.lst 1 .any))]), .any] i_laws_heldChecker args σ := callM_ty n_laws_heldChecker rfl
theorem n_laws_FnExactTrimChecker : fns i_laws_FnExactTrimChecker = some fa_laws_FnExactTrimChecker := rfl
@[simp] theorem c_laws_FnExactTrimChecker (args : List PV) (σ : List AObj) : callM fns (ev fns) i_laws_FnExactTrimChecker args σ = callN fns i_laws_FnExactTrimChecker args σ := callM_np n_laws_FnExactTrimChecker rfl rfl
@[simp] theorem nt_laws_szBoolS : fa_laws_szBoolS.nt = 12 := rfl
@[simp] theorem rs_laws_szBoolS : fa_laws_szBoolS.rs = [.tmp 4] := rfl
@[simp] theorem fz_laws_szBoolS : fa_laws_szBoolS.fz = true := rfl
@[simp] theorem rsh_laws_szBoolS : fa_laws_szBoolS.rsh = .any := rfl
theorem go_laws_szBoolS {args : List PV} {σ : List AObj} {r : PV × List AObj} (hl : args.length ≤ 12) (h : rE fns fa_laws_szBoolS σ.length [.code ac_laws_szBoolS] (frA 0 args) σ = some r) : ev fns i_laws_szBoolS args σ = some r := ev_go n_laws_szBoolS rfl hl h
@[simp] theorem nt_laws_szPushS : fa_laws_szPushS.nt = 12 := rfl
@[simp] theorem rs_laws_szPushS : fa_laws_szPushS.rs = [.tmp 4] := rfl
@[simp] theorem fz_laws_szPushS : fa_laws_szPushS.fz = true := rfl
@[simp] theorem rsh_laws_szPushS : fa_laws_szPushS.rsh = .any := rfl
theorem go_laws_szPushS {args : List PV} {σ : List AObj} {r : PV × List AObj} (hl : args.length ≤ 12) (h : rE fns fa_laws_szPushS σ.length [.code ac_laws_szPushS] (frA 0 args) σ = some r) : ev fns i_laws_szPushS args σ = some r := ev_go n_laws_szPushS rfl hl h
@[simp] theorem nt_laws_szPushSS : fa_laws_szPushSS.nt = 27 := rfl
@[simp] theorem rs_laws_szPushSS : fa_laws_szPushSS.rs = [.tmp 4] := rfl
@[simp] theorem fz_laws_szPushSS : fa_laws_szPushSS.fz = true := rfl
@[simp] theorem rsh_laws_szPushSS : fa_laws_szPushSS.rsh = .any := rfl
theorem go_laws_szPushSS {args : List PV} {σ : List AObj} {r : PV × List AObj} (hl : args.length ≤ 27) (h : rE fns fa_laws_szPushSS σ.length [.code ac_laws_szPushSS] (frA 0 args) σ = some r) : ev fns i_laws_szPushSS args σ = some r := ev_go n_laws_szPushSS rfl hl h
theorem l_laws_szPushSS_0 {ks : List KI} {l : Fr} {σ : List AObj} {n0 : Nat} : rE fns fa_laws_szPushSS n0 (.code lo_laws_szPushSS_0 :: ks) l σ = rE fns fa_laws_szPushSS n0 (.code lb_laws_szPushSS_0 :: .code lo_laws_szPushSS_0 :: ks) l σ := rE_loop
@[simp] theorem nt_laws_szInt64S : fa_laws_szInt64S.nt = 12 := rfl
@[simp] theorem rs_laws_szInt64S : fa_laws_szInt64S.rs = [.tmp 4] := rfl
@[simp] theorem fz_laws_szInt64S : fa_laws_szInt64S.fz = true := rfl
@[simp] theorem rsh_laws_szInt64S : fa_laws_szInt64S.rsh = .any := rfl
theorem go_laws_szInt64S {args : List PV} {σ : List AObj} {r : PV × List AObj} (hl : args.length ≤ 12) (h : rE fns fa_laws_szInt64S σ.length [.code ac_laws_szInt64S] (frA 0 args) σ = some r) : ev fns i_laws_szInt64S args σ = some r := ev_go n_laws_szInt64S rfl hl h
@[simp] theorem nt_laws_szInt64SS : fa_laws_szInt64SS.nt = 27 := rfl
@[simp] theorem rs_laws_szInt64SS : fa_laws_szInt64SS.rs = [.tmp 4] := rfl
@[simp] theorem fz_laws_szInt64SS : fa_laws_szInt64SS.fz = true := rfl
@[simp] theorem rsh_laws_szInt64SS : fa_laws_szInt64SS.rsh = .any := rfl
theorem go_laws_szInt64SS {args : List PV} {σ : List AObj} {r : PV × List AObj} (hl : args.length ≤ 27) (h : rE fns fa_laws_szInt64SS σ.length [.code ac_laws_szInt64SS] (frA 0 args) σ = some r) : ev fns i_laws_szInt64SS args σ = some r := ev_go n_laws_szInt64SS rfl hl h
theorem l_laws_szInt64SS_0 {ks : List KI} {l : Fr} {σ : List AObj} {n0 : Nat} : rE fns fa_laws_szInt64SS n0 (.code lo_laws_szInt64SS_0 :: ks) l σ = rE fns fa_laws_szInt64SS n0 (.code lb_laws_szInt64SS_0 :: .code lo_laws_szInt64SS_0 :: ks) l σ := rE_loop
@[simp] theorem nt_laws_szInt64SSS : fa_laws_szInt64SSS.nt = 27 := rfl
@[simp] theorem rs_laws_szInt64SSS : fa_laws_szInt64SSS.rs = [.tmp 4] := rfl
@[simp] theorem fz_laws_szInt64SSS : fa_laws_szInt64SSS.fz = true := rfl
@[simp] theorem rsh_laws_szInt64SSS : fa_laws_szInt64SSS.rsh = .any := rfl
theorem go_laws_szInt64SSS {args : List PV} {σ : List AObj} {r : PV × List AObj} (hl : args.length ≤ 27) (h : rE fns fa_laws_szInt64SSS σ.length [.code ac_laws_szInt64SSS] (frA 0 args) σ = some r) : ev fns i_laws_szInt64SSS args σ = some r := ev_go n_laws_szInt64SSS rfl hl h
theorem l_laws_szInt64SSS_0 {ks : List KI} {l : Fr} {σ : List AObj} {n0 : Nat} : rE fns fa_laws_szInt64SSS n0 (.code lo_laws_szInt64SSS_0 :: ks) l σ = rE fns fa_laws_szInt64SSS n0 (.code lb_laws_szInt64SSS_0 :: .code lo_laws_szInt64SSS_0 :: ks) l σ := rE_loop
@[simp] theorem nt_laws_szChecker : fa_laws_szChecker.nt = 30 := rfl
@[simp] theorem rs_laws_szChecker : fa_laws_szChecker.rs = [.tmp 4] := rfl
@[simp] theorem fz_laws_szChecker : fa_laws_szChecker.fz = true := rfl
@[simp] theorem rsh_laws_szChecker : fa_laws_szChecker.rsh = .any := rfl
theorem go_laws_szChecker {args : List PV} {σ : List AObj} {r : PV × List AObj} (hl : args.length ≤ 30) (h : rE fns fa_laws_szChecker σ.length [.code ac_laws_szChecker] (frA 0 args) σ = some r) : ev fns i_laws_szChecker args σ = some r := ev_go n_laws_szChecker rfl hl h
@[simp] theorem nt_laws_toBoolS : fa_laws_toBoolS.nt = 22 := rfl
@[simp] theorem rs_laws_toBoolS : fa_laws_toBoolS.rs = [.tmp 2] := rfl
@[simp] theorem fz_laws_toBoolS : fa_laws_toBoolS.fz = false := rfl
@[simp] theorem rsh_laws_toBoolS : fa_laws_toBoolS.rsh = .any := rfl
theorem go_laws_toBoolS {args : List PV} {σ : List AObj} {r : PV × List AObj} (hl : args.length ≤ 22) (h : rE fns fa_laws_toBoolS σ.length [.code ac_laws_toBoolS] (frA 0 args) σ = some r) : ev fns i_laws_toBoolS args σ = some r := ev_go n_laws_toBoolS rfl hl h
theorem l_laws_toBoolS_0 {ks : List KI} {l : Fr} {σ : List AObj} {n0 : Nat} : rE fns fa_laws_toBoolS n0 (.code lo_laws_toBoolS_0 :: ks) l σ = rE fns fa_laws_toBoolS n0 (.code lb_laws_toBoolS_0 :: .code lo_laws_toBoolS_0 :: ks) l σ := rE_loop
@[simp] theorem nt_laws_toPush : fa_laws_toPush.nt = 11 := rfl
@[simp] theorem rs_laws_toPush : fa_laws_toPush.rs = [.cell 2 2 true] := rfl
@[simp] theorem fz_laws_toPush : fa_laws_toPush.fz = false := rfl
@[simp] theorem rsh_laws_toPush : fa_laws_toPush.rsh = .any := rfl
theorem go_laws_toPush {args : List PV} {σ : List AObj} {r : PV × List AObj} (hl : args.length ≤ 11) (h : rE fns fa_laws_toPush σ.length [.code ac_laws_toPush] (frA 0 args) σ = some r) : ev fns i_laws_toPush args σ = some r := ev_go n_laws_toPush rfl hl h
@[simp] theorem nt_laws_toPushS : fa_laws_toPushS.nt = 23 := rfl
@[simp] theorem rs_laws_toPushS : fa_laws_toPushS.rs = [.tmp 2] := rfl
@[simp] theorem fz_laws_toPushS : fa_laws_toPushS.fz = false := rfl
@[simp] theorem rsh_laws_toPushS : fa_laws_toPushS.rsh = .any := rfl
theorem go_laws_toPushS {args : List PV} {σ : List AObj} {r : PV × List AObj} (hl : args.length ≤ 23) (h : rE fns fa_laws_toPushS σ.length [.code ac_laws_toPushS] (frA 0 args) σ = some r) : ev fns i_laws_toPushS args σ = some r := ev_go n_laws_toPushS rfl hl h
theorem l_laws_toPushS_0 {ks : List KI} {l : Fr} {σ : List AObj} {n0 : Nat} : rE fns fa_laws_toPushS n0 (.code lo_laws_toPushS_0 :: ks) l σ = rE fns fa_laws_toPushS n0 (.code lb_laws_toPushS_0 :: .code lo_laws_toPushS_0 :: ks) l σ := rE_loop
@[simp] theorem nt_laws_toPushSS : fa_laws_toPushSS.nt = 23 := rfl
@[simp] theorem rs_laws_toPushSS : fa_laws_toPushSS.rs = [.tmp 2] := rfl
@[simp] theorem fz_laws_toPushSS : fa_laws_toPushSS.fz = false := rfl
@[simp] theorem rsh_laws_toPushSS : fa_laws_toPushSS.rsh = .any := rfl
theorem go_laws_toPushSS {args : List PV} {σ : List AObj} {r : PV × List AObj} (hl : args.length ≤ 23) (h : rE fns fa_laws_toPushSS σ.length [.code ac_laws_toPushSS] (frA 0 args) σ = some r) : ev fns i_laws_toPushSS args σ = some r := ev_go n_laws_toPushSS rfl hl h
theorem l_laws_toPushSS_0 {ks : List KI} {l : Fr} {σ : List AObj} {n0 : Nat} : rE fns fa_laws_toPushSS n0 (.code lo_laws_toPushSS_0 :: ks) l σ = rE fns fa_laws_toPushSS n0 (.code lb_laws_toPushSS_0 :: .code lo_laws_toPushSS_0 :: ks) l σ := rE_loop
@[simp] theorem nt_laws_toInt64S : fa_laws_toInt64S.nt = 22 := rfl
@[simp] theorem rs_laws_toInt64S : fa_laws_toInt64S.rs = [.tmp 2] := rfl
@[simp] theorem fz_laws_toInt64S : fa_laws_toInt64S.fz = false := rfl
@[simp] theorem rsh_laws_toInt64S : fa_laws_toInt64S.rsh = .any := rfl
theorem go_laws_toInt64S {args : List PV} {σ : List AObj} {r : PV × List AObj} (hl : args.length ≤ 22) (h : rE fns fa_laws_toInt64S σ.length [.code ac_laws_toInt64S] (frA 0 args) σ = some r) : ev fns i_laws_toInt64S args σ = some r := ev_go n_laws_toInt64S rfl hl h
theorem l_laws_toInt64S_0 {ks : List KI} {l : Fr} {σ : List AObj} {n0 : Nat} : rE fns fa_laws_toInt64S n0 (.code lo_laws_toInt64S_0 :: ks) l σ = rE fns fa_laws_toInt64S n0 (.code lb_laws_toInt64S_0 :: .code lo_laws_toInt64S_0 :: ks) l σ := rE_loop
@[simp] theorem nt_laws_toInt64SS : fa_laws_toInt64SS.nt = 23 := rfl
@[simp] theorem rs_laws_toInt64SS : fa_laws_toInt64SS.rs = [.tmp 2] := rfl
@[simp] theorem fz_laws_toInt64SS : fa_laws_toInt64SS.fz = false := rfl
@[simp] theorem rsh_laws_toInt64SS : fa_laws_toInt64SS.rsh = .any := rfl
theorem go_laws_toInt64SS {args : List PV} {σ : List AObj} {r : PV × List AObj} (hl : args.length ≤ 23) (h : rE fns fa_laws_toInt64SS σ.length [.code ac_laws_toInt64SS] (frA 0 args) σ = some r) : ev fns i_laws_toInt64SS args σ = some r := ev_go n_laws_toInt64SS rfl hl h
theorem l_laws_toInt64SS_0 {ks : List KI} {l : Fr} {σ : List AObj} {n0 : Nat} : rE fns fa_laws_toInt64SS n0 (.code lo_laws_toInt64SS_0 :: ks) l σ = rE fns fa_laws_toInt64SS n0 (.code lb_laws_toInt64SS_0 :: .code lo_laws_toInt64SS_0 :: ks) l σ := rE_loop
@[simp] theorem nt_laws_toInt64SSS : fa_laws_toInt64SSS.nt = 23 := rfl
@[simp] theorem rs_laws_toInt64SSS : fa_laws_toInt64SSS.rs = [.tmp 2] := rfl
@[simp] theorem fz_laws_toInt64SSS : fa_laws_toInt64SSS.fz = false := rfl
@[simp] theorem rsh_laws_toInt64SSS : fa_laws_toInt64SSS.rsh = .any := rfl
theorem go_laws_toInt64SSS {args : List PV} {σ : List AObj} {r : PV × List AObj} (hl : args.length ≤ 23) (h : rE fns fa_laws_toInt64SSS σ.length [.code ac_laws_toInt64SSS] (frA 0 args) σ = some r) : ev fns i_laws_toInt64SSS args σ = some r := ev_go n_laws_toInt64SSS rfl hl h
theorem l_laws_toInt64SSS_0 {ks : List KI} {l : Fr} {σ : List AObj} {n0 : Nat} : rE fns fa_laws_toInt64SSS n0 (.code lo_laws_toInt64SSS_0 :: ks) l σ = rE fns fa_laws_toInt64SSS n0 (.code lb_laws_toInt64SSS_0 :: .code lo_laws_toInt64SSS_0 :: ks) l σ := rE_loop
@[simp] theorem nt_laws_toChecker : fa_laws_toChecker.nt = 27 := rfl
@[simp] theorem rs_laws_toChecker : fa_laws_toChecker.rs = [.cell 2 6 true] := rfl
@[simp] theorem fz_laws_toChecker : fa_laws_toChecker.fz = false := rfl
@[simp] theorem rsh_laws_toChecker : fa_laws_toChecker.rsh = .any := rfl
theorem go_laws_toChecker {args : List PV} {σ : List AObj} {r : PV × List AObj} (hl : args.length ≤ 27) (h : rE fns fa_laws_toChecker σ.length [.code ac_laws_toChecker] (frA 0 args) σ = some r) : ev fns i_laws_toChecker args σ = some r := ev_go n_laws_toChecker rfl hl h
@[simp] theorem nt_laws_eqBoolS : fa_laws_eqBoolS.nt = 26 := rfl
@[simp] theorem rs_laws_eqBoolS : fa_laws_eqBoolS.rs = [.tmp 4] := rfl
@[simp] theorem fz_laws_eqBoolS : fa_laws_eqBoolS.fz = true := rfl
@[simp] theorem rsh_laws_eqBoolS : fa_laws_eqBoolS.rsh = .any := rfl
theorem go_laws_eqBoolS {args : List PV} {σ : List AObj} {r : PV × List AObj} (hl : args.length ≤ 26) (h : rE fns fa_laws_eqBoolS σ.length [.code ac_laws_eqBoolS] (frA 0 args) σ = some r) : ev fns i_laws_eqBoolS args σ = some r := ev_go n_laws_eqBoolS rfl hl h
theorem l_laws_eqBoolS_0 {ks : List KI} {l : Fr} {σ : List AObj} {n0 : Nat} : rE fns fa_laws_eqBoolS n0 (.code lo_laws_eqBoolS_0 :: ks) l σ = rE fns fa_laws_eqBoolS n0 (.code lb_laws_eqBoolS_0 :: .code lo_laws_eqBoolS_0 :: ks) l σ := rE_loop
@[simp] theorem nt_laws_eqInt64S : fa_laws_eqInt64S.nt = 26 := rfl
@[simp] theorem rs_laws_eqInt64S : fa_laws_eqInt64S.rs = [.tmp 4] := rfl
@[simp] theorem fz_laws_eqInt64S : fa_laws_eqInt64S.fz = true := rfl
@[simp] theorem rsh_laws_eqInt64S : fa_laws_eqInt64S.rsh = .any := rfl
theorem go_laws_eqInt64S {args : List PV} {σ : List AObj} {r : PV × List AObj} (hl : args.length ≤ 26) (h : rE fns fa_laws_eqInt64S σ.length [.code ac_laws_eqInt64S] (frA 0 args) σ = some r) : ev fns i_laws_eqInt64S args σ = some r := ev_go n_laws_eqInt64S rfl hl h
theorem l_laws_eqInt64S_0 {ks : List KI} {l : Fr} {σ : List AObj} {n0 : Nat} : rE fns fa_laws_eqInt64S n0 (.code lo_laws_eqInt64S_0 :: ks) l σ = rE fns fa_laws_eqInt64S n0 (.code lb_laws_eqInt64S_0 :: .code lo_laws_eqInt64S_0 :: ks) l σ := rE_loop
@[simp] theorem nt_laws_eqInt64SS : fa_laws_eqInt64SS.nt = 27 := rfl
@[simp] theorem rs_laws_eqInt64SS : fa_laws_eqInt64SS.rs = [.tmp 4] := rfl
@[simp] theorem fz_laws_eqInt64SS : fa_laws_eqInt64SS.fz = true := rfl
@[simp] theorem rsh_laws_eqInt64SS : fa_laws_eqInt64SS.rsh = .any := rfl
theorem go_laws_eqInt64SS {args : List PV} {σ : List AObj} {r : PV × List AObj} (hl : args.length ≤ 27) (h : rE fns fa_laws_eqInt64SS σ.length [.code ac_laws_eqInt64SS] (frA 0 args) σ = some r) : ev fns i_laws_eqInt64SS args σ = some r := ev_go n_laws_eqInt64SS rfl hl h
theorem l_laws_eqInt64SS_0 {ks : List KI} {l : Fr} {σ : List AObj} {n0 : Nat} : rE fns fa_laws_eqInt64SS n0 (.code lo_laws_eqInt64SS_0 :: ks) l σ = rE fns fa_laws_eqInt64SS n0 (.code lb_laws_eqInt64SS_0 :: .code lo_laws_eqInt64SS_0 :: ks) l σ := rE_loop
@[simp] theorem nt_laws_eqInt64SSS : fa_laws_eqInt64SSS.nt = 27 := rfl
@[simp] theorem rs_laws_eqInt64SSS : fa_laws_eqInt64SSS.rs = [.tmp 4] := rfl
@[simp] theorem fz_laws_eqInt64SSS : fa_laws_eqInt64SSS.fz = true := rfl
@[simp] theorem rsh_laws_eqInt64SSS : fa_laws_eqInt64SSS.rsh = .any := rfl
theorem go_laws_eqInt64SSS {args : List PV} {σ : List AObj} {r : PV × List AObj} (hl : args.length ≤ 27) (h : rE fns fa_laws_eqInt64SSS σ.length [.code ac_laws_eqInt64SSS] (frA 0 args) σ = some r) : ev fns i_laws_eqInt64SSS args σ = some r := ev_go n_laws_eqInt64SSS rfl hl h
theorem l_laws_eqInt64SSS_0 {ks : List KI} {l : Fr} {σ : List AObj} {n0 : Nat} : rE fns fa_laws_eqInt64SSS n0 (.code lo_laws_eqInt64SSS_0 :: ks) l σ = rE fns fa_laws_eqInt64SSS n0 (.code lb_laws_eqInt64SSS_0 :: .code lo_laws_eqInt64SSS_0 :: ks) l σ := rE_loop
@[simp] theorem nt_laws_eqPush : fa_laws_eqPush.nt = 15 := rfl
@[simp] theorem rs_laws_eqPush : fa_laws_eqPush.rs = [.tmp 4] := rfl
@[simp] theorem fz_laws_eqPush : fa_laws_eqPush.fz = true := rfl
@[simp] theorem rsh_laws_eqPush : fa_laws_eqPush.rsh = .any := rfl
theorem go_laws_eqPush {args : List PV} {σ : List AObj} {r : PV × List AObj} (hl : args.length ≤ 15) (h : rE fns fa_laws_eqPush σ.length [.code ac_laws_eqPush] (frA 0 args) σ = some r) : ev fns i_laws_eqPush args σ = some r := ev_go n_laws_eqPush rfl hl h
@[simp] theorem nt_laws_eqPushS : fa_laws_eqPushS.nt = 27 := rfl
@[simp] theorem rs_laws_eqPushS : fa_laws_eqPushS.rs = [.tmp 4] := rfl
@[simp] theorem fz_laws_eqPushS : fa_laws_eqPushS.fz = true := rfl
@[simp] theorem rsh_laws_eqPushS : fa_laws_eqPushS.rsh = .any := rfl
theorem go_laws_eqPushS {args : List PV} {σ : List AObj} {r : PV × List AObj} (hl : args.length ≤ 27) (h : rE fns fa_laws_eqPushS σ.length [.code ac_laws_eqPushS] (frA 0 args) σ = some r) : ev fns i_laws_eqPushS args σ = some r := ev_go n_laws_eqPushS rfl hl h
theorem l_laws_eqPushS_0 {ks : List KI} {l : Fr} {σ : List AObj} {n0 : Nat} : rE fns fa_laws_eqPushS n0 (.code lo_laws_eqPushS_0 :: ks) l σ = rE fns fa_laws_eqPushS n0 (.code lb_laws_eqPushS_0 :: .code lo_laws_eqPushS_0 :: ks) l σ := rE_loop
@[simp] theorem nt_laws_eqPushSS : fa_laws_eqPushSS.nt = 27 := rfl
@[simp] theorem rs_laws_eqPushSS : fa_laws_eqPushSS.rs = [.tmp 4] := rfl
@[simp] theorem fz_laws_eqPushSS : fa_laws_eqPushSS.fz = true := rfl
@[simp] theorem rsh_laws_eqPushSS : fa_laws_eqPushSS.rsh = .any := rfl
theorem go_laws_eqPushSS {args : List PV} {σ : List AObj} {r : PV × List AObj} (hl : args.length ≤ 27) (h : rE fns fa_laws_eqPushSS σ.length [.code ac_laws_eqPushSS] (frA 0 args) σ = some r) : ev fns i_laws_eqPushSS args σ = some r := ev_go n_laws_eqPushSS rfl hl h
theorem l_laws_eqPushSS_0 {ks : List KI} {l : Fr} {σ : List AObj} {n0 : Nat} : rE fns fa_laws_eqPushSS n0 (.code lo_laws_eqPushSS_0 :: ks) l σ = rE fns fa_laws_eqPushSS n0 (.code lb_laws_eqPushSS_0 :: .code lo_laws_eqPushSS_0 :: ks) l σ := rE_loop
@[simp] theorem nt_laws_eqChecker : fa_laws_eqChecker.nt = 39 := rfl
@[simp] theorem rs_laws_eqChecker : fa_laws_eqChecker.rs = [.tmp 4] := rfl
@[simp] theorem fz_laws_eqChecker : fa_laws_eqChecker.fz = true := rfl
@[simp] theorem rsh_laws_eqChecker : fa_laws_eqChecker.rsh = .any := rfl
theorem go_laws_eqChecker {args : List PV} {σ : List AObj} {r : PV × List AObj} (hl : args.length ≤ 39) (h : rE fns fa_laws_eqChecker σ.length [.code ac_laws_eqChecker] (frA 0 args) σ = some r) : ev fns i_laws_eqChecker args σ = some r := ev_go n_laws_eqChecker rfl hl h
@[simp] theorem nt_laws_markBoolS : fa_laws_markBoolS.nt = 21 := rfl
@[simp] theorem rs_laws_markBoolS : fa_laws_markBoolS.rs = [.tmp 4] := rfl
@[simp] theorem fz_laws_markBoolS : fa_laws_markBoolS.fz = false := rfl
@[simp] theorem rsh_laws_markBoolS : fa_laws_markBoolS.rsh = .any := rfl
theorem go_laws_markBoolS {args : List PV} {σ : List AObj} {r : PV × List AObj} (hl : args.length ≤ 21) (h : rE fns fa_laws_markBoolS σ.length [.code ac_laws_markBoolS] (frA 0 args) σ = some r) : ev fns i_laws_markBoolS args σ = some r := ev_go n_laws_markBoolS rfl hl h
theorem l_laws_markBoolS_0 {ks : List KI} {l : Fr} {σ : List AObj} {n0 : Nat} : rE fns fa_laws_markBoolS n0 (.code lo_laws_markBoolS_0 :: ks) l σ = rE fns fa_laws_markBoolS n0 (.code lb_laws_markBoolS_0 :: .code lo_laws_markBoolS_0 :: ks) l σ := rE_loop
@[simp] theorem nt_laws_markPushS : fa_laws_markPushS.nt = 27 := rfl
@[simp] theorem rs_laws_markPushS : fa_laws_markPushS.rs = [.tmp 4] := rfl
@[simp] theorem fz_laws_markPushS : fa_laws_markPushS.fz = false := rfl
@[simp] theorem rsh_laws_markPushS : fa_laws_markPushS.rsh = .any := rfl
theorem go_laws_markPushS {args : List PV} {σ : List AObj} {r : PV × List AObj} (hl : args.length ≤ 27) (h : rE fns fa_laws_markPushS σ.length [.code ac_laws_markPushS] (frA 0 args) σ = some r) : ev fns i_laws_markPushS args σ = some r := ev_go n_laws_markPushS rfl hl h
theorem l_laws_markPushS_0 {ks : List KI} {l : Fr} {σ : List AObj} {n0 : Nat} : rE fns fa_laws_markPushS n0 (.code lo_laws_markPushS_0 :: ks) l σ = rE fns fa_laws_markPushS n0 (.code lb_laws_markPushS_0 :: .code lo_laws_markPushS_0 :: ks) l σ := rE_loop
@[simp] theorem nt_laws_markPushSS : fa_laws_markPushSS.nt = 19 := rfl
@[simp] theorem rs_laws_markPushSS : fa_laws_markPushSS.rs = [.tmp 4] := rfl
@[simp] theorem fz_laws_markPushSS : fa_laws_markPushSS.fz = false := rfl
@[simp] theorem rsh_laws_markPushSS : fa_laws_markPushSS.rsh = .any := rfl
theorem go_laws_markPushSS {args : List PV} {σ : List AObj} {r : PV × List AObj} (hl : args.length ≤ 19) (h : rE fns fa_laws_markPushSS σ.length [.code ac_laws_markPushSS] (frA 0 args) σ = some r) : ev fns i_laws_markPushSS args σ = some r := ev_go n_laws_markPushSS rfl hl h
theorem l_laws_markPushSS_0 {ks : List KI} {l : Fr} {σ : List AObj} {n0 : Nat} : rE fns fa_laws_markPushSS n0 (.code lo_laws_markPushSS_0 :: ks) l σ = rE fns fa_laws_markPushSS n0 (.code lb_laws_markPushSS_0 :: .code lo_laws_markPushSS_0 :: ks) l σ := rE_loop
@[simp] theorem nt_laws_markInt64S : fa_laws_markInt64S.nt = 19 := rfl
@[simp] theorem rs_laws_markInt64S : fa_laws_markInt64S.rs = [.tmp 4] := rfl
@[simp] theorem fz_laws_markInt64S : fa_laws_markInt64S.fz = false := rfl
@[simp] theorem rsh_laws_markInt64S : fa_laws_markInt64S.rsh = .any := rfl
theorem go_laws_markInt64S {args : List PV} {σ : List AObj} {r : PV × List AObj} (hl : args.length ≤ 19) (h : rE fns fa_laws_markInt64S σ.length [.code ac_laws_markInt64S] (frA 0 args) σ = some r) : ev fns i_laws_markInt64S args σ = some r := ev_go n_laws_markInt64S rfl hl h
theorem l_laws_markInt64S_0 {ks : List KI} {l : Fr} {σ : List AObj} {n0 : Nat} : rE fns fa_laws_markInt64S n0 (.code lo_laws_markInt64S_0 :: ks) l σ = rE fns fa_laws_markInt64S n0 (.code lb_laws_markInt64S_0 :: .code lo_laws_markInt64S_0 :: ks) l σ := rE_loop
@[simp] theorem nt_laws_markInt64SS : fa_laws_markInt64SS.nt = 19 := rfl
@[simp] theorem rs_laws_markInt64SS : fa_laws_markInt64SS.rs = [.tmp 4] := rfl
@[simp] theorem fz_laws_markInt64SS : fa_laws_markInt64SS.fz = false := rfl
@[simp] theorem rsh_laws_markInt64SS : fa_laws_markInt64SS.rsh = .any := rfl
theorem go_laws_markInt64SS {args : List PV} {σ : List AObj} {r : PV × List AObj} (hl : args.length ≤ 19) (h : rE fns fa_laws_markInt64SS σ.length [.code ac_laws_markInt64SS] (frA 0 args) σ = some r) : ev fns i_laws_markInt64SS args σ = some r := ev_go n_laws_markInt64SS rfl hl h
theorem l_laws_markInt64SS_0 {ks : List KI} {l : Fr} {σ : List AObj} {n0 : Nat} : rE fns fa_laws_markInt64SS n0 (.code lo_laws_markInt64SS_0 :: ks) l σ = rE fns fa_laws_markInt64SS n0 (.code lb_laws_markInt64SS_0 :: .code lo_laws_markInt64SS_0 :: ks) l σ := rE_loop
@[simp] theorem nt_laws_markInt64SSS : fa_laws_markInt64SSS.nt = 19 := rfl
@[simp] theorem rs_laws_markInt64SSS : fa_laws_markInt64SSS.rs = [.tmp 4] := rfl
@[simp] theorem fz_laws_markInt64SSS : fa_laws_markInt64SSS.fz = false := rfl
@[simp] theorem rsh_laws_markInt64SSS : fa_laws_markInt64SSS.rsh = .any := rfl
theorem go_laws_markInt64SSS {args : List PV} {σ : List AObj} {r : PV × List AObj} (hl : args.length ≤ 19) (h : rE fns fa_laws_markInt64SSS σ.length [.code ac_laws_markInt64SSS] (frA 0 args) σ = some r) : ev fns i_laws_markInt64SSS args σ = some r := ev_go n_laws_markInt64SSS rfl hl h
theorem l_laws_markInt64SSS_0 {ks : List KI} {l : Fr} {σ : List AObj} {n0 : Nat} : rE fns fa_laws_markInt64SSS n0 (.code lo_laws_markInt64SSS_0 :: ks) l σ = rE fns fa_laws_markInt64SSS n0 (.code lb_laws_markInt64SSS_0 :: .code lo_laws_markInt64SSS_0 :: ks) l σ := rE_loop
@[simp] theorem nt_laws_markChecker : fa_laws_markChecker.nt = 22 := rfl
@[simp] theorem rs_laws_markChecker : fa_laws_markChecker.rs = [.tmp 4] := rfl
@[simp] theorem fz_laws_markChecker : fa_laws_markChecker.fz = false := rfl
@[simp] theorem rsh_laws_markChecker : fa_laws_markChecker.rsh = .any := rfl
theorem go_laws_markChecker {args : List PV} {σ : List AObj} {r : PV × List AObj} (hl : args.length ≤ 22) (h : rE fns fa_laws_markChecker σ.length [.code ac_laws_markChecker] (frA 0 args) σ = some r) : ev fns i_laws_markChecker args σ = some r := ev_go n_laws_markChecker rfl hl h
@[simp] theorem nt_spec_l00In : fa_spec_l00In.nt = 15 := rfl
@[simp] theorem rs_spec_l00In : fa_spec_l00In.rs = [.tmp 6] := rfl
@[simp] theorem fz_spec_l00In : fa_spec_l00In.fz = true := rfl
@[simp] theorem rsh_spec_l00In : fa_spec_l00In.rsh = .any := rfl
theorem go_spec_l00In {args : List PV} {σ : List AObj} {r : PV × List AObj} (hl : args.length ≤ 15) (h : rE fns fa_spec_l00In σ.length [.code ac_spec_l00In] (frA 0 args) σ = some r) : ev fns i_spec_l00In args σ = some r := ev_go n_spec_l00In rfl hl h
@[simp] theorem nt_spec_l02List : fa_spec_l02List.nt = 26 := rfl
@[simp] theorem rs_spec_l02List : fa_spec_l02List.rs = [.tmp 6] := rfl
@[simp] theorem fz_spec_l02List : fa_spec_l02List.fz = true := rfl
@[simp] theorem rsh_spec_l02List : fa_spec_l02List.rsh = .any := rfl
theorem go_spec_l02List {args : List PV} {σ : List AObj} {r : PV × List AObj} (hl : args.length ≤ 26) (h : rE fns fa_spec_l02List σ.length [.code ac_spec_l02List] (frA 0 args) σ = some r) : ev fns i_spec_l02List args σ = some r := ev_go n_spec_l02List rfl hl h
theorem l_spec_l02List_0 {ks : List KI} {l : Fr} {σ : List AObj} {n0 : Nat} : rE fns fa_spec_l02List n0 (.code lo_spec_l02List_0 :: ks) l σ = rE fns fa_spec_l02List n0 (.code lb_spec_l02List_0 :: .code lo_spec_l02List_0 :: ks) l σ := rE_loop
@[simp] theorem nt_spec_l02Ok : fa_spec_l02Ok.nt = 155 := rfl
@[simp] theorem rs_spec_l02Ok : fa_spec_l02Ok.rs = [.tmp 2] := rfl
@[simp] theorem fz_spec_l02Ok : fa_spec_l02Ok.fz = true := rfl
@[simp] theorem rsh_spec_l02Ok : fa_spec_l02Ok.rsh = .any := rfl
theorem go_spec_l02Ok {args : List PV} {σ : List AObj} {r : PV × List AObj} (hl : args.length ≤ 155) (h : rE fns fa_spec_l02Ok σ.length [.code ac_spec_l02Ok] (frA 0 args) σ = some r) : ev fns i_spec_l02Ok args σ = some r := ev_go n_spec_l02Ok rfl hl h
theorem l_spec_l02Ok_0 {ks : List KI} {l : Fr} {σ : List AObj} {n0 : Nat} : rE fns fa_spec_l02Ok n0 (.code lo_spec_l02Ok_0 :: ks) l σ = rE fns fa_spec_l02Ok n0 (.code lb_spec_l02Ok_0 :: .code lo_spec_l02Ok_0 :: ks) l σ := rE_loop
theorem l_spec_l02Ok_1 {ks : List KI} {l : Fr} {σ : List AObj} {n0 : Nat} : rE fns fa_spec_l02Ok n0 (.code lo_spec_l02Ok_1 :: ks) l σ = rE fns fa_spec_l02Ok n0 (.code lb_spec_l02Ok_1 :: .code lo_spec_l02Ok_1 :: ks) l σ := rE_loop
@[simp] theorem nt_spec_l00Own : fa_spec_l00Own.nt = 6 := rfl
@[simp] theorem rs_spec_l00Own : fa_spec_l00Own.rs = [.tmp 2] := rfl
@[simp] theorem fz_spec_l00Own : fa_spec_l00Own.fz = false := rfl
@[simp] theorem rsh_spec_l00Own : fa_spec_l00Own.rsh = .any := rfl
theorem go_spec_l00Own {args : List PV} {σ : List AObj} {r : PV × List AObj} (hl : args.length ≤ 6) (h : rE fns fa_spec_l00Own σ.length [.code ac_spec_l00Own] (frA 0 args) σ = some r) : ev fns i_spec_l00Own args σ = some r := ev_go n_spec_l00Own rfl hl h
@[simp] theorem nt_spec_l00Has : fa_spec_l00Has.nt = 18 := rfl
@[simp] theorem rs_spec_l00Has : fa_spec_l00Has.rs = [.tmp 4] := rfl
@[simp] theorem fz_spec_l00Has : fa_spec_l00Has.fz = true := rfl
@[simp] theorem rsh_spec_l00Has : fa_spec_l00Has.rsh = .any := rfl
theorem go_spec_l00Has {args : List PV} {σ : List AObj} {r : PV × List AObj} (hl : args.length ≤ 18) (h : rE fns fa_spec_l00Has σ.length [.code ac_spec_l00Has] (frA 0 args) σ = some r) : ev fns i_spec_l00Has args σ = some r := ev_go n_spec_l00Has rfl hl h
theorem l_spec_l00Has_0 {ks : List KI} {l : Fr} {σ : List AObj} {n0 : Nat} : rE fns fa_spec_l00Has n0 (.code lo_spec_l00Has_0 :: ks) l σ = rE fns fa_spec_l00Has n0 (.code lb_spec_l00Has_0 :: .code lo_spec_l00Has_0 :: ks) l σ := rE_loop
@[simp] theorem nt_spec_l00Put : fa_spec_l00Put.nt = 49 := rfl
@[simp] theorem rs_spec_l00Put : fa_spec_l00Put.rs = [.tmp 4] := rfl
@[simp] theorem fz_spec_l00Put : fa_spec_l00Put.fz = true := rfl
@[simp] theorem rsh_spec_l00Put : fa_spec_l00Put.rsh = .any := rfl
theorem go_spec_l00Put {args : List PV} {σ : List AObj} {r : PV × List AObj} (hl : args.length ≤ 49) (h : rE fns fa_spec_l00Put σ.length [.code ac_spec_l00Put] (frA 0 args) σ = some r) : ev fns i_spec_l00Put args σ = some r := ev_go n_spec_l00Put rfl hl h
theorem l_spec_l00Put_0 {ks : List KI} {l : Fr} {σ : List AObj} {n0 : Nat} : rE fns fa_spec_l00Put n0 (.code lo_spec_l00Put_0 :: ks) l σ = rE fns fa_spec_l00Put n0 (.code lb_spec_l00Put_0 :: .code lo_spec_l00Put_0 :: ks) l σ := rE_loop
@[simp] theorem nt_spec_l02Used : fa_spec_l02Used.nt = 91 := rfl
@[simp] theorem rs_spec_l02Used : fa_spec_l02Used.rs = [.tmp 2] := rfl
@[simp] theorem fz_spec_l02Used : fa_spec_l02Used.fz = true := rfl
@[simp] theorem rsh_spec_l02Used : fa_spec_l02Used.rsh = .any := rfl
theorem go_spec_l02Used {args : List PV} {σ : List AObj} {r : PV × List AObj} (hl : args.length ≤ 91) (h : rE fns fa_spec_l02Used σ.length [.code ac_spec_l02Used] (frA 0 args) σ = some r) : ev fns i_spec_l02Used args σ = some r := ev_go n_spec_l02Used rfl hl h
theorem l_spec_l02Used_0 {ks : List KI} {l : Fr} {σ : List AObj} {n0 : Nat} : rE fns fa_spec_l02Used n0 (.code lo_spec_l02Used_0 :: ks) l σ = rE fns fa_spec_l02Used n0 (.code lb_spec_l02Used_0 :: .code lo_spec_l02Used_0 :: ks) l σ := rE_loop
theorem l_spec_l02Used_1 {ks : List KI} {l : Fr} {σ : List AObj} {n0 : Nat} : rE fns fa_spec_l02Used n0 (.code lo_spec_l02Used_1 :: ks) l σ = rE fns fa_spec_l02Used n0 (.code lb_spec_l02Used_1 :: .code lo_spec_l02Used_1 :: ks) l σ := rE_loop
theorem l_spec_l02Used_2 {ks : List KI} {l : Fr} {σ : List AObj} {n0 : Nat} : rE fns fa_spec_l02Used n0 (.code lo_spec_l02Used_2 :: ks) l σ = rE fns fa_spec_l02Used n0 (.code lb_spec_l02Used_2 :: .code lo_spec_l02Used_2 :: ks) l σ := rE_loop
@[simp] theorem nt_spec_TrimChecker : fa_spec_TrimChecker.nt = 165 := rfl
@[simp] theorem rs_spec_TrimChecker : fa_spec_TrimChecker.rs = [.cell 2 6 true, .tmp 3] := rfl
@[simp] theorem fz_spec_TrimChecker : fa_spec_TrimChecker.fz = true := rfl
@[simp] theorem rsh_spec_TrimChecker : fa_spec_TrimChecker.rsh = .any := rfl
theorem go_spec_TrimChecker {args : List PV} {σ : List AObj} {r : PV × List AObj} (hl : args.length ≤ 165) (h : rE fns fa_spec_TrimChecker σ.length [.code ac_spec_TrimChecker] (frA 0 args) σ = some r) : ev fns i_spec_TrimChecker args σ = some r := ev_go n_spec_TrimChecker rfl hl h
theorem l_spec_TrimChecker_0 {ks : List KI} {l : Fr} {σ : List AObj} {n0 : Nat} : rE fns fa_spec_TrimChecker n0 (.code lo_spec_TrimChecker_0 :: ks) l σ = rE fns fa_spec_TrimChecker n0 (.code lb_spec_TrimChecker_0 :: .code lo_spec_TrimChecker_0 :: ks) l σ := rE_loop
theorem l_spec_TrimChecker_1 {ks : List KI} {l : Fr} {σ : List AObj} {n0 : Nat} : rE fns fa_spec_TrimChecker n0 (.code lo_spec_TrimChecker_1 :: ks) l σ = rE fns fa_spec_TrimChecker n0 (.code lb_spec_TrimChecker_1 :: .code lo_spec_TrimChecker_1 :: ks) l σ := rE_loop
theorem l_spec_TrimChecker_2 {ks : List KI} {l : Fr} {σ : List AObj} {n0 : Nat} : rE fns fa_spec_TrimChecker n0 (.code lo_spec_TrimChecker_2 :: ks) l σ = rE fns fa_spec_TrimChecker n0 (.code lb_spec_TrimChecker_2 :: .code lo_spec_TrimChecker_2 :: ks) l σ := rE_loop
theorem l_spec_TrimChecker_3 {ks : List KI} {l : Fr} {σ : List AObj} {n0 : Nat} : rE fns fa_spec_TrimChecker n0 (.code lo_spec_TrimChecker_3 :: ks) l σ = rE fns fa_spec_TrimChecker n0 (.code lb_spec_TrimChecker_3 :: .code lo_spec_TrimChecker_3 :: ks) l σ := rE_loop
@[simp] theorem nt_impl_size_bool : fa_impl_size_bool.nt = 5 := rfl
@[simp] theorem rs_impl_size_bool : fa_impl_size_bool.rs = [.tmp 2] := rfl
@[simp] theorem fz_impl_size_bool : fa_impl_size_bool.fz = true := rfl
@[simp] theorem rsh_impl_size_bool : fa_impl_size_bool.rsh = .any := rfl
theorem go_impl_size_bool {args : List PV} {σ : List AObj} {r : PV × List AObj} (hl : args.length ≤ 5) (h : rE fns fa_impl_size_bool σ.length [.code ac_impl_size_bool] (frA 0 args) σ = some r) : ev fns i_impl_size_bool args σ = some r := ev_go n_impl_size_bool rfl hl h
@[simp] theorem nt_impl_within : fa_impl_within.nt = 15 := rfl
@[simp] theorem rs_impl_within : fa_impl_within.rs = [.tmp 6] := rfl
@[simp] theorem fz_impl_within : fa_impl_within.fz = true := rfl
@[simp] theorem rsh_impl_within : fa_impl_within.rsh = .any := rfl
theorem go_impl_within {args : List PV} {σ : List AObj} {r : PV × List AObj} (hl : args.length ≤ 15) (h : rE fns fa_impl_within σ.length [.code ac_impl_within] (frA 0 args) σ = some r) : ev fns i_impl_within args σ = some r := ev_go n_impl_within rfl hl h
@[simp] theorem nt_impl_Checker_isState : fa_impl_Checker_isState.nt = 11 := rfl
@[simp] theorem rs_impl_Checker_isState : fa_impl_Checker_isState.rs = [.tmp 4] := rfl
@[simp] theorem fz_impl_Checker_isState : fa_impl_Checker_isState.fz = true := rfl
@[simp] theorem rsh_impl_Checker_isState : fa_impl_Checker_isState.rsh = .any := rfl
theorem go_impl_Checker_isState {args : List PV} {σ : List AObj} {r : PV × List AObj} (hl : args.length ≤ 11) (h : rE fns fa_impl_Checker_isState σ.length [.code ac_impl_Checker_isState] (frA 0 args) σ = some r) : ev fns i_impl_Checker_isState args σ = some r := ev_go n_impl_Checker_isState rfl hl h
@[simp] theorem nt_impl_size_L_impl_Push : fa_impl_size_L_impl_Push.nt = 5 := rfl
@[simp] theorem rs_impl_size_L_impl_Push : fa_impl_size_L_impl_Push.rs = [.tmp 2] := rfl
@[simp] theorem fz_impl_size_L_impl_Push : fa_impl_size_L_impl_Push.fz = true := rfl
@[simp] theorem rsh_impl_size_L_impl_Push : fa_impl_size_L_impl_Push.rsh = .any := rfl
theorem go_impl_size_L_impl_Push {args : List PV} {σ : List AObj} {r : PV × List AObj} (hl : args.length ≤ 5) (h : rE fns fa_impl_size_L_impl_Push σ.length [.code ac_impl_size_L_impl_Push] (frA 0 args) σ = some r) : ev fns i_impl_size_L_impl_Push args σ = some r := ev_go n_impl_size_L_impl_Push rfl hl h
@[simp] theorem nt_impl_size_L_L_int64 : fa_impl_size_L_L_int64.nt = 5 := rfl
@[simp] theorem rs_impl_size_L_L_int64 : fa_impl_size_L_L_int64.rs = [.tmp 2] := rfl
@[simp] theorem fz_impl_size_L_L_int64 : fa_impl_size_L_L_int64.fz = true := rfl
@[simp] theorem rsh_impl_size_L_L_int64 : fa_impl_size_L_L_int64.rsh = .any := rfl
theorem go_impl_size_L_L_int64 {args : List PV} {σ : List AObj} {r : PV × List AObj} (hl : args.length ≤ 5) (h : rE fns fa_impl_size_L_L_int64 σ.length [.code ac_impl_size_L_L_int64] (frA 0 args) σ = some r) : ev fns i_impl_size_L_L_int64 args σ = some r := ev_go n_impl_size_L_L_int64 rfl hl h
@[simp] theorem nt_impl_size_L_int64 : fa_impl_size_L_int64.nt = 5 := rfl
@[simp] theorem rs_impl_size_L_int64 : fa_impl_size_L_int64.rs = [.tmp 2] := rfl
@[simp] theorem fz_impl_size_L_int64 : fa_impl_size_L_int64.fz = true := rfl
@[simp] theorem rsh_impl_size_L_int64 : fa_impl_size_L_int64.rsh = .any := rfl
theorem go_impl_size_L_int64 {args : List PV} {σ : List AObj} {r : PV × List AObj} (hl : args.length ≤ 5) (h : rE fns fa_impl_size_L_int64 σ.length [.code ac_impl_size_L_int64] (frA 0 args) σ = some r) : ev fns i_impl_size_L_int64 args σ = some r := ev_go n_impl_size_L_int64 rfl hl h
@[simp] theorem nt_impl_size_int64 : fa_impl_size_int64.nt = 5 := rfl
@[simp] theorem rs_impl_size_int64 : fa_impl_size_int64.rs = [.tmp 2] := rfl
@[simp] theorem fz_impl_size_int64 : fa_impl_size_int64.fz = true := rfl
@[simp] theorem rsh_impl_size_int64 : fa_impl_size_int64.rsh = .any := rfl
theorem go_impl_size_int64 {args : List PV} {σ : List AObj} {r : PV × List AObj} (hl : args.length ≤ 5) (h : rE fns fa_impl_size_int64 σ.length [.code ac_impl_size_int64] (frA 0 args) σ = some r) : ev fns i_impl_size_int64 args σ = some r := ev_go n_impl_size_int64 rfl hl h
@[simp] theorem nt_slices_IndexFunc_L_int64 : fa_slices_IndexFunc_L_int64.nt = 19 := rfl
@[simp] theorem rs_slices_IndexFunc_L_int64 : fa_slices_IndexFunc_L_int64.rs = [.tmp 4] := rfl
@[simp] theorem fz_slices_IndexFunc_L_int64 : fa_slices_IndexFunc_L_int64.fz = true := rfl
@[simp] theorem rsh_slices_IndexFunc_L_int64 : fa_slices_IndexFunc_L_int64.rsh = .any := rfl
theorem go_slices_IndexFunc_L_int64 {args : List PV} {σ : List AObj} {r : PV × List AObj} (hl : args.length ≤ 19) (h : rE fns fa_slices_IndexFunc_L_int64 σ.length [.code ac_slices_IndexFunc_L_int64] (frA 0 args) σ = some r) : ev fns i_slices_IndexFunc_L_int64 args σ = some r := ev_go n_slices_IndexFunc_L_int64 rfl hl h
theorem l_slices_IndexFunc_L_int64_0 {ks : List KI} {l : Fr} {σ : List AObj} {n0 : Nat} : rE fns fa_slices_IndexFunc_L_int64 n0 (.code lo_slices_IndexFunc_L_int64_0 :: ks) l σ = rE fns fa_slices_IndexFunc_L_int64 n0 (.code lb_slices_IndexFunc_L_int64_0 :: .code lo_slices_IndexFunc_L_int64_0 :: ks) l σ := rE_loop
@[simp] theorem nt_slices_ContainsFunc_L_int64 : fa_slices_ContainsFunc_L_int64.nt = 9 := rfl
@[simp] theorem rs_slices_ContainsFunc_L_int64 : fa_slices_ContainsFunc_L_int64.rs = [.tmp 4] := rfl
@[simp] theorem fz_slices_ContainsFunc_L_int64 : fa_slices_ContainsFunc_L_int64.fz = true := rfl
@[simp] theorem rsh_slices_ContainsFunc_L_int64 : fa_slices_ContainsFunc_L_int64.rsh = .any := rfl
theorem go_slices_ContainsFunc_L_int64 {args : List PV} {σ : List AObj} {r : PV × List AObj} (hl : args.length ≤ 9) (h : rE fns fa_slices_ContainsFunc_L_int64 σ.length [.code ac_slices_ContainsFunc_L_int64] (frA 0 args) σ = some r) : ev fns i_slices_ContainsFunc_L_int64 args σ = some r := ev_go n_slices_ContainsFunc_L_int64 rfl hl h
@[simp] theorem nt_impl_ValidChecker_1_1 : fa_impl_ValidChecker_1_1.nt = 8 := rfl
@[simp] theorem rs_impl_ValidChecker_1_1 : fa_impl_ValidChecker_1_1.rs = [.tmp 3] := rfl
@[simp] theorem fz_impl_ValidChecker_1_1 : fa_impl_ValidChecker_1_1.fz = true := rfl
@[simp] theorem rsh_impl_ValidChecker_1_1 : fa_impl_ValidChecker_1_1.rsh = .any := rfl
theorem go_impl_ValidChecker_1_1 {args : List PV} {σ : List AObj} {r : PV × List AObj} (hl : args.length ≤ 8) (h : rE fns fa_impl_ValidChecker_1_1 σ.length [.code ac_impl_ValidChecker_1_1] (frA 0 args) σ = some r) : ev fns i_impl_ValidChecker_1_1 args σ = some r := ev_go n_impl_ValidChecker_1_1 rfl hl h
@[simp] theorem nt_impl_ValidChecker_1 : fa_impl_ValidChecker_1.nt = 16 := rfl
@[simp] theorem rs_impl_ValidChecker_1 : fa_impl_ValidChecker_1.rs = [.tmp 5] := rfl
@[simp] theorem fz_impl_ValidChecker_1 : fa_impl_ValidChecker_1.fz = true := rfl
@[simp] theorem rsh_impl_ValidChecker_1 : fa_impl_ValidChecker_1.rsh = .any := rfl
theorem go_impl_ValidChecker_1 {args : List PV} {σ : List AObj} {r : PV × List AObj} (hl : args.length ≤ 16) (h : rE fns fa_impl_ValidChecker_1 σ.length [.code ac_impl_ValidChecker_1] (frA 0 args) σ = some r) : ev fns i_impl_ValidChecker_1 args σ = some r := ev_go n_impl_ValidChecker_1 rfl hl h
@[simp] theorem nt_impl_Checker_isMark : fa_impl_Checker_isMark.nt = 10 := rfl
@[simp] theorem rs_impl_Checker_isMark : fa_impl_Checker_isMark.rs = [.tmp 4] := rfl
@[simp] theorem fz_impl_Checker_isMark : fa_impl_Checker_isMark.fz = true := rfl
@[simp] theorem rsh_impl_Checker_isMark : fa_impl_Checker_isMark.rsh = .any := rfl
theorem go_impl_Checker_isMark {args : List PV} {σ : List AObj} {r : PV × List AObj} (hl : args.length ≤ 10) (h : rE fns fa_impl_Checker_isMark σ.length [.code ac_impl_Checker_isMark] (frA 0 args) σ = some r) : ev fns i_impl_Checker_isMark args σ = some r := ev_go n_impl_Checker_isMark rfl hl h
@[simp] theorem nt_impl_ValidChecker : fa_impl_ValidChecker.nt = 120 := rfl
@[simp] theorem rs_impl_ValidChecker : fa_impl_ValidChecker.rs = [.tmp 2] := rfl
@[simp] theorem fz_impl_ValidChecker : fa_impl_ValidChecker.fz = true := rfl
@[simp] theorem rsh_impl_ValidChecker : fa_impl_ValidChecker.rsh = .any := rfl
theorem go_impl_ValidChecker {args : List PV} {σ : List AObj} {r : PV × List AObj} (hl : args.length ≤ 120) (h : rE fns fa_impl_ValidChecker σ.length [.code ac_impl_ValidChecker] (frA 0 args) σ = some r) : ev fns i_impl_ValidChecker args σ = some r := ev_go n_impl_ValidChecker rfl hl h
theorem l_impl_ValidChecker_0 {ks : List KI} {l : Fr} {σ : List AObj} {n0 : Nat} : rE fns fa_impl_ValidChecker n0 (.code lo_impl_ValidChecker_0 :: ks) l σ = rE fns fa_impl_ValidChecker n0 (.code lb_impl_ValidChecker_0 :: .code lo_impl_ValidChecker_0 :: ks) l σ := rE_loop
theorem l_impl_ValidChecker_1 {ks : List KI} {l : Fr} {σ : List AObj} {n0 : Nat} : rE fns fa_impl_ValidChecker n0 (.code lo_impl_ValidChecker_1 :: ks) l σ = rE fns fa_impl_ValidChecker n0 (.code lb_impl_ValidChecker_1 :: .code lo_impl_ValidChecker_1 :: ks) l σ := rE_loop
@[simp] theorem nt_slices_Grow_L_int64 : fa_slices_Grow_L_int64.nt = 27 := rfl
@[simp] theorem rs_slices_Grow_L_int64 : fa_slices_Grow_L_int64.rs = [.tmp 4] := rfl
@[simp] theorem fz_slices_Grow_L_int64 : fa_slices_Grow_L_int64.fz = false := rfl
@[simp] theorem rsh_slices_Grow_L_int64 : fa_slices_Grow_L_int64.rsh = .any := rfl
theorem go_slices_Grow_L_int64 {args : List PV} {σ : List AObj} {r : PV × List AObj} (hl : args.length ≤ 27) (h : rE fns fa_slices_Grow_L_int64 σ.length [.code ac_slices_Grow_L_int64] (frA 0 args) σ = some r) : ev fns i_slices_Grow_L_int64 args σ = some r := ev_go n_slices_Grow_L_int64 rfl hl h
@[simp] theorem nt_slices_Concat_L_int64 : fa_slices_Concat_L_int64.nt = 36 := rfl
@[simp] theorem rs_slices_Concat_L_int64 : fa_slices_Concat_L_int64.rs = [.tmp 2] := rfl
@[simp] theorem fz_slices_Concat_L_int64 : fa_slices_Concat_L_int64.fz = true := rfl
@[simp] theorem rsh_slices_Concat_L_int64 : fa_slices_Concat_L_int64.rsh = .any := rfl
theorem go_slices_Concat_L_int64 {args : List PV} {σ : List AObj} {r : PV × List AObj} (hl : args.length ≤ 36) (h : rE fns fa_slices_Concat_L_int64 σ.length [.code ac_slices_Concat_L_int64] (frA 0 args) σ = some r) : ev fns i_slices_Concat_L_int64 args σ = some r := ev_go n_slices_Concat_L_int64 rfl hl h
theorem l_slices_Concat_L_int64_0 {ks : List KI} {l : Fr} {σ : List AObj} {n0 : Nat} : rE fns fa_slices_Concat_L_int64 n0 (.code lo_slices_Concat_L_int64_0 :: ks) l σ = rE fns fa_slices_Concat_L_int64 n0 (.code lb_slices_Concat_L_int64_0 :: .code lo_slices_Concat_L_int64_0 :: ks) l σ := rE_loop
theorem l_slices_Concat_L_int64_1 {ks : List KI} {l : Fr} {σ : List AObj} {n0 : Nat} : rE fns fa_slices_Concat_L_int64 n0 (.code lo_slices_Concat_L_int64_1 :: ks) l σ = rE fns fa_slices_Concat_L_int64 n0 (.code lb_slices_Concat_L_int64_1 :: .code lo_slices_Concat_L_int64_1 :: ks) l σ := rE_loop
@[simp] theorem nt_slices_Index_L_int64 : fa_slices_Index_L_int64.nt = 19 := rfl
@[simp] theorem rs_slices_Index_L_int64 : fa_slices_Index_L_int64.rs = [.tmp 4] := rfl
@[simp] theorem fz_slices_Index_L_int64 : fa_slices_Index_L_int64.fz = true := rfl
@[simp] theorem rsh_slices_Index_L_int64 : fa_slices_Index_L_int64.rsh = .any := rfl
theorem go_slices_Index_L_int64 {args : List PV} {σ : List AObj} {r : PV × List AObj} (hl : args.length ≤ 19) (h : rE fns fa_slices_Index_L_int64 σ.length [.code ac_slices_Index_L_int64] (frA 0 args) σ = some r) : ev fns i_slices_Index_L_int64 args σ = some r := ev_go n_slices_Index_L_int64 rfl hl h
theorem l_slices_Index_L_int64_0 {ks : List KI} {l : Fr} {σ : List AObj} {n0 : Nat} : rE fns fa_slices_Index_L_int64 n0 (.code lo_slices_Index_L_int64_0 :: ks) l σ = rE fns fa_slices_Index_L_int64 n0 (.code lb_slices_Index_L_int64_0 :: .code lo_slices_Index_L_int64_0 :: ks) l σ := rE_loop
@[simp] theorem nt_slices_Contains_L_int64 : fa_slices_Contains_L_int64.nt = 9 := rfl
@[simp] theorem rs_slices_Contains_L_int64 : fa_slices_Contains_L_int64.rs = [.tmp 4] := rfl
@[simp] theorem fz_slices_Contains_L_int64 : fa_slices_Contains_L_int64.fz = true := rfl
@[simp] theorem rsh_slices_Contains_L_int64 : fa_slices_Contains_L_int64.rsh = .any := rfl
theorem go_slices_Contains_L_int64 {args : List PV} {σ : List AObj} {r : PV × List AObj} (hl : args.length ≤ 9) (h : rE fns fa_slices_Contains_L_int64 σ.length [.code ac_slices_Contains_L_int64] (frA 0 args) σ = some r) : ev fns i_slices_Contains_L_int64 args σ = some r := ev_go n_slices_Contains_L_int64 rfl hl h
@[simp] theorem nt_impl_Checker_used : fa_impl_Checker_used.nt = 78 := rfl
@[simp] theorem rs_impl_Checker_used : fa_impl_Checker_used.rs = [.tmp 2] := rfl
@[simp] theorem fz_impl_Checker_used : fa_impl_Checker_used.fz = false := rfl
@[simp] theorem rsh_impl_Checker_used : fa_impl_Checker_used.rsh = .any := rfl
theorem go_impl_Checker_used {args : List PV} {σ : List AObj} {r : PV × List AObj} (hl : args.length ≤ 78) (h : rE fns fa_impl_Checker_used σ.length [.code ac_impl_Checker_used] (frA 0 args) σ = some r) : ev fns i_impl_Checker_used args σ = some r := ev_go n_impl_Checker_used rfl hl h
theorem l_impl_Checker_used_0 {ks : List KI} {l : Fr} {σ : List AObj} {n0 : Nat} : rE fns fa_impl_Checker_used n0 (.code lo_impl_Checker_used_0 :: ks) l σ = rE fns fa_impl_Checker_used n0 (.code lb_impl_Checker_used_0 :: .code lo_impl_Checker_used_0 :: ks) l σ := rE_loop
theorem l_impl_Checker_used_1 {ks : List KI} {l : Fr} {σ : List AObj} {n0 : Nat} : rE fns fa_impl_Checker_used n0 (.code lo_impl_Checker_used_1 :: ks) l σ = rE fns fa_impl_Checker_used n0 (.code lb_impl_Checker_used_1 :: .code lo_impl_Checker_used_1 :: ks) l σ := rE_loop
@[simp] theorem nt_impl_TrimChecker_1 : fa_impl_TrimChecker_1.nt = 7 := rfl
@[simp] theorem rs_impl_TrimChecker_1 : fa_impl_TrimChecker_1.rs = [.tmp 3] := rfl
@[simp] theorem fz_impl_TrimChecker_1 : fa_impl_TrimChecker_1.fz = true := rfl
@[simp] theorem rsh_impl_TrimChecker_1 : fa_impl_TrimChecker_1.rsh = .any := rfl
theorem go_impl_TrimChecker_1 {args : List PV} {σ : List AObj} {r : PV × List AObj} (hl : args.length ≤ 7) (h : rE fns fa_impl_TrimChecker_1 σ.length [.code ac_impl_TrimChecker_1] (frA 0 args) σ = some r) : ev fns i_impl_TrimChecker_1 args σ = some r := ev_go n_impl_TrimChecker_1 rfl hl h
@[simp] theorem nt_impl_built : fa_impl_built.nt = 98 := rfl
@[simp] theorem rs_impl_built : fa_impl_built.rs = [.cell 14 6 true] := rfl
@[simp] theorem fz_impl_built : fa_impl_built.fz = false := rfl
@[simp] theorem rsh_impl_built : fa_impl_built.rsh = .any := rfl
theorem go_impl_built {args : List PV} {σ : List AObj} {r : PV × List AObj} (hl : args.length ≤ 98) (h : rE fns fa_impl_built σ.length [.code ac_impl_built] (frA 0 args) σ = some r) : ev fns i_impl_built args σ = some r := ev_go n_impl_built rfl hl h
theorem l_impl_built_0 {ks : List KI} {l : Fr} {σ : List AObj} {n0 : Nat} : rE fns fa_impl_built n0 (.code lo_impl_built_0 :: ks) l σ = rE fns fa_impl_built n0 (.code lb_impl_built_0 :: .code lo_impl_built_0 :: ks) l σ := rE_loop
theorem l_impl_built_1 {ks : List KI} {l : Fr} {σ : List AObj} {n0 : Nat} : rE fns fa_impl_built n0 (.code lo_impl_built_1 :: ks) l σ = rE fns fa_impl_built n0 (.code lb_impl_built_1 :: .code lo_impl_built_1 :: ks) l σ := rE_loop
theorem l_impl_built_2 {ks : List KI} {l : Fr} {σ : List AObj} {n0 : Nat} : rE fns fa_impl_built n0 (.code lo_impl_built_2 :: ks) l σ = rE fns fa_impl_built n0 (.code lb_impl_built_2 :: .code lo_impl_built_2 :: ks) l σ := rE_loop
@[simp] theorem nt_impl_TrimChecker_2 : fa_impl_TrimChecker_2.nt = 13 := rfl
@[simp] theorem rs_impl_TrimChecker_2 : fa_impl_TrimChecker_2.rs = [.tmp 4] := rfl
@[simp] theorem fz_impl_TrimChecker_2 : fa_impl_TrimChecker_2.fz = true := rfl
@[simp] theorem rsh_impl_TrimChecker_2 : fa_impl_TrimChecker_2.rsh = .any := rfl
theorem go_impl_TrimChecker_2 {args : List PV} {σ : List AObj} {r : PV × List AObj} (hl : args.length ≤ 13) (h : rE fns fa_impl_TrimChecker_2 σ.length [.code ac_impl_TrimChecker_2] (frA 0 args) σ = some r) : ev fns i_impl_TrimChecker_2 args σ = some r := ev_go n_impl_TrimChecker_2 rfl hl h
@[simp] theorem nt_impl_TrimChecker_3 : fa_impl_TrimChecker_3.nt = 27 := rfl
@[simp] theorem rs_impl_TrimChecker_3 : fa_impl_TrimChecker_3.rs = [.cell 7 2 true] := rfl
@[simp] theorem fz_impl_TrimChecker_3 : fa_impl_TrimChecker_3.fz = true := rfl
@[simp] theorem rsh_impl_TrimChecker_3 : fa_impl_TrimChecker_3.rsh = .any := rfl
theorem go_impl_TrimChecker_3 {args : List PV} {σ : List AObj} {r : PV × List AObj} (hl : args.length ≤ 27) (h : rE fns fa_impl_TrimChecker_3 σ.length [.code ac_impl_TrimChecker_3] (frA 0 args) σ = some r) : ev fns i_impl_TrimChecker_3 args σ = some r := ev_go n_impl_TrimChecker_3 rfl hl h
@[simp] theorem nt_impl_TrimChecker_4 : fa_impl_TrimChecker_4.nt = 26 := rfl
@[simp] theorem rs_impl_TrimChecker_4 : fa_impl_TrimChecker_4.rs = [.tmp 9] := rfl
@[simp] theorem fz_impl_TrimChecker_4 : fa_impl_TrimChecker_4.fz = true := rfl
@[simp] theorem rsh_impl_TrimChecker_4 : fa_impl_TrimChecker_4.rsh = .any := rfl
theorem go_impl_TrimChecker_4 {args : List PV} {σ : List AObj} {r : PV × List AObj} (hl : args.length ≤ 26) (h : rE fns fa_impl_TrimChecker_4 σ.length [.code ac_impl_TrimChecker_4] (frA 0 args) σ = some r) : ev fns i_impl_TrimChecker_4 args σ = some r := ev_go n_impl_TrimChecker_4 rfl hl h
@[simp] theorem nt_impl_TrimChecker_5 : fa_impl_TrimChecker_5.nt = 21 := rfl
@[simp] theorem rs_impl_TrimChecker_5 : fa_impl_TrimChecker_5.rs = [.tmp 7] := rfl
@[simp] theorem fz_impl_TrimChecker_5 : fa_impl_TrimChecker_5.fz = true := rfl
@[simp] theorem rsh_impl_TrimChecker_5 : fa_impl_TrimChecker_5.rsh = .any := rfl
theorem go_impl_TrimChecker_5 {args : List PV} {σ : List AObj} {r : PV × List AObj} (hl : args.length ≤ 21) (h : rE fns fa_impl_TrimChecker_5 σ.length [.code ac_impl_TrimChecker_5] (frA 0 args) σ = some r) : ev fns i_impl_TrimChecker_5 args σ = some r := ev_go n_impl_TrimChecker_5 rfl hl h
@[simp] theorem nt_impl_TrimChecker : fa_impl_TrimChecker.nt = 26 := rfl
@[simp] theorem rs_impl_TrimChecker : fa_impl_TrimChecker.rs = [.cell 2 6 true, .tmp 3] := rfl
@[simp] theorem fz_impl_TrimChecker : fa_impl_TrimChecker.fz = false := rfl
@[simp] theorem rsh_impl_TrimChecker : fa_impl_TrimChecker.rsh = .any := rfl
theorem go_impl_TrimChecker {args : List PV} {σ : List AObj} {r : PV × List AObj} (hl : args.length ≤ 26) (h : rE fns fa_impl_TrimChecker σ.length [.code ac_impl_TrimChecker] (frA 0 args) σ = some r) : ev fns i_impl_TrimChecker args σ = some r := ev_go n_impl_TrimChecker rfl hl h
@[simp] theorem nt_laws_heldBoolS : fa_laws_heldBoolS.nt = 23 := rfl
@[simp] theorem rs_laws_heldBoolS : fa_laws_heldBoolS.rs = [.tmp 4] := rfl
@[simp] theorem fz_laws_heldBoolS : fa_laws_heldBoolS.fz = true := rfl
@[simp] theorem rsh_laws_heldBoolS : fa_laws_heldBoolS.rsh = .any := rfl
theorem go_laws_heldBoolS {args : List PV} {σ : List AObj} {r : PV × List AObj} (hl : args.length ≤ 23) (h : rE fns fa_laws_heldBoolS σ.length [.code ac_laws_heldBoolS] (frA 0 args) σ = some r) : ev fns i_laws_heldBoolS args σ = some r := ev_go n_laws_heldBoolS rfl hl h
theorem l_laws_heldBoolS_0 {ks : List KI} {l : Fr} {σ : List AObj} {n0 : Nat} : rE fns fa_laws_heldBoolS n0 (.code lo_laws_heldBoolS_0 :: ks) l σ = rE fns fa_laws_heldBoolS n0 (.code lb_laws_heldBoolS_0 :: .code lo_laws_heldBoolS_0 :: ks) l σ := rE_loop
@[simp] theorem nt_laws_heldInt64S : fa_laws_heldInt64S.nt = 21 := rfl
@[simp] theorem rs_laws_heldInt64S : fa_laws_heldInt64S.rs = [.tmp 4] := rfl
@[simp] theorem fz_laws_heldInt64S : fa_laws_heldInt64S.fz = true := rfl
@[simp] theorem rsh_laws_heldInt64S : fa_laws_heldInt64S.rsh = .any := rfl
theorem go_laws_heldInt64S {args : List PV} {σ : List AObj} {r : PV × List AObj} (hl : args.length ≤ 21) (h : rE fns fa_laws_heldInt64S σ.length [.code ac_laws_heldInt64S] (frA 0 args) σ = some r) : ev fns i_laws_heldInt64S args σ = some r := ev_go n_laws_heldInt64S rfl hl h
theorem l_laws_heldInt64S_0 {ks : List KI} {l : Fr} {σ : List AObj} {n0 : Nat} : rE fns fa_laws_heldInt64S n0 (.code lo_laws_heldInt64S_0 :: ks) l σ = rE fns fa_laws_heldInt64S n0 (.code lb_laws_heldInt64S_0 :: .code lo_laws_heldInt64S_0 :: ks) l σ := rE_loop
@[simp] theorem nt_laws_heldInt64SS : fa_laws_heldInt64SS.nt = 21 := rfl
@[simp] theorem rs_laws_heldInt64SS : fa_laws_heldInt64SS.rs = [.tmp 4] := rfl
@[simp] theorem fz_laws_heldInt64SS : fa_laws_heldInt64SS.fz = true := rfl
@[simp] theorem rsh_laws_heldInt64SS : fa_laws_heldInt64SS.rsh = .any := rfl
theorem go_laws_heldInt64SS {args : List PV} {σ : List AObj} {r : PV × List AObj} (hl : args.length ≤ 21) (h : rE fns fa_laws_heldInt64SS σ.length [.code ac_laws_heldInt64SS] (frA 0 args) σ = some r) : ev fns i_laws_heldInt64SS args σ = some r := ev_go n_laws_heldInt64SS rfl hl h
theorem l_laws_heldInt64SS_0 {ks : List KI} {l : Fr} {σ : List AObj} {n0 : Nat} : rE fns fa_laws_heldInt64SS n0 (.code lo_laws_heldInt64SS_0 :: ks) l σ = rE fns fa_laws_heldInt64SS n0 (.code lb_laws_heldInt64SS_0 :: .code lo_laws_heldInt64SS_0 :: ks) l σ := rE_loop
@[simp] theorem nt_laws_heldInt64SSS : fa_laws_heldInt64SSS.nt = 21 := rfl
@[simp] theorem rs_laws_heldInt64SSS : fa_laws_heldInt64SSS.rs = [.tmp 4] := rfl
@[simp] theorem fz_laws_heldInt64SSS : fa_laws_heldInt64SSS.fz = true := rfl
@[simp] theorem rsh_laws_heldInt64SSS : fa_laws_heldInt64SSS.rsh = .any := rfl
theorem go_laws_heldInt64SSS {args : List PV} {σ : List AObj} {r : PV × List AObj} (hl : args.length ≤ 21) (h : rE fns fa_laws_heldInt64SSS σ.length [.code ac_laws_heldInt64SSS] (frA 0 args) σ = some r) : ev fns i_laws_heldInt64SSS args σ = some r := ev_go n_laws_heldInt64SSS rfl hl h
theorem l_laws_heldInt64SSS_0 {ks : List KI} {l : Fr} {σ : List AObj} {n0 : Nat} : rE fns fa_laws_heldInt64SSS n0 (.code lo_laws_heldInt64SSS_0 :: ks) l σ = rE fns fa_laws_heldInt64SSS n0 (.code lb_laws_heldInt64SSS_0 :: .code lo_laws_heldInt64SSS_0 :: ks) l σ := rE_loop
@[simp] theorem nt_laws_heldPushS : fa_laws_heldPushS.nt = 31 := rfl
@[simp] theorem rs_laws_heldPushS : fa_laws_heldPushS.rs = [.tmp 4] := rfl
@[simp] theorem fz_laws_heldPushS : fa_laws_heldPushS.fz = true := rfl
@[simp] theorem rsh_laws_heldPushS : fa_laws_heldPushS.rsh = .any := rfl
theorem go_laws_heldPushS {args : List PV} {σ : List AObj} {r : PV × List AObj} (hl : args.length ≤ 31) (h : rE fns fa_laws_heldPushS σ.length [.code ac_laws_heldPushS] (frA 0 args) σ = some r) : ev fns i_laws_heldPushS args σ = some r := ev_go n_laws_heldPushS rfl hl h
theorem l_laws_heldPushS_0 {ks : List KI} {l : Fr} {σ : List AObj} {n0 : Nat} : rE fns fa_laws_heldPushS n0 (.code lo_laws_heldPushS_0 :: ks) l σ = rE fns fa_laws_heldPushS n0 (.code lb_laws_heldPushS_0 :: .code lo_laws_heldPushS_0 :: ks) l σ := rE_loop
@[simp] theorem nt_laws_heldPushSS : fa_laws_heldPushSS.nt = 21 := rfl
@[simp] theorem rs_laws_heldPushSS : fa_laws_heldPushSS.rs = [.tmp 4] := rfl
@[simp] theorem fz_laws_heldPushSS : fa_laws_heldPushSS.fz = true := rfl
@[simp] theorem rsh_laws_heldPushSS : fa_laws_heldPushSS.rsh = .any := rfl
theorem go_laws_heldPushSS {args : List PV} {σ : List AObj} {r : PV × List AObj} (hl : args.length ≤ 21) (h : rE fns fa_laws_heldPushSS σ.length [.code ac_laws_heldPushSS] (frA 0 args) σ = some r) : ev fns i_laws_heldPushSS args σ = some r := ev_go n_laws_heldPushSS rfl hl h
theorem l_laws_heldPushSS_0 {ks : List KI} {l : Fr} {σ : List AObj} {n0 : Nat} : rE fns fa_laws_heldPushSS n0 (.code lo_laws_heldPushSS_0 :: ks) l σ = rE fns fa_laws_heldPushSS n0 (.code lb_laws_heldPushSS_0 :: .code lo_laws_heldPushSS_0 :: ks) l σ := rE_loop
@[simp] theorem nt_laws_heldChecker : fa_laws_heldChecker.nt = 30 := rfl
@[simp] theorem rs_laws_heldChecker : fa_laws_heldChecker.rs = [.tmp 4] := rfl
@[simp] theorem fz_laws_heldChecker : fa_laws_heldChecker.fz = true := rfl
@[simp] theorem rsh_laws_heldChecker : fa_laws_heldChecker.rsh = .any := rfl
theorem go_laws_heldChecker {args : List PV} {σ : List AObj} {r : PV × List AObj} (hl : args.length ≤ 30) (h : rE fns fa_laws_heldChecker σ.length [.code ac_laws_heldChecker] (frA 0 args) σ = some r) : ev fns i_laws_heldChecker args σ = some r := ev_go n_laws_heldChecker rfl hl h
@[simp] theorem nt_laws_FnExactTrimChecker : fa_laws_FnExactTrimChecker.nt = 96 := rfl
@[simp] theorem rs_laws_FnExactTrimChecker : fa_laws_FnExactTrimChecker.rs = [.tmp 2] := rfl
@[simp] theorem fz_laws_FnExactTrimChecker : fa_laws_FnExactTrimChecker.fz = true := rfl
@[simp] theorem rsh_laws_FnExactTrimChecker : fa_laws_FnExactTrimChecker.rsh = .any := rfl
theorem go_laws_FnExactTrimChecker {args : List PV} {σ : List AObj} {r : PV × List AObj} (hl : args.length ≤ 96) (h : rE fns fa_laws_FnExactTrimChecker σ.length [.code ac_laws_FnExactTrimChecker] (frA 0 args) σ = some r) : ev fns i_laws_FnExactTrimChecker args σ = some r := ev_go n_laws_FnExactTrimChecker rfl hl h
end Go.Proofs.Ytoliadfdklfmfaa
