/- The table of all functions; printed by a program (gen2.py). -/
import Derived.Test.YtegjfjckijmgcaaAw30
import Derived.Test.YtegjfjckijmgcaaG0
set_option linter.unusedVariables false
set_option maxRecDepth 100000
namespace Go.Proofs.Ytegjfjckijmgcaa
open Aw
def tbl : List (FnE Try.prog) := [⟨i_laws_eqInt64S, fa_laws_eqInt64S, cf_laws_eqInt64S⟩,
  ⟨i_laws_eqInt64SS, fa_laws_eqInt64SS, cf_laws_eqInt64SS⟩,
  ⟨i_laws_eqBoolS, fa_laws_eqBoolS, cf_laws_eqBoolS⟩,
  ⟨i_laws_eqPush, fa_laws_eqPush, cf_laws_eqPush⟩,
  ⟨i_laws_eqPushS, fa_laws_eqPushS, cf_laws_eqPushS⟩,
  ⟨i_laws_eqPushSS, fa_laws_eqPushSS, cf_laws_eqPushSS⟩,
  ⟨i_laws_eqInt64SSS, fa_laws_eqInt64SSS, cf_laws_eqInt64SSS⟩,
  ⟨i_laws_eqChecker, fa_laws_eqChecker, cf_laws_eqChecker⟩,
  ⟨i_laws_markInt64S, fa_laws_markInt64S, cf_laws_markInt64S⟩,
  ⟨i_laws_markInt64SS, fa_laws_markInt64SS, cf_laws_markInt64SS⟩,
  ⟨i_laws_markBoolS, fa_laws_markBoolS, cf_laws_markBoolS⟩,
  ⟨i_laws_markPushS, fa_laws_markPushS, cf_laws_markPushS⟩,
  ⟨i_laws_markPushSS, fa_laws_markPushSS, cf_laws_markPushSS⟩,
  ⟨i_laws_markInt64SSS, fa_laws_markInt64SSS, cf_laws_markInt64SSS⟩,
  ⟨i_laws_markChecker, fa_laws_markChecker, cf_laws_markChecker⟩,
  ⟨i_laws_szBoolS, fa_laws_szBoolS, cf_laws_szBoolS⟩,
  ⟨i_laws_szInt64S, fa_laws_szInt64S, cf_laws_szInt64S⟩,
  ⟨i_laws_szInt64SS, fa_laws_szInt64SS, cf_laws_szInt64SS⟩,
  ⟨i_laws_szAlgebra, fa_laws_szAlgebra, cf_laws_szAlgebra⟩,
  ⟨i_spec_l00In, fa_spec_l00In, cf_spec_l00In⟩,
  ⟨i_spec_l02List, fa_spec_l02List, cf_spec_l02List⟩,
  ⟨i_spec_l04Ok, fa_spec_l04Ok, cf_spec_l04Ok⟩,
  ⟨i_spec_CheckerOfAlgebra, fa_spec_CheckerOfAlgebra, cf_spec_CheckerOfAlgebra⟩,
  ⟨i_laws_toInt64S, fa_laws_toInt64S, cf_laws_toInt64S⟩,
  ⟨i_laws_toBoolS, fa_laws_toBoolS, cf_laws_toBoolS⟩,
  ⟨i_laws_toInt64SS, fa_laws_toInt64SS, cf_laws_toInt64SS⟩,
  ⟨i_laws_toAlgebra, fa_laws_toAlgebra, cf_laws_toAlgebra⟩,
  ⟨i_impl_size_bool, fa_impl_size_bool, cf_impl_size_bool⟩,
  ⟨i_impl_Algebra_elements, fa_impl_Algebra_elements, cf_impl_Algebra_elements⟩,
  ⟨i_impl_within, fa_impl_within, cf_impl_within⟩,
  ⟨i_impl_size_L_int64, fa_impl_size_L_int64, cf_impl_size_L_int64⟩,
  ⟨i_slices_IndexFunc_L_int64, fa_slices_IndexFunc_L_int64, cf_slices_IndexFunc_L_int64⟩,
  ⟨i_slices_ContainsFunc_L_int64, fa_slices_ContainsFunc_L_int64, cf_slices_ContainsFunc_L_int64⟩,
  ⟨i_impl_size_int64, fa_impl_size_int64, cf_impl_size_int64⟩,
  ⟨i_impl_ValidAlgebra_1_1, fa_impl_ValidAlgebra_1_1, cf_impl_ValidAlgebra_1_1⟩,
  ⟨i_impl_ValidAlgebra_1, fa_impl_ValidAlgebra_1, cf_impl_ValidAlgebra_1⟩,
  ⟨i_impl_ValidAlgebra_2, fa_impl_ValidAlgebra_2, cf_impl_ValidAlgebra_2⟩,
  ⟨i_slices_Grow_L_L_int64, fa_slices_Grow_L_L_int64, cf_slices_Grow_L_L_int64⟩,
  ⟨i_slices_Concat_L_L_int64, fa_slices_Concat_L_L_int64, cf_slices_Concat_L_L_int64⟩,
  ⟨i_impl_Algebra_apart, fa_impl_Algebra_apart, cf_impl_Algebra_apart⟩,
  ⟨i_impl_ValidAlgebra, fa_impl_ValidAlgebra, cf_impl_ValidAlgebra⟩,
  ⟨i_impl_built, fa_impl_built, cf_impl_built⟩,
  ⟨i_impl_CheckerOfAlgebra_1, fa_impl_CheckerOfAlgebra_1, cf_impl_CheckerOfAlgebra_1⟩,
  ⟨i_impl_CheckerOfAlgebra_2, fa_impl_CheckerOfAlgebra_2, cf_impl_CheckerOfAlgebra_2⟩,
  ⟨i_impl_CheckerOfAlgebra_3, fa_impl_CheckerOfAlgebra_3, cf_impl_CheckerOfAlgebra_3⟩,
  ⟨i_impl_CheckerOfAlgebra_4, fa_impl_CheckerOfAlgebra_4, cf_impl_CheckerOfAlgebra_4⟩,
  ⟨i_impl_CheckerOfAlgebra, fa_impl_CheckerOfAlgebra, cf_impl_CheckerOfAlgebra⟩,
  ⟨i_laws_eqAlgebra, fa_laws_eqAlgebra, cf_laws_eqAlgebra⟩,
  ⟨i_laws_markAlgebra, fa_laws_markAlgebra, cf_laws_markAlgebra⟩,
  ⟨i_laws_heldInt64S, fa_laws_heldInt64S, cf_laws_heldInt64S⟩,
  ⟨i_laws_heldInt64SS, fa_laws_heldInt64SS, cf_laws_heldInt64SS⟩,
  ⟨i_laws_heldBoolS, fa_laws_heldBoolS, cf_laws_heldBoolS⟩,
  ⟨i_laws_heldPushS, fa_laws_heldPushS, cf_laws_heldPushS⟩,
  ⟨i_laws_heldPushSS, fa_laws_heldPushSS, cf_laws_heldPushSS⟩,
  ⟨i_laws_heldInt64SSS, fa_laws_heldInt64SSS, cf_laws_heldInt64SSS⟩,
  ⟨i_laws_heldChecker, fa_laws_heldChecker, cf_laws_heldChecker⟩,
  ⟨i_laws_FnExactCheckerOfAlgebra, fa_laws_FnExactCheckerOfAlgebra, cf_laws_FnExactCheckerOfAlgebra⟩]
def fns : Fns := fnsOf tbl
theorem fnsOk : FnsOk Try.prog fns := fnsOf_ok tbl
theorem n_laws_eqInt64S : fns i_laws_eqInt64S = some fa_laws_eqInt64S := rfl
@[simp] theorem c_laws_eqInt64S (args : List PV) (σ : List AObj) : callM fns (ev fns) i_laws_eqInt64S args σ = callT fns [(.lst 1 .any), (.lst 1 .any)] i_laws_eqInt64S args σ := callM_ty n_laws_eqInt64S rfl
theorem n_laws_eqInt64SS : fns i_laws_eqInt64SS = some fa_laws_eqInt64SS := rfl
@[simp] theorem c_laws_eqInt64SS (args : List PV) (σ : List AObj) : callM fns (ev fns) i_laws_eqInt64SS args σ = callT fns [(.lst 1 (.lst 1 .any)), (.lst 1 (.lst 1 .any))] i_laws_eqInt64SS args σ := callM_ty n_laws_eqInt64SS rfl
theorem n_laws_eqBoolS : fns i_laws_eqBoolS = some fa_laws_eqBoolS := rfl
@[simp] theorem c_laws_eqBoolS (args : List PV) (σ : List AObj) : callM fns (ev fns) i_laws_eqBoolS args σ = callN fns i_laws_eqBoolS args σ := callM_np n_laws_eqBoolS rfl rfl
theorem n_laws_eqPush : fns i_laws_eqPush = some fa_laws_eqPush := rfl
@[simp] theorem c_laws_eqPush (args : List PV) (σ : List AObj) : callM fns (ev fns) i_laws_eqPush args σ = callN fns i_laws_eqPush args σ := callM_np n_laws_eqPush rfl rfl
theorem n_laws_eqPushS : fns i_laws_eqPushS = some fa_laws_eqPushS := rfl
@[simp] theorem c_laws_eqPushS (args : List PV) (σ : List AObj) : callM fns (ev fns) i_laws_eqPushS args σ = callN fns i_laws_eqPushS args σ := callM_np n_laws_eqPushS rfl rfl
theorem n_laws_eqPushSS : fns i_laws_eqPushSS = some fa_laws_eqPushSS := rfl
@[simp] theorem c_laws_eqPushSS (args : List PV) (σ : List AObj) : callM fns (ev fns) i_laws_eqPushSS args σ = callN fns i_laws_eqPushSS args σ := callM_np n_laws_eqPushSS rfl rfl
theorem n_laws_eqInt64SSS : fns i_laws_eqInt64SSS = some fa_laws_eqInt64SSS := rfl
@[simp] theorem c_laws_eqInt64SSS (args : List PV) (σ : List AObj) : callM fns (ev fns) i_laws_eqInt64SSS args σ = callN fns i_laws_eqInt64SSS args σ := callM_np n_laws_eqInt64SSS rfl rfl
theorem n_laws_eqChecker : fns i_laws_eqChecker = some fa_laws_eqChecker := rfl
@[simp] theorem c_laws_eqChecker (args : List PV) (σ : List AObj) : callM fns (ev fns) i_laws_eqChecker args σ = callT fns [(.agg [.any, .any, (.lst 1 .any), (.lst 1 (.lst 2 .any)), (.lst 1 (.lst 1 (.lst 1 .any))), (.lst 1 (.lst 1 .any))]), (.agg [.any, .any, (.lst 1 .any), (.lst 1 (.lst 2 .any)), (.lst 1 (.lst 1 (.lst 1 .any))), (.lst 1 (.lst 1 .any))])] i_laws_eqChecker args σ := callM_ty n_laws_eqChecker rfl
theorem n_laws_markInt64S : fns i_laws_markInt64S = some fa_laws_markInt64S := rfl
@[simp] theorem c_laws_markInt64S (args : List PV) (σ : List AObj) : callM fns (ev fns) i_laws_markInt64S args σ = ev fns i_laws_markInt64S args σ := by simp [callM, n_laws_markInt64S, fa_laws_markInt64S]
theorem n_laws_markInt64SS : fns i_laws_markInt64SS = some fa_laws_markInt64SS := rfl
@[simp] theorem c_laws_markInt64SS (args : List PV) (σ : List AObj) : callM fns (ev fns) i_laws_markInt64SS args σ = ev fns i_laws_markInt64SS args σ := by simp [callM, n_laws_markInt64SS, fa_laws_markInt64SS]
theorem n_laws_markBoolS : fns i_laws_markBoolS = some fa_laws_markBoolS := rfl
@[simp] theorem c_laws_markBoolS (args : List PV) (σ : List AObj) : callM fns (ev fns) i_laws_markBoolS args σ = ev fns i_laws_markBoolS args σ := by simp [callM, n_laws_markBoolS, fa_laws_markBoolS]
theorem n_laws_markPushS : fns i_laws_markPushS = some fa_laws_markPushS := rfl
@[simp] theorem c_laws_markPushS (args : List PV) (σ : List AObj) : callM fns (ev fns) i_laws_markPushS args σ = ev fns i_laws_markPushS args σ := by simp [callM, n_laws_markPushS, fa_laws_markPushS]
theorem n_laws_markPushSS : fns i_laws_markPushSS = some fa_laws_markPushSS := rfl
@[simp] theorem c_laws_markPushSS (args : List PV) (σ : List AObj) : callM fns (ev fns) i_laws_markPushSS args σ = ev fns i_laws_markPushSS args σ := by simp [callM, n_laws_markPushSS, fa_laws_markPushSS]
theorem n_laws_markInt64SSS : fns i_laws_markInt64SSS = some fa_laws_markInt64SSS := rfl
@[simp] theorem c_laws_markInt64SSS (args : List PV) (σ : List AObj) : callM fns (ev fns) i_laws_markInt64SSS args σ = ev fns i_laws_markInt64SSS args σ := by simp [callM, n_laws_markInt64SSS, fa_laws_markInt64SSS]
theorem n_laws_markChecker : fns i_laws_markChecker = some fa_laws_markChecker := rfl
@[simp] theorem c_laws_markChecker (args : List PV) (σ : List AObj) : callM fns (ev fns) i_laws_markChecker args σ = ev fns i_laws_markChecker args σ := by simp [callM, n_laws_markChecker, fa_laws_markChecker]
theorem n_laws_szBoolS : fns i_laws_szBoolS = some fa_laws_szBoolS := rfl
@[simp] theorem c_laws_szBoolS (args : List PV) (σ : List AObj) : callM fns (ev fns) i_laws_szBoolS args σ = callN fns i_laws_szBoolS args σ := callM_np n_laws_szBoolS rfl rfl
theorem n_laws_szInt64S : fns i_laws_szInt64S = some fa_laws_szInt64S := rfl
@[simp] theorem c_laws_szInt64S (args : List PV) (σ : List AObj) : callM fns (ev fns) i_laws_szInt64S args σ = callN fns i_laws_szInt64S args σ := callM_np n_laws_szInt64S rfl rfl
theorem n_laws_szInt64SS : fns i_laws_szInt64SS = some fa_laws_szInt64SS := rfl
@[simp] theorem c_laws_szInt64SS (args : List PV) (σ : List AObj) : callM fns (ev fns) i_laws_szInt64SS args σ = callN fns i_laws_szInt64SS args σ := callM_np n_laws_szInt64SS rfl rfl
theorem n_laws_szAlgebra : fns i_laws_szAlgebra = some fa_laws_szAlgebra := rfl
@[simp] theorem c_laws_szAlgebra (args : List PV) (σ : List AObj) : callM fns (ev fns) i_laws_szAlgebra args σ = callN fns i_laws_szAlgebra args σ := callM_np n_laws_szAlgebra rfl rfl
theorem n_spec_l00In : fns i_spec_l00In = some fa_spec_l00In := rfl
@[simp] theorem c_spec_l00In (args : List PV) (σ : List AObj) : callM fns (ev fns) i_spec_l00In args σ = callN fns i_spec_l00In args σ := callM_np n_spec_l00In rfl rfl
theorem n_spec_l02List : fns i_spec_l02List = some fa_spec_l02List := rfl
@[simp] theorem c_spec_l02List (args : List PV) (σ : List AObj) : callM fns (ev fns) i_spec_l02List args σ = callN fns i_spec_l02List args σ := callM_np n_spec_l02List rfl rfl
theorem n_spec_l04Ok : fns i_spec_l04Ok = some fa_spec_l04Ok := rfl
@[simp] theorem c_spec_l04Ok (args : List PV) (σ : List AObj) : callM fns (ev fns) i_spec_l04Ok args σ = callN fns i_spec_l04Ok args σ := callM_np n_spec_l04Ok rfl rfl
theorem n_spec_CheckerOfAlgebra : fns i_spec_CheckerOfAlgebra = some fa_spec_CheckerOfAlgebra := rfl
@[simp] theorem c_spec_CheckerOfAlgebra (args : List PV) (σ : List AObj) : callM fns (ev fns) i_spec_CheckerOfAlgebra args σ = callT fns [(.agg [(.lst 1 (.lst 1 .any)), (.lst 1 (.lst 1 .any)), (.lst 1 .any), (.lst 1 .any)])] i_spec_CheckerOfAlgebra args σ := callM_ty n_spec_CheckerOfAlgebra rfl
theorem n_laws_toInt64S : fns i_laws_toInt64S = some fa_laws_toInt64S := rfl
@[simp] theorem c_laws_toInt64S (args : List PV) (σ : List AObj) : callM fns (ev fns) i_laws_toInt64S args σ = callN fns i_laws_toInt64S args σ := callM_np n_laws_toInt64S rfl rfl
theorem n_laws_toBoolS : fns i_laws_toBoolS = some fa_laws_toBoolS := rfl
@[simp] theorem c_laws_toBoolS (args : List PV) (σ : List AObj) : callM fns (ev fns) i_laws_toBoolS args σ = callN fns i_laws_toBoolS args σ := callM_np n_laws_toBoolS rfl rfl
theorem n_laws_toInt64SS : fns i_laws_toInt64SS = some fa_laws_toInt64SS := rfl
@[simp] theorem c_laws_toInt64SS (args : List PV) (σ : List AObj) : callM fns (ev fns) i_laws_toInt64SS args σ = callN fns i_laws_toInt64SS args σ := callM_np n_laws_toInt64SS rfl rfl
theorem n_laws_toAlgebra : fns i_laws_toAlgebra = some fa_laws_toAlgebra := rfl
@[simp] theorem c_laws_toAlgebra (args : List PV) (σ : List AObj) : callM fns (ev fns) i_laws_toAlgebra args σ = callN fns i_laws_toAlgebra args σ := callM_np n_laws_toAlgebra rfl rfl
theorem n_impl_size_bool : fns i_impl_size_bool = some fa_impl_size_bool := rfl
@[simp] theorem c_impl_size_bool (args : List PV) (σ : List AObj) : callM fns (ev fns) i_impl_size_bool args σ = callN fns i_impl_size_bool args σ := callM_np n_impl_size_bool rfl rfl
theorem n_impl_Algebra_elements : fns i_impl_Algebra_elements = some fa_impl_Algebra_elements := rfl
@[simp] theorem c_impl_Algebra_elements (args : List PV) (σ : List AObj) : callM fns (ev fns) i_impl_Algebra_elements args σ = callN fns i_impl_Algebra_elements args σ := callM_np n_impl_Algebra_elements rfl rfl
theorem n_impl_within : fns i_impl_within = some fa_impl_within := rfl
@[simp] theorem c_impl_within (args : List PV) (σ : List AObj) : callM fns (ev fns) i_impl_within args σ = callN fns i_impl_within args σ := callM_np n_impl_within rfl rfl
theorem n_impl_size_L_int64 : fns i_impl_size_L_int64 = some fa_impl_size_L_int64 := rfl
@[simp] theorem c_impl_size_L_int64 (args : List PV) (σ : List AObj) : callM fns (ev fns) i_impl_size_L_int64 args σ = callN fns i_impl_size_L_int64 args σ := callM_np n_impl_size_L_int64 rfl rfl
theorem n_slices_IndexFunc_L_int64 : fns i_slices_IndexFunc_L_int64 = some fa_slices_IndexFunc_L_int64 := rfl
@[simp] theorem c_slices_IndexFunc_L_int64 (args : List PV) (σ : List AObj) : callM fns (ev fns) i_slices_IndexFunc_L_int64 args σ = callN fns i_slices_IndexFunc_L_int64 args σ := callM_np n_slices_IndexFunc_L_int64 rfl rfl
theorem n_slices_ContainsFunc_L_int64 : fns i_slices_ContainsFunc_L_int64 = some fa_slices_ContainsFunc_L_int64 := rfl
@[simp] theorem c_slices_ContainsFunc_L_int64 (args : List PV) (σ : List AObj) : callM fns (ev fns) i_slices_ContainsFunc_L_int64 args σ = callN fns i_slices_ContainsFunc_L_int64 args σ := callM_np n_slices_ContainsFunc_L_int64 rfl rfl
theorem n_impl_size_int64 : fns i_impl_size_int64 = some fa_impl_size_int64 := rfl
@[simp] theorem c_impl_size_int64 (args : List PV) (σ : List AObj) : callM fns (ev fns) i_impl_size_int64 args σ = callN fns i_impl_size_int64 args σ := callM_np n_impl_size_int64 rfl rfl
theorem n_impl_ValidAlgebra_1_1 : fns i_impl_ValidAlgebra_1_1 = some fa_impl_ValidAlgebra_1_1 := rfl
@[simp] theorem c_impl_ValidAlgebra_1_1 (args : List PV) (σ : List AObj) : callM fns (ev fns) i_impl_ValidAlgebra_1_1 args σ = callN fns i_impl_ValidAlgebra_1_1 args σ := callM_np n_impl_ValidAlgebra_1_1 rfl rfl
theorem n_impl_ValidAlgebra_1 : fns i_impl_ValidAlgebra_1 = some fa_impl_ValidAlgebra_1 := rfl
@[simp] theorem c_impl_ValidAlgebra_1 (args : List PV) (σ : List AObj) : callM fns (ev fns) i_impl_ValidAlgebra_1 args σ = callN fns i_impl_ValidAlgebra_1 args σ := callM_np n_impl_ValidAlgebra_1 rfl rfl
theorem n_impl_ValidAlgebra_2 : fns i_impl_ValidAlgebra_2 = some fa_impl_ValidAlgebra_2 := rfl
@[simp] theorem c_impl_ValidAlgebra_2 (args : List PV) (σ : List AObj) : callM fns (ev fns) i_impl_ValidAlgebra_2 args σ = callN fns i_impl_ValidAlgebra_2 args σ := callM_np n_impl_ValidAlgebra_2 rfl rfl
theorem n_slices_Grow_L_L_int64 : fns i_slices_Grow_L_L_int64 = some fa_slices_Grow_L_L_int64 := rfl
@[simp] theorem c_slices_Grow_L_L_int64 (args : List PV) (σ : List AObj) : callM fns (ev fns) i_slices_Grow_L_L_int64 args σ = callN fns i_slices_Grow_L_L_int64 args σ := callM_np n_slices_Grow_L_L_int64 rfl rfl
theorem n_slices_Concat_L_L_int64 : fns i_slices_Concat_L_L_int64 = some fa_slices_Concat_L_L_int64 := rfl
@[simp] theorem c_slices_Concat_L_L_int64 (args : List PV) (σ : List AObj) : callM fns (ev fns) i_slices_Concat_L_L_int64 args σ = callN fns i_slices_Concat_L_L_int64 args σ := callM_np n_slices_Concat_L_L_int64 rfl rfl
theorem n_impl_Algebra_apart : fns i_impl_Algebra_apart = some fa_impl_Algebra_apart := rfl
@[simp] theorem c_impl_Algebra_apart (args : List PV) (σ : List AObj) : callM fns (ev fns) i_impl_Algebra_apart args σ = callN fns i_impl_Algebra_apart args σ := callM_np n_impl_Algebra_apart rfl rfl
theorem n_impl_ValidAlgebra : fns i_impl_ValidAlgebra = some fa_impl_ValidAlgebra := rfl
@[simp] theorem c_impl_ValidAlgebra (args : List PV) (σ : List AObj) : callM fns (ev fns) i_impl_ValidAlgebra args σ = callN fns i_impl_ValidAlgebra args σ := callM_np n_impl_ValidAlgebra rfl rfl
theorem n_impl_built : fns i_impl_built = some fa_impl_built := rfl
@[simp] theorem c_impl_built (args : List PV) (σ : List AObj) : callM fns (ev fns) i_impl_built args σ = callN fns i_impl_built args σ := callM_np n_impl_built rfl rfl
theorem n_impl_CheckerOfAlgebra_1 : fns i_impl_CheckerOfAlgebra_1 = some fa_impl_CheckerOfAlgebra_1 := rfl
@[simp] theorem c_impl_CheckerOfAlgebra_1 (args : List PV) (σ : List AObj) : callM fns (ev fns) i_impl_CheckerOfAlgebra_1 args σ = callN fns i_impl_CheckerOfAlgebra_1 args σ := callM_np n_impl_CheckerOfAlgebra_1 rfl rfl
theorem n_impl_CheckerOfAlgebra_2 : fns i_impl_CheckerOfAlgebra_2 = some fa_impl_CheckerOfAlgebra_2 := rfl
@[simp] theorem c_impl_CheckerOfAlgebra_2 (args : List PV) (σ : List AObj) : callM fns (ev fns) i_impl_CheckerOfAlgebra_2 args σ = callN fns i_impl_CheckerOfAlgebra_2 args σ := callM_np n_impl_CheckerOfAlgebra_2 rfl rfl
theorem n_impl_CheckerOfAlgebra_3 : fns i_impl_CheckerOfAlgebra_3 = some fa_impl_CheckerOfAlgebra_3 := rfl
@[simp] theorem c_impl_CheckerOfAlgebra_3 (args : List PV) (σ : List AObj) : callM fns (ev fns) i_impl_CheckerOfAlgebra_3 args σ = callN fns i_impl_CheckerOfAlgebra_3 args σ := callM_np n_impl_CheckerOfAlgebra_3 rfl rfl
theorem n_impl_CheckerOfAlgebra_4 : fns i_impl_CheckerOfAlgebra_4 = some fa_impl_CheckerOfAlgebra_4 := rfl
@[simp] theorem c_impl_CheckerOfAlgebra_4 (args : List PV) (σ : List AObj) : callM fns (ev fns) i_impl_CheckerOfAlgebra_4 args σ = callN fns i_impl_CheckerOfAlgebra_4 args σ := callM_np n_impl_CheckerOfAlgebra_4 rfl rfl
theorem n_impl_CheckerOfAlgebra : fns i_impl_CheckerOfAlgebra = some fa_impl_CheckerOfAlgebra := rfl
@[simp] theorem c_impl_CheckerOfAlgebra (args : List PV) (σ : List AObj) : callM fns (ev fns) i_impl_CheckerOfAlgebra args σ = callT fns [(.agg [(.lst 1 (.lst 1 .any)), (.lst 1 (.lst 1 .any)), (.lst 1 .any), (.lst 1 .any)])] i_impl_CheckerOfAlgebra args σ := callM_ty n_impl_CheckerOfAlgebra rfl
theorem n_laws_eqAlgebra : fns i_laws_eqAlgebra = some fa_laws_eqAlgebra := rfl
@[simp] theorem c_laws_eqAlgebra (args : List PV) (σ : List AObj) : callM fns (ev fns) i_laws_eqAlgebra args σ = callT fns [(.agg [(.lst 1 (.lst 1 .any)), (.lst 1 (.lst 1 .any)), (.lst 1 .any), (.lst 1 .any)]), (.agg [(.lst 1 (.lst 1 .any)), (.lst 1 (.lst 1 .any)), (.lst 1 .any), (.lst 1 .any)])] i_laws_eqAlgebra args σ := callM_ty n_laws_eqAlgebra rfl
theorem n_laws_markAlgebra : fns i_laws_markAlgebra = some fa_laws_markAlgebra := rfl
@[simp] theorem c_laws_markAlgebra (args : List PV) (σ : List AObj) : callM fns (ev fns) i_laws_markAlgebra args σ = ev fns i_laws_markAlgebra args σ := by simp [callM, n_laws_markAlgebra, fa_laws_markAlgebra]
theorem n_laws_heldInt64S : fns i_laws_heldInt64S = some fa_laws_heldInt64S := rfl
@[simp] theorem c_laws_heldInt64S (args : List PV) (σ : List AObj) : callM fns (ev fns) i_laws_heldInt64S args σ = callT fns [(.lst 1 .any), .any] i_laws_heldInt64S args σ := callM_ty n_laws_heldInt64S rfl
theorem n_laws_heldInt64SS : fns i_laws_heldInt64SS = some fa_laws_heldInt64SS := rfl
@[simp] theorem c_laws_heldInt64SS (args : List PV) (σ : List AObj) : callM fns (ev fns) i_laws_heldInt64SS args σ = callT fns [(.lst 1 (.lst 1 .any)), .any] i_laws_heldInt64SS args σ := callM_ty n_laws_heldInt64SS rfl
theorem n_laws_heldBoolS : fns i_laws_heldBoolS = some fa_laws_heldBoolS := rfl
@[simp] theorem c_laws_heldBoolS (args : List PV) (σ : List AObj) : callM fns (ev fns) i_laws_heldBoolS args σ = callN fns i_laws_heldBoolS args σ := callM_np n_laws_heldBoolS rfl rfl
theorem n_laws_heldPushS : fns i_laws_heldPushS = some fa_laws_heldPushS := rfl
@[simp] theorem c_laws_heldPushS (args : List PV) (σ : List AObj) : callM fns (ev fns) i_laws_heldPushS args σ = callN fns i_laws_heldPushS args σ := callM_np n_laws_heldPushS rfl rfl
theorem n_laws_heldPushSS : fns i_laws_heldPushSS = some fa_laws_heldPushSS := rfl
@[simp] theorem c_laws_heldPushSS (args : List PV) (σ : List AObj) : callM fns (ev fns) i_laws_heldPushSS args σ = callN fns i_laws_heldPushSS args σ := callM_np n_laws_heldPushSS rfl rfl
theorem n_laws_heldInt64SSS : fns i_laws_heldInt64SSS = some fa_laws_heldInt64SSS := rfl
@[simp] theorem c_laws_heldInt64SSS (args : List PV) (σ : List AObj) : callM fns (ev fns) i_laws_heldInt64SSS args σ = callN fns i_laws_heldInt64SSS args σ := callM_np n_laws_heldInt64SSS rfl rfl
theorem n_laws_heldChecker : fns i_laws_heldChecker = some fa_laws_heldChecker := rfl
@[simp] theorem c_laws_heldChecker (args : List PV) (σ : List AObj) : callM fns (ev fns) i_laws_heldChecker args σ = callT fns [(.agg [.any, .any, (.lst 1 .any), (.lst 1 (.lst 2 .any)), (.lst 1 (.lst 1 (.lst 1 .any))), (.lst 1 (.lst 1 .any))]), .any] i_laws_heldChecker args σ := callM_ty n_laws_heldChecker rfl
theorem n_laws_FnExactCheckerOfAlgebra : fns i_laws_FnExactCheckerOfAlgebra = some fa_laws_FnExactCheckerOfAlgebra := rfl
@[simp] theorem c_laws_FnExactCheckerOfAlgebra (args : List PV) (σ : List AObj) : callM fns (ev fns) i_laws_FnExactCheckerOfAlgebra args σ = callN fns i_laws_FnExactCheckerOfAlgebra args σ := callM_np n_laws_FnExactCheckerOfAlgebra rfl rfl
@[simp] theorem nt_laws_eqInt64S : fa_laws_eqInt64S.nt = 26 := rfl
@[simp] theorem rs_laws_eqInt64S : fa_laws_eqInt64S.rs = [.tmp 4] := rfl
@[simp] theorem fz_laws_eqInt64S : fa_laws_eqInt64S.fz = true := rfl
@[simp] theorem rsh_laws_eqInt64S : fa_laws_eqInt64S.rsh = .any := rfl
theorem go_laws_eqInt64S {args : List PV} {σ : List AObj} {r : PV × List AObj} (hl : args.length ≤ 26) (h : rE fns fa_laws_eqInt64S σ.length [.code ac_laws_eqInt64S] (frA 0 args) σ = some r) : ev fns i_laws_eqInt64S args σ = some r := ev_go n_laws_eqInt64S rfl hl h
theorem l_laws_eqInt64S_0 {ks : List KI} {l : Fr} {σ : List AObj} {n0 : Nat} : rE fns fa_laws_eqInt64S n0 (.code lo_laws_eqInt64S_0 :: ks) l σ = rE fns fa_laws_eqInt64S n0 (.code lb_laws_eqInt64S_0 :: .code lo_laws_eqInt64S_0 :: ks) l σ := rE_loop
@[simp] theorem nt_laws_eqInt64SS : fa_laws_eqInt64SS.nt = 27 := rfl
@[simp] theorem rs_laws_eqInt64SS : fa_laws_eqInt64SS.rs = [.tmp 4] := rfl
@[simp] theorem fz_laws_eqInt64SS : fa_laws_eqInt64SS.fz = true := rfl
@[simp] theorem rsh_laws_eqInt64SS : fa_laws_eqInt64SS.rsh = .any := rfl
theorem go_laws_eqInt64SS {args : List PV} {σ : List AObj} {r : PV × List AObj} (hl : args.length ≤ 27) (h : rE fns fa_laws_eqInt64SS σ.length [.code ac_laws_eqInt64SS] (frA 0 args) σ = some r) : ev fns i_laws_eqInt64SS args σ = some r := ev_go n_laws_eqInt64SS rfl hl h
theorem l_laws_eqInt64SS_0 {ks : List KI} {l : Fr} {σ : List AObj} {n0 : Nat} : rE fns fa_laws_eqInt64SS n0 (.code lo_laws_eqInt64SS_0 :: ks) l σ = rE fns fa_laws_eqInt64SS n0 (.code lb_laws_eqInt64SS_0 :: .code lo_laws_eqInt64SS_0 :: ks) l σ := rE_loop
@[simp] theorem nt_laws_eqBoolS : fa_laws_eqBoolS.nt = 26 := rfl
@[simp] theorem rs_laws_eqBoolS : fa_laws_eqBoolS.rs = [.tmp 4] := rfl
@[simp] theorem fz_laws_eqBoolS : fa_laws_eqBoolS.fz = true := rfl
@[simp] theorem rsh_laws_eqBoolS : fa_laws_eqBoolS.rsh = .any := rfl
theorem go_laws_eqBoolS {args : List PV} {σ : List AObj} {r : PV × List AObj} (hl : args.length ≤ 26) (h : rE fns fa_laws_eqBoolS σ.length [.code ac_laws_eqBoolS] (frA 0 args) σ = some r) : ev fns i_laws_eqBoolS args σ = some r := ev_go n_laws_eqBoolS rfl hl h
theorem l_laws_eqBoolS_0 {ks : List KI} {l : Fr} {σ : List AObj} {n0 : Nat} : rE fns fa_laws_eqBoolS n0 (.code lo_laws_eqBoolS_0 :: ks) l σ = rE fns fa_laws_eqBoolS n0 (.code lb_laws_eqBoolS_0 :: .code lo_laws_eqBoolS_0 :: ks) l σ := rE_loop
@[simp] theorem nt_laws_eqPush : fa_laws_eqPush.nt = 15 := rfl
@[simp] theorem rs_laws_eqPush : fa_laws_eqPush.rs = [.tmp 4] := rfl
@[simp] theorem fz_laws_eqPush : fa_laws_eqPush.fz = true := rfl
@[simp] theorem rsh_laws_eqPush : fa_laws_eqPush.rsh = .any := rfl
theorem go_laws_eqPush {args : List PV} {σ : List AObj} {r : PV × List AObj} (hl : args.length ≤ 15) (h : rE fns fa_laws_eqPush σ.length [.code ac_laws_eqPush] (frA 0 args) σ = some r) : ev fns i_laws_eqPush args σ = some r := ev_go n_laws_eqPush rfl hl h
@[simp] theorem nt_laws_eqPushS : fa_laws_eqPushS.nt = 27 := rfl
@[simp] theorem rs_laws_eqPushS : fa_laws_eqPushS.rs = [.tmp 4] := rfl
@[simp] theorem fz_laws_eqPushS : fa_laws_eqPushS.fz = true := rfl
@[simp] theorem rsh_laws_eqPushS : fa_laws_eqPushS.rsh = .any := rfl
theorem go_laws_eqPushS {args : List PV} {σ : List AObj} {r : PV × List AObj} (hl : args.length ≤ 27) (h : rE fns fa_laws_eqPushS σ.length [.code ac_laws_eqPushS] (frA 0 args) σ = some r) : ev fns i_laws_eqPushS args σ = some r := ev_go n_laws_eqPushS rfl hl h
theorem l_laws_eqPushS_0 {ks : List KI} {l : Fr} {σ : List AObj} {n0 : Nat} : rE fns fa_laws_eqPushS n0 (.code lo_laws_eqPushS_0 :: ks) l σ = rE fns fa_laws_eqPushS n0 (.code lb_laws_eqPushS_0 :: .code lo_laws_eqPushS_0 :: ks) l σ := rE_loop
@[simp] theorem nt_laws_eqPushSS : fa_laws_eqPushSS.nt = 27 := rfl
@[simp] theorem rs_laws_eqPushSS : fa_laws_eqPushSS.rs = [.tmp 4] := rfl
@[simp] theorem fz_laws_eqPushSS : fa_laws_eqPushSS.fz = true := rfl
@[simp] theorem rsh_laws_eqPushSS : fa_laws_eqPushSS.rsh = .any := rfl
theorem go_laws_eqPushSS {args : List PV} {σ : List AObj} {r : PV × List AObj} (hl : args.length ≤ 27) (h : rE fns fa_laws_eqPushSS σ.length [.code ac_laws_eqPushSS] (frA 0 args) σ = some r) : ev fns i_laws_eqPushSS args σ = some r := ev_go n_laws_eqPushSS rfl hl h
theorem l_laws_eqPushSS_0 {ks : List KI} {l : Fr} {σ : List AObj} {n0 : Nat} : rE fns fa_laws_eqPushSS n0 (.code lo_laws_eqPushSS_0 :: ks) l σ = rE fns fa_laws_eqPushSS n0 (.code lb_laws_eqPushSS_0 :: .code lo_laws_eqPushSS_0 :: ks) l σ := rE_loop
@[simp] theorem nt_laws_eqInt64SSS : fa_laws_eqInt64SSS.nt = 27 := rfl
@[simp] theorem rs_laws_eqInt64SSS : fa_laws_eqInt64SSS.rs = [.tmp 4] := rfl
@[simp] theorem fz_laws_eqInt64SSS : fa_laws_eqInt64SSS.fz = true := rfl
@[simp] theorem rsh_laws_eqInt64SSS : fa_laws_eqInt64SSS.rsh = .any := rfl
theorem go_laws_eqInt64SSS {args : List PV} {σ : List AObj} {r : PV × List AObj} (hl : args.length ≤ 27) (h : rE fns fa_laws_eqInt64SSS σ.length [.code ac_laws_eqInt64SSS] (frA 0 args) σ = some r) : ev fns i_laws_eqInt64SSS args σ = some r := ev_go n_laws_eqInt64SSS rfl hl h
theorem l_laws_eqInt64SSS_0 {ks : List KI} {l : Fr} {σ : List AObj} {n0 : Nat} : rE fns fa_laws_eqInt64SSS n0 (.code lo_laws_eqInt64SSS_0 :: ks) l σ = rE fns fa_laws_eqInt64SSS n0 (.code lb_laws_eqInt64SSS_0 :: .code lo_laws_eqInt64SSS_0 :: ks) l σ := rE_loop
@[simp] theorem nt_laws_eqChecker : fa_laws_eqChecker.nt = 39 := rfl
@[simp] theorem rs_laws_eqChecker : fa_laws_eqChecker.rs = [.tmp 4] := rfl
@[simp] theorem fz_laws_eqChecker : fa_laws_eqChecker.fz = true := rfl
@[simp] theorem rsh_laws_eqChecker : fa_laws_eqChecker.rsh = .any := rfl
theorem go_laws_eqChecker {args : List PV} {σ : List AObj} {r : PV × List AObj} (hl : args.length ≤ 39) (h : rE fns fa_laws_eqChecker σ.length [.code ac_laws_eqChecker] (frA 0 args) σ = some r) : ev fns i_laws_eqChecker args σ = some r := ev_go n_laws_eqChecker rfl hl h
@[simp] theorem nt_laws_markInt64S : fa_laws_markInt64S.nt = 19 := rfl
@[simp] theorem rs_laws_markInt64S : fa_laws_markInt64S.rs = [.tmp 4] := rfl
@[simp] theorem fz_laws_markInt64S : fa_laws_markInt64S.fz = false := rfl
@[simp] theorem rsh_laws_markInt64S : fa_laws_markInt64S.rsh = .any := rfl
theorem go_laws_markInt64S {args : List PV} {σ : List AObj} {r : PV × List AObj} (hl : args.length ≤ 19) (h : rE fns fa_laws_markInt64S σ.length [.code ac_laws_markInt64S] (frA 0 args) σ = some r) : ev fns i_laws_markInt64S args σ = some r := ev_go n_laws_markInt64S rfl hl h
theorem l_laws_markInt64S_0 {ks : List KI} {l : Fr} {σ : List AObj} {n0 : Nat} : rE fns fa_laws_markInt64S n0 (.code lo_laws_markInt64S_0 :: ks) l σ = rE fns fa_laws_markInt64S n0 (.code lb_laws_markInt64S_0 :: .code lo_laws_markInt64S_0 :: ks) l σ := rE_loop
@[simp] theorem nt_laws_markInt64SS : fa_laws_markInt64SS.nt = 19 := rfl
@[simp] theorem rs_laws_markInt64SS : fa_laws_markInt64SS.rs = [.tmp 4] := rfl
@[simp] theorem fz_laws_markInt64SS : fa_laws_markInt64SS.fz = false := rfl
@[simp] theorem rsh_laws_markInt64SS : fa_laws_markInt64SS.rsh = .any := rfl
theorem go_laws_markInt64SS {args : List PV} {σ : List AObj} {r : PV × List AObj} (hl : args.length ≤ 19) (h : rE fns fa_laws_markInt64SS σ.length [.code ac_laws_markInt64SS] (frA 0 args) σ = some r) : ev fns i_laws_markInt64SS args σ = some r := ev_go n_laws_markInt64SS rfl hl h
theorem l_laws_markInt64SS_0 {ks : List KI} {l : Fr} {σ : List AObj} {n0 : Nat} : rE fns fa_laws_markInt64SS n0 (.code lo_laws_markInt64SS_0 :: ks) l σ = rE fns fa_laws_markInt64SS n0 (.code lb_laws_markInt64SS_0 :: .code lo_laws_markInt64SS_0 :: ks) l σ := rE_loop
@[simp] theorem nt_laws_markBoolS : fa_laws_markBoolS.nt = 21 := rfl
@[simp] theorem rs_laws_markBoolS : fa_laws_markBoolS.rs = [.tmp 4] := rfl
@[simp] theorem fz_laws_markBoolS : fa_laws_markBoolS.fz = false := rfl
@[simp] theorem rsh_laws_markBoolS : fa_laws_markBoolS.rsh = .any := rfl
theorem go_laws_markBoolS {args : List PV} {σ : List AObj} {r : PV × List AObj} (hl : args.length ≤ 21) (h : rE fns fa_laws_markBoolS σ.length [.code ac_laws_markBoolS] (frA 0 args) σ = some r) : ev fns i_laws_markBoolS args σ = some r := ev_go n_laws_markBoolS rfl hl h
theorem l_laws_markBoolS_0 {ks : List KI} {l : Fr} {σ : List AObj} {n0 : Nat} : rE fns fa_laws_markBoolS n0 (.code lo_laws_markBoolS_0 :: ks) l σ = rE fns fa_laws_markBoolS n0 (.code lb_laws_markBoolS_0 :: .code lo_laws_markBoolS_0 :: ks) l σ := rE_loop
@[simp] theorem nt_laws_markPushS : fa_laws_markPushS.nt = 27 := rfl
@[simp] theorem rs_laws_markPushS : fa_laws_markPushS.rs = [.tmp 4] := rfl
@[simp] theorem fz_laws_markPushS : fa_laws_markPushS.fz = false := rfl
@[simp] theorem rsh_laws_markPushS : fa_laws_markPushS.rsh = .any := rfl
theorem go_laws_markPushS {args : List PV} {σ : List AObj} {r : PV × List AObj} (hl : args.length ≤ 27) (h : rE fns fa_laws_markPushS σ.length [.code ac_laws_markPushS] (frA 0 args) σ = some r) : ev fns i_laws_markPushS args σ = some r := ev_go n_laws_markPushS rfl hl h
theorem l_laws_markPushS_0 {ks : List KI} {l : Fr} {σ : List AObj} {n0 : Nat} : rE fns fa_laws_markPushS n0 (.code lo_laws_markPushS_0 :: ks) l σ = rE fns fa_laws_markPushS n0 (.code lb_laws_markPushS_0 :: .code lo_laws_markPushS_0 :: ks) l σ := rE_loop
@[simp] theorem nt_laws_markPushSS : fa_laws_markPushSS.nt = 19 := rfl
@[simp] theorem rs_laws_markPushSS : fa_laws_markPushSS.rs = [.tmp 4] := rfl
@[simp] theorem fz_laws_markPushSS : fa_laws_markPushSS.fz = false := rfl
@[simp] theorem rsh_laws_markPushSS : fa_laws_markPushSS.rsh = .any := rfl
theorem go_laws_markPushSS {args : List PV} {σ : List AObj} {r : PV × List AObj} (hl : args.length ≤ 19) (h : rE fns fa_laws_markPushSS σ.length [.code ac_laws_markPushSS] (frA 0 args) σ = some r) : ev fns i_laws_markPushSS args σ = some r := ev_go n_laws_markPushSS rfl hl h
theorem l_laws_markPushSS_0 {ks : List KI} {l : Fr} {σ : List AObj} {n0 : Nat} : rE fns fa_laws_markPushSS n0 (.code lo_laws_markPushSS_0 :: ks) l σ = rE fns fa_laws_markPushSS n0 (.code lb_laws_markPushSS_0 :: .code lo_laws_markPushSS_0 :: ks) l σ := rE_loop
@[simp] theorem nt_laws_markInt64SSS : fa_laws_markInt64SSS.nt = 19 := rfl
@[simp] theorem rs_laws_markInt64SSS : fa_laws_markInt64SSS.rs = [.tmp 4] := rfl
@[simp] theorem fz_laws_markInt64SSS : fa_laws_markInt64SSS.fz = false := rfl
@[simp] theorem rsh_laws_markInt64SSS : fa_laws_markInt64SSS.rsh = .any := rfl
theorem go_laws_markInt64SSS {args : List PV} {σ : List AObj} {r : PV × List AObj} (hl : args.length ≤ 19) (h : rE fns fa_laws_markInt64SSS σ.length [.code ac_laws_markInt64SSS] (frA 0 args) σ = some r) : ev fns i_laws_markInt64SSS args σ = some r := ev_go n_laws_markInt64SSS rfl hl h
theorem l_laws_markInt64SSS_0 {ks : List KI} {l : Fr} {σ : List AObj} {n0 : Nat} : rE fns fa_laws_markInt64SSS n0 (.code lo_laws_markInt64SSS_0 :: ks) l σ = rE fns fa_laws_markInt64SSS n0 (.code lb_laws_markInt64SSS_0 :: .code lo_laws_markInt64SSS_0 :: ks) l σ := rE_loop
@[simp] theorem nt_laws_markChecker : fa_laws_markChecker.nt = 22 := rfl
@[simp] theorem rs_laws_markChecker : fa_laws_markChecker.rs = [.tmp 4] := rfl
@[simp] theorem fz_laws_markChecker : fa_laws_markChecker.fz = false := rfl
@[simp] theorem rsh_laws_markChecker : fa_laws_markChecker.rsh = .any := rfl
theorem go_laws_markChecker {args : List PV} {σ : List AObj} {r : PV × List AObj} (hl : args.length ≤ 22) (h : rE fns fa_laws_markChecker σ.length [.code ac_laws_markChecker] (frA 0 args) σ = some r) : ev fns i_laws_markChecker args σ = some r := ev_go n_laws_markChecker rfl hl h
@[simp] theorem nt_laws_szBoolS : fa_laws_szBoolS.nt = 12 := rfl
@[simp] theorem rs_laws_szBoolS : fa_laws_szBoolS.rs = [.tmp 4] := rfl
@[simp] theorem fz_laws_szBoolS : fa_laws_szBoolS.fz = true := rfl
@[simp] theorem rsh_laws_szBoolS : fa_laws_szBoolS.rsh = .any := rfl
theorem go_laws_szBoolS {args : List PV} {σ : List AObj} {r : PV × List AObj} (hl : args.length ≤ 12) (h : rE fns fa_laws_szBoolS σ.length [.code ac_laws_szBoolS] (frA 0 args) σ = some r) : ev fns i_laws_szBoolS args σ = some r := ev_go n_laws_szBoolS rfl hl h
@[simp] theorem nt_laws_szInt64S : fa_laws_szInt64S.nt = 12 := rfl
@[simp] theorem rs_laws_szInt64S : fa_laws_szInt64S.rs = [.tmp 4] := rfl
@[simp] theorem fz_laws_szInt64S : fa_laws_szInt64S.fz = true := rfl
@[simp] theorem rsh_laws_szInt64S : fa_laws_szInt64S.rsh = .any := rfl
theorem go_laws_szInt64S {args : List PV} {σ : List AObj} {r : PV × List AObj} (hl : args.length ≤ 12) (h : rE fns fa_laws_szInt64S σ.length [.code ac_laws_szInt64S] (frA 0 args) σ = some r) : ev fns i_laws_szInt64S args σ = some r := ev_go n_laws_szInt64S rfl hl h
@[simp] theorem nt_laws_szInt64SS : fa_laws_szInt64SS.nt = 27 := rfl
@[simp] theorem rs_laws_szInt64SS : fa_laws_szInt64SS.rs = [.tmp 4] := rfl
@[simp] theorem fz_laws_szInt64SS : fa_laws_szInt64SS.fz = true := rfl
@[simp] theorem rsh_laws_szInt64SS : fa_laws_szInt64SS.rsh = .any := rfl
theorem go_laws_szInt64SS {args : List PV} {σ : List AObj} {r : PV × List AObj} (hl : args.length ≤ 27) (h : rE fns fa_laws_szInt64SS σ.length [.code ac_laws_szInt64SS] (frA 0 args) σ = some r) : ev fns i_laws_szInt64SS args σ = some r := ev_go n_laws_szInt64SS rfl hl h
theorem l_laws_szInt64SS_0 {ks : List KI} {l : Fr} {σ : List AObj} {n0 : Nat} : rE fns fa_laws_szInt64SS n0 (.code lo_laws_szInt64SS_0 :: ks) l σ = rE fns fa_laws_szInt64SS n0 (.code lb_laws_szInt64SS_0 :: .code lo_laws_szInt64SS_0 :: ks) l σ := rE_loop
@[simp] theorem nt_laws_szAlgebra : fa_laws_szAlgebra.nt = 30 := rfl
@[simp] theorem rs_laws_szAlgebra : fa_laws_szAlgebra.rs = [.tmp 4] := rfl
@[simp] theorem fz_laws_szAlgebra : fa_laws_szAlgebra.fz = true := rfl
@[simp] theorem rsh_laws_szAlgebra : fa_laws_szAlgebra.rsh = .any := rfl
theorem go_laws_szAlgebra {args : List PV} {σ : List AObj} {r : PV × List AObj} (hl : args.length ≤ 30) (h : rE fns fa_laws_szAlgebra σ.length [.code ac_laws_szAlgebra] (frA 0 args) σ = some r) : ev fns i_laws_szAlgebra args σ = some r := ev_go n_laws_szAlgebra rfl hl h
@[simp] theorem nt_spec_l00In : fa_spec_l00In.nt = 15 := rfl
@[simp] theorem rs_spec_l00In : fa_spec_l00In.rs = [.tmp 6] := rfl
@[simp] theorem fz_spec_l00In : fa_spec_l00In.fz = true := rfl
@[simp] theorem rsh_spec_l00In : fa_spec_l00In.rsh = .any := rfl
theorem go_spec_l00In {args : List PV} {σ : List AObj} {r : PV × List AObj} (hl : args.length ≤ 15) (h : rE fns fa_spec_l00In σ.length [.code ac_spec_l00In] (frA 0 args) σ = some r) : ev fns i_spec_l00In args σ = some r := ev_go n_spec_l00In rfl hl h
@[simp] theorem nt_spec_l02List : fa_spec_l02List.nt = 26 := rfl
@[simp] theorem rs_spec_l02List : fa_spec_l02List.rs = [.tmp 6] := rfl
@[simp] theorem fz_spec_l02List : fa_spec_l02List.fz = true := rfl
@[simp] theorem rsh_spec_l02List : fa_spec_l02List.rsh = .any := rfl
theorem go_spec_l02List {args : List PV} {σ : List AObj} {r : PV × List AObj} (hl : args.length ≤ 26) (h : rE fns fa_spec_l02List σ.length [.code ac_spec_l02List] (frA 0 args) σ = some r) : ev fns i_spec_l02List args σ = some r := ev_go n_spec_l02List rfl hl h
theorem l_spec_l02List_0 {ks : List KI} {l : Fr} {σ : List AObj} {n0 : Nat} : rE fns fa_spec_l02List n0 (.code lo_spec_l02List_0 :: ks) l σ = rE fns fa_spec_l02List n0 (.code lb_spec_l02List_0 :: .code lo_spec_l02List_0 :: ks) l σ := rE_loop
@[simp] theorem nt_spec_l04Ok : fa_spec_l04Ok.nt = 152 := rfl
@[simp] theorem rs_spec_l04Ok : fa_spec_l04Ok.rs = [.tmp 2] := rfl
@[simp] theorem fz_spec_l04Ok : fa_spec_l04Ok.fz = true := rfl
@[simp] theorem rsh_spec_l04Ok : fa_spec_l04Ok.rsh = .any := rfl
theorem go_spec_l04Ok {args : List PV} {σ : List AObj} {r : PV × List AObj} (hl : args.length ≤ 152) (h : rE fns fa_spec_l04Ok σ.length [.code ac_spec_l04Ok] (frA 0 args) σ = some r) : ev fns i_spec_l04Ok args σ = some r := ev_go n_spec_l04Ok rfl hl h
theorem l_spec_l04Ok_0 {ks : List KI} {l : Fr} {σ : List AObj} {n0 : Nat} : rE fns fa_spec_l04Ok n0 (.code lo_spec_l04Ok_0 :: ks) l σ = rE fns fa_spec_l04Ok n0 (.code lb_spec_l04Ok_0 :: .code lo_spec_l04Ok_0 :: ks) l σ := rE_loop
theorem l_spec_l04Ok_1 {ks : List KI} {l : Fr} {σ : List AObj} {n0 : Nat} : rE fns fa_spec_l04Ok n0 (.code lo_spec_l04Ok_1 :: ks) l σ = rE fns fa_spec_l04Ok n0 (.code lb_spec_l04Ok_1 :: .code lo_spec_l04Ok_1 :: ks) l σ := rE_loop
theorem l_spec_l04Ok_2 {ks : List KI} {l : Fr} {σ : List AObj} {n0 : Nat} : rE fns fa_spec_l04Ok n0 (.code lo_spec_l04Ok_2 :: ks) l σ = rE fns fa_spec_l04Ok n0 (.code lb_spec_l04Ok_2 :: .code lo_spec_l04Ok_2 :: ks) l σ := rE_loop
theorem l_spec_l04Ok_3 {ks : List KI} {l : Fr} {σ : List AObj} {n0 : Nat} : rE fns fa_spec_l04Ok n0 (.code lo_spec_l04Ok_3 :: ks) l σ = rE fns fa_spec_l04Ok n0 (.code lb_spec_l04Ok_3 :: .code lo_spec_l04Ok_3 :: ks) l σ := rE_loop
theorem l_spec_l04Ok_4 {ks : List KI} {l : Fr} {σ : List AObj} {n0 : Nat} : rE fns fa_spec_l04Ok n0 (.code lo_spec_l04Ok_4 :: ks) l σ = rE fns fa_spec_l04Ok n0 (.code lb_spec_l04Ok_4 :: .code lo_spec_l04Ok_4 :: ks) l σ := rE_loop
@[simp] theorem nt_spec_CheckerOfAlgebra : fa_spec_CheckerOfAlgebra.nt = 197 := rfl
@[simp] theorem rs_spec_CheckerOfAlgebra : fa_spec_CheckerOfAlgebra.rs = [.cell 2 6 true, .tmp 3] := rfl
@[simp] theorem fz_spec_CheckerOfAlgebra : fa_spec_CheckerOfAlgebra.fz = true := rfl
@[simp] theorem rsh_spec_CheckerOfAlgebra : fa_spec_CheckerOfAlgebra.rsh = .any := rfl
theorem go_spec_CheckerOfAlgebra {args : List PV} {σ : List AObj} {r : PV × List AObj} (hl : args.length ≤ 197) (h : rE fns fa_spec_CheckerOfAlgebra σ.length [.code ac_spec_CheckerOfAlgebra] (frA 0 args) σ = some r) : ev fns i_spec_CheckerOfAlgebra args σ = some r := ev_go n_spec_CheckerOfAlgebra rfl hl h
theorem l_spec_CheckerOfAlgebra_0 {ks : List KI} {l : Fr} {σ : List AObj} {n0 : Nat} : rE fns fa_spec_CheckerOfAlgebra n0 (.code lo_spec_CheckerOfAlgebra_0 :: ks) l σ = rE fns fa_spec_CheckerOfAlgebra n0 (.code lb_spec_CheckerOfAlgebra_0 :: .code lo_spec_CheckerOfAlgebra_0 :: ks) l σ := rE_loop
theorem l_spec_CheckerOfAlgebra_1 {ks : List KI} {l : Fr} {σ : List AObj} {n0 : Nat} : rE fns fa_spec_CheckerOfAlgebra n0 (.code lo_spec_CheckerOfAlgebra_1 :: ks) l σ = rE fns fa_spec_CheckerOfAlgebra n0 (.code lb_spec_CheckerOfAlgebra_1 :: .code lo_spec_CheckerOfAlgebra_1 :: ks) l σ := rE_loop
theorem l_spec_CheckerOfAlgebra_2 {ks : List KI} {l : Fr} {σ : List AObj} {n0 : Nat} : rE fns fa_spec_CheckerOfAlgebra n0 (.code lo_spec_CheckerOfAlgebra_2 :: ks) l σ = rE fns fa_spec_CheckerOfAlgebra n0 (.code lb_spec_CheckerOfAlgebra_2 :: .code lo_spec_CheckerOfAlgebra_2 :: ks) l σ := rE_loop
theorem l_spec_CheckerOfAlgebra_3 {ks : List KI} {l : Fr} {σ : List AObj} {n0 : Nat} : rE fns fa_spec_CheckerOfAlgebra n0 (.code lo_spec_CheckerOfAlgebra_3 :: ks) l σ = rE fns fa_spec_CheckerOfAlgebra n0 (.code lb_spec_CheckerOfAlgebra_3 :: .code lo_spec_CheckerOfAlgebra_3 :: ks) l σ := rE_loop
@[simp] theorem nt_laws_toInt64S : fa_laws_toInt64S.nt = 22 := rfl
@[simp] theorem rs_laws_toInt64S : fa_laws_toInt64S.rs = [.tmp 2] := rfl
@[simp] theorem fz_laws_toInt64S : fa_laws_toInt64S.fz = false := rfl
@[simp] theorem rsh_laws_toInt64S : fa_laws_toInt64S.rsh = .any := rfl
theorem go_laws_toInt64S {args : List PV} {σ : List AObj} {r : PV × List AObj} (hl : args.length ≤ 22) (h : rE fns fa_laws_toInt64S σ.length [.code ac_laws_toInt64S] (frA 0 args) σ = some r) : ev fns i_laws_toInt64S args σ = some r := ev_go n_laws_toInt64S rfl hl h
theorem l_laws_toInt64S_0 {ks : List KI} {l : Fr} {σ : List AObj} {n0 : Nat} : rE fns fa_laws_toInt64S n0 (.code lo_laws_toInt64S_0 :: ks) l σ = rE fns fa_laws_toInt64S n0 (.code lb_laws_toInt64S_0 :: .code lo_laws_toInt64S_0 :: ks) l σ := rE_loop
@[simp] theorem nt_laws_toBoolS : fa_laws_toBoolS.nt = 22 := rfl
@[simp] theorem rs_laws_toBoolS : fa_laws_toBoolS.rs = [.tmp 2] := rfl
@[simp] theorem fz_laws_toBoolS : fa_laws_toBoolS.fz = false := rfl
@[simp] theorem rsh_laws_toBoolS : fa_laws_toBoolS.rsh = .any := rfl
theorem go_laws_toBoolS {args : List PV} {σ : List AObj} {r : PV × List AObj} (hl : args.length ≤ 22) (h : rE fns fa_laws_toBoolS σ.length [.code ac_laws_toBoolS] (frA 0 args) σ = some r) : ev fns i_laws_toBoolS args σ = some r := ev_go n_laws_toBoolS rfl hl h
theorem l_laws_toBoolS_0 {ks : List KI} {l : Fr} {σ : List AObj} {n0 : Nat} : rE fns fa_laws_toBoolS n0 (.code lo_laws_toBoolS_0 :: ks) l σ = rE fns fa_laws_toBoolS n0 (.code lb_laws_toBoolS_0 :: .code lo_laws_toBoolS_0 :: ks) l σ := rE_loop
@[simp] theorem nt_laws_toInt64SS : fa_laws_toInt64SS.nt = 23 := rfl
@[simp] theorem rs_laws_toInt64SS : fa_laws_toInt64SS.rs = [.tmp 2] := rfl
@[simp] theorem fz_laws_toInt64SS : fa_laws_toInt64SS.fz = false := rfl
@[simp] theorem rsh_laws_toInt64SS : fa_laws_toInt64SS.rsh = .any := rfl
theorem go_laws_toInt64SS {args : List PV} {σ : List AObj} {r : PV × List AObj} (hl : args.length ≤ 23) (h : rE fns fa_laws_toInt64SS σ.length [.code ac_laws_toInt64SS] (frA 0 args) σ = some r) : ev fns i_laws_toInt64SS args σ = some r := ev_go n_laws_toInt64SS rfl hl h
theorem l_laws_toInt64SS_0 {ks : List KI} {l : Fr} {σ : List AObj} {n0 : Nat} : rE fns fa_laws_toInt64SS n0 (.code lo_laws_toInt64SS_0 :: ks) l σ = rE fns fa_laws_toInt64SS n0 (.code lb_laws_toInt64SS_0 :: .code lo_laws_toInt64SS_0 :: ks) l σ := rE_loop
@[simp] theorem nt_laws_toAlgebra : fa_laws_toAlgebra.nt = 21 := rfl
@[simp] theorem rs_laws_toAlgebra : fa_laws_toAlgebra.rs = [.cell 2 4 true] := rfl
@[simp] theorem fz_laws_toAlgebra : fa_laws_toAlgebra.fz = false := rfl
@[simp] theorem rsh_laws_toAlgebra : fa_laws_toAlgebra.rsh = .any := rfl
theorem go_laws_toAlgebra {args : List PV} {σ : List AObj} {r : PV × List AObj} (hl : args.length ≤ 21) (h : rE fns fa_laws_toAlgebra σ.length [.code ac_laws_toAlgebra] (frA 0 args) σ = some r) : ev fns i_laws_toAlgebra args σ = some r := ev_go n_laws_toAlgebra rfl hl h
@[simp] theorem nt_impl_size_bool : fa_impl_size_bool.nt = 5 := rfl
@[simp] theorem rs_impl_size_bool : fa_impl_size_bool.rs = [.tmp 2] := rfl
@[simp] theorem fz_impl_size_bool : fa_impl_size_bool.fz = true := rfl
@[simp] theorem rsh_impl_size_bool : fa_impl_size_bool.rsh = .any := rfl
theorem go_impl_size_bool {args : List PV} {σ : List AObj} {r : PV × List AObj} (hl : args.length ≤ 5) (h : rE fns fa_impl_size_bool σ.length [.code ac_impl_size_bool] (frA 0 args) σ = some r) : ev fns i_impl_size_bool args σ = some r := ev_go n_impl_size_bool rfl hl h
@[simp] theorem nt_impl_Algebra_elements : fa_impl_Algebra_elements.nt = 6 := rfl
@[simp] theorem rs_impl_Algebra_elements : fa_impl_Algebra_elements.rs = [.tmp 2] := rfl
@[simp] theorem fz_impl_Algebra_elements : fa_impl_Algebra_elements.fz = true := rfl
@[simp] theorem rsh_impl_Algebra_elements : fa_impl_Algebra_elements.rsh = .any := rfl
theorem go_impl_Algebra_elements {args : List PV} {σ : List AObj} {r : PV × List AObj} (hl : args.length ≤ 6) (h : rE fns fa_impl_Algebra_elements σ.length [.code ac_impl_Algebra_elements] (frA 0 args) σ = some r) : ev fns i_impl_Algebra_elements args σ = some r := ev_go n_impl_Algebra_elements rfl hl h
@[simp] theorem nt_impl_within : fa_impl_within.nt = 15 := rfl
@[simp] theorem rs_impl_within : fa_impl_within.rs = [.tmp 6] := rfl
@[simp] theorem fz_impl_within : fa_impl_within.fz = true := rfl
@[simp] theorem rsh_impl_within : fa_impl_within.rsh = .any := rfl
theorem go_impl_within {args : List PV} {σ : List AObj} {r : PV × List AObj} (hl : args.length ≤ 15) (h : rE fns fa_impl_within σ.length [.code ac_impl_within] (frA 0 args) σ = some r) : ev fns i_impl_within args σ = some r := ev_go n_impl_within rfl hl h
@[simp] theorem nt_impl_size_L_int64 : fa_impl_size_L_int64.nt = 5 := rfl
@[simp] theorem rs_impl_size_L_int64 : fa_impl_size_L_int64.rs = [.tmp 2] := rfl
@[simp] theorem fz_impl_size_L_int64 : fa_impl_size_L_int64.fz = true := rfl
@[simp] theorem rsh_impl_size_L_int64 : fa_impl_size_L_int64.rsh = .any := rfl
theorem go_impl_size_L_int64 {args : List PV} {σ : List AObj} {r : PV × List AObj} (hl : args.length ≤ 5) (h : rE fns fa_impl_size_L_int64 σ.length [.code ac_impl_size_L_int64] (frA 0 args) σ = some r) : ev fns i_impl_size_L_int64 args σ = some r := ev_go n_impl_size_L_int64 rfl hl h
@[simp] theorem nt_slices_IndexFunc_L_int64 : fa_slices_IndexFunc_L_int64.nt = 19 := rfl
@[simp] theorem rs_slices_IndexFunc_L_int64 : fa_slices_IndexFunc_L_int64.rs = [.tmp 4] := rfl
@[simp] theorem fz_slices_IndexFunc_L_int64 : fa_slices_IndexFunc_L_int64.fz = true := rfl
@[simp] theorem rsh_slices_IndexFunc_L_int64 : fa_slices_IndexFunc_L_int64.rsh = .any := rfl
theorem go_slices_IndexFunc_L_int64 {args : List PV} {σ : List AObj} {r : PV × List AObj} (hl : args.length ≤ 19) (h : rE fns fa_slices_IndexFunc_L_int64 σ.length [.code ac_slices_IndexFunc_L_int64] (frA 0 args) σ = some r) : ev fns i_slices_IndexFunc_L_int64 args σ = some r := ev_go n_slices_IndexFunc_L_int64 rfl hl h
theorem l_slices_IndexFunc_L_int64_0 {ks : List KI} {l : Fr} {σ : List AObj} {n0 : Nat} : rE fns fa_slices_IndexFunc_L_int64 n0 (.code lo_slices_IndexFunc_L_int64_0 :: ks) l σ = rE fns fa_slices_IndexFunc_L_int64 n0 (.code lb_slices_IndexFunc_L_int64_0 :: .code lo_slices_IndexFunc_L_int64_0 :: ks) l σ := rE_loop
@[simp] theorem nt_slices_ContainsFunc_L_int64 : fa_slices_ContainsFunc_L_int64.nt = 9 := rfl
@[simp] theorem rs_slices_ContainsFunc_L_int64 : fa_slices_ContainsFunc_L_int64.rs = [.tmp 4] := rfl
@[simp] theorem fz_slices_ContainsFunc_L_int64 : fa_slices_ContainsFunc_L_int64.fz = true := rfl
@[simp] theorem rsh_slices_ContainsFunc_L_int64 : fa_slices_ContainsFunc_L_int64.rsh = .any := rfl
theorem go_slices_ContainsFunc_L_int64 {args : List PV} {σ : List AObj} {r : PV × List AObj} (hl : args.length ≤ 9) (h : rE fns fa_slices_ContainsFunc_L_int64 σ.length [.code ac_slices_ContainsFunc_L_int64] (frA 0 args) σ = some r) : ev fns i_slices_ContainsFunc_L_int64 args σ = some r := ev_go n_slices_ContainsFunc_L_int64 rfl hl h
@[simp] theorem nt_impl_size_int64 : fa_impl_size_int64.nt = 5 := rfl
@[simp] theorem rs_impl_size_int64 : fa_impl_size_int64.rs = [.tmp 2] := rfl
@[simp] theorem fz_impl_size_int64 : fa_impl_size_int64.fz = true := rfl
@[simp] theorem rsh_impl_size_int64 : fa_impl_size_int64.rsh = .any := rfl
theorem go_impl_size_int64 {args : List PV} {σ : List AObj} {r : PV × List AObj} (hl : args.length ≤ 5) (h : rE fns fa_impl_size_int64 σ.length [.code ac_impl_size_int64] (frA 0 args) σ = some r) : ev fns i_impl_size_int64 args σ = some r := ev_go n_impl_size_int64 rfl hl h
@[simp] theorem nt_impl_ValidAlgebra_1_1 : fa_impl_ValidAlgebra_1_1.nt = 9 := rfl
@[simp] theorem rs_impl_ValidAlgebra_1_1 : fa_impl_ValidAlgebra_1_1.rs = [.tmp 3] := rfl
@[simp] theorem fz_impl_ValidAlgebra_1_1 : fa_impl_ValidAlgebra_1_1.fz = true := rfl
@[simp] theorem rsh_impl_ValidAlgebra_1_1 : fa_impl_ValidAlgebra_1_1.rsh = .any := rfl
theorem go_impl_ValidAlgebra_1_1 {args : List PV} {σ : List AObj} {r : PV × List AObj} (hl : args.length ≤ 9) (h : rE fns fa_impl_ValidAlgebra_1_1 σ.length [.code ac_impl_ValidAlgebra_1_1] (frA 0 args) σ = some r) : ev fns i_impl_ValidAlgebra_1_1 args σ = some r := ev_go n_impl_ValidAlgebra_1_1 rfl hl h
@[simp] theorem nt_impl_ValidAlgebra_1 : fa_impl_ValidAlgebra_1.nt = 16 := rfl
@[simp] theorem rs_impl_ValidAlgebra_1 : fa_impl_ValidAlgebra_1.rs = [.tmp 5] := rfl
@[simp] theorem fz_impl_ValidAlgebra_1 : fa_impl_ValidAlgebra_1.fz = true := rfl
@[simp] theorem rsh_impl_ValidAlgebra_1 : fa_impl_ValidAlgebra_1.rsh = .any := rfl
theorem go_impl_ValidAlgebra_1 {args : List PV} {σ : List AObj} {r : PV × List AObj} (hl : args.length ≤ 16) (h : rE fns fa_impl_ValidAlgebra_1 σ.length [.code ac_impl_ValidAlgebra_1] (frA 0 args) σ = some r) : ev fns i_impl_ValidAlgebra_1 args σ = some r := ev_go n_impl_ValidAlgebra_1 rfl hl h
@[simp] theorem nt_impl_ValidAlgebra_2 : fa_impl_ValidAlgebra_2.nt = 9 := rfl
@[simp] theorem rs_impl_ValidAlgebra_2 : fa_impl_ValidAlgebra_2.rs = [.tmp 4] := rfl
@[simp] theorem fz_impl_ValidAlgebra_2 : fa_impl_ValidAlgebra_2.fz = true := rfl
@[simp] theorem rsh_impl_ValidAlgebra_2 : fa_impl_ValidAlgebra_2.rsh = .any := rfl
theorem go_impl_ValidAlgebra_2 {args : List PV} {σ : List AObj} {r : PV × List AObj} (hl : args.length ≤ 9) (h : rE fns fa_impl_ValidAlgebra_2 σ.length [.code ac_impl_ValidAlgebra_2] (frA 0 args) σ = some r) : ev fns i_impl_ValidAlgebra_2 args σ = some r := ev_go n_impl_ValidAlgebra_2 rfl hl h
@[simp] theorem nt_slices_Grow_L_L_int64 : fa_slices_Grow_L_L_int64.nt = 27 := rfl
@[simp] theorem rs_slices_Grow_L_L_int64 : fa_slices_Grow_L_L_int64.rs = [.tmp 4] := rfl
@[simp] theorem fz_slices_Grow_L_L_int64 : fa_slices_Grow_L_L_int64.fz = false := rfl
@[simp] theorem rsh_slices_Grow_L_L_int64 : fa_slices_Grow_L_L_int64.rsh = .any := rfl
theorem go_slices_Grow_L_L_int64 {args : List PV} {σ : List AObj} {r : PV × List AObj} (hl : args.length ≤ 27) (h : rE fns fa_slices_Grow_L_L_int64 σ.length [.code ac_slices_Grow_L_L_int64] (frA 0 args) σ = some r) : ev fns i_slices_Grow_L_L_int64 args σ = some r := ev_go n_slices_Grow_L_L_int64 rfl hl h
@[simp] theorem nt_slices_Concat_L_L_int64 : fa_slices_Concat_L_L_int64.nt = 36 := rfl
@[simp] theorem rs_slices_Concat_L_L_int64 : fa_slices_Concat_L_L_int64.rs = [.tmp 2] := rfl
@[simp] theorem fz_slices_Concat_L_L_int64 : fa_slices_Concat_L_L_int64.fz = true := rfl
@[simp] theorem rsh_slices_Concat_L_L_int64 : fa_slices_Concat_L_L_int64.rsh = .any := rfl
theorem go_slices_Concat_L_L_int64 {args : List PV} {σ : List AObj} {r : PV × List AObj} (hl : args.length ≤ 36) (h : rE fns fa_slices_Concat_L_L_int64 σ.length [.code ac_slices_Concat_L_L_int64] (frA 0 args) σ = some r) : ev fns i_slices_Concat_L_L_int64 args σ = some r := ev_go n_slices_Concat_L_L_int64 rfl hl h
theorem l_slices_Concat_L_L_int64_0 {ks : List KI} {l : Fr} {σ : List AObj} {n0 : Nat} : rE fns fa_slices_Concat_L_L_int64 n0 (.code lo_slices_Concat_L_L_int64_0 :: ks) l σ = rE fns fa_slices_Concat_L_L_int64 n0 (.code lb_slices_Concat_L_L_int64_0 :: .code lo_slices_Concat_L_L_int64_0 :: ks) l σ := rE_loop
theorem l_slices_Concat_L_L_int64_1 {ks : List KI} {l : Fr} {σ : List AObj} {n0 : Nat} : rE fns fa_slices_Concat_L_L_int64 n0 (.code lo_slices_Concat_L_L_int64_1 :: ks) l σ = rE fns fa_slices_Concat_L_L_int64 n0 (.code lb_slices_Concat_L_L_int64_1 :: .code lo_slices_Concat_L_L_int64_1 :: ks) l σ := rE_loop
@[simp] theorem nt_impl_Algebra_apart : fa_impl_Algebra_apart.nt = 61 := rfl
@[simp] theorem rs_impl_Algebra_apart : fa_impl_Algebra_apart.rs = [.cell 2 3 true, .tmp 3] := rfl
@[simp] theorem fz_impl_Algebra_apart : fa_impl_Algebra_apart.fz = true := rfl
@[simp] theorem rsh_impl_Algebra_apart : fa_impl_Algebra_apart.rsh = .any := rfl
theorem go_impl_Algebra_apart {args : List PV} {σ : List AObj} {r : PV × List AObj} (hl : args.length ≤ 61) (h : rE fns fa_impl_Algebra_apart σ.length [.code ac_impl_Algebra_apart] (frA 0 args) σ = some r) : ev fns i_impl_Algebra_apart args σ = some r := ev_go n_impl_Algebra_apart rfl hl h
theorem l_impl_Algebra_apart_0 {ks : List KI} {l : Fr} {σ : List AObj} {n0 : Nat} : rE fns fa_impl_Algebra_apart n0 (.code lo_impl_Algebra_apart_0 :: ks) l σ = rE fns fa_impl_Algebra_apart n0 (.code lb_impl_Algebra_apart_0 :: .code lo_impl_Algebra_apart_0 :: ks) l σ := rE_loop
theorem l_impl_Algebra_apart_1 {ks : List KI} {l : Fr} {σ : List AObj} {n0 : Nat} : rE fns fa_impl_Algebra_apart n0 (.code lo_impl_Algebra_apart_1 :: ks) l σ = rE fns fa_impl_Algebra_apart n0 (.code lb_impl_Algebra_apart_1 :: .code lo_impl_Algebra_apart_1 :: ks) l σ := rE_loop
theorem l_impl_Algebra_apart_2 {ks : List KI} {l : Fr} {σ : List AObj} {n0 : Nat} : rE fns fa_impl_Algebra_apart n0 (.code lo_impl_Algebra_apart_2 :: ks) l σ = rE fns fa_impl_Algebra_apart n0 (.code lb_impl_Algebra_apart_2 :: .code lo_impl_Algebra_apart_2 :: ks) l σ := rE_loop
@[simp] theorem nt_impl_ValidAlgebra : fa_impl_ValidAlgebra.nt = 86 := rfl
@[simp] theorem rs_impl_ValidAlgebra : fa_impl_ValidAlgebra.rs = [.tmp 2] := rfl
@[simp] theorem fz_impl_ValidAlgebra : fa_impl_ValidAlgebra.fz = true := rfl
@[simp] theorem rsh_impl_ValidAlgebra : fa_impl_ValidAlgebra.rsh = .any := rfl
theorem go_impl_ValidAlgebra {args : List PV} {σ : List AObj} {r : PV × List AObj} (hl : args.length ≤ 86) (h : rE fns fa_impl_ValidAlgebra σ.length [.code ac_impl_ValidAlgebra] (frA 0 args) σ = some r) : ev fns i_impl_ValidAlgebra args σ = some r := ev_go n_impl_ValidAlgebra rfl hl h
theorem l_impl_ValidAlgebra_0 {ks : List KI} {l : Fr} {σ : List AObj} {n0 : Nat} : rE fns fa_impl_ValidAlgebra n0 (.code lo_impl_ValidAlgebra_0 :: ks) l σ = rE fns fa_impl_ValidAlgebra n0 (.code lb_impl_ValidAlgebra_0 :: .code lo_impl_ValidAlgebra_0 :: ks) l σ := rE_loop
theorem l_impl_ValidAlgebra_1 {ks : List KI} {l : Fr} {σ : List AObj} {n0 : Nat} : rE fns fa_impl_ValidAlgebra n0 (.code lo_impl_ValidAlgebra_1 :: ks) l σ = rE fns fa_impl_ValidAlgebra n0 (.code lb_impl_ValidAlgebra_1 :: .code lo_impl_ValidAlgebra_1 :: ks) l σ := rE_loop
@[simp] theorem nt_impl_built : fa_impl_built.nt = 98 := rfl
@[simp] theorem rs_impl_built : fa_impl_built.rs = [.cell 14 6 true] := rfl
@[simp] theorem fz_impl_built : fa_impl_built.fz = false := rfl
@[simp] theorem rsh_impl_built : fa_impl_built.rsh = .any := rfl
theorem go_impl_built {args : List PV} {σ : List AObj} {r : PV × List AObj} (hl : args.length ≤ 98) (h : rE fns fa_impl_built σ.length [.code ac_impl_built] (frA 0 args) σ = some r) : ev fns i_impl_built args σ = some r := ev_go n_impl_built rfl hl h
theorem l_impl_built_0 {ks : List KI} {l : Fr} {σ : List AObj} {n0 : Nat} : rE fns fa_impl_built n0 (.code lo_impl_built_0 :: ks) l σ = rE fns fa_impl_built n0 (.code lb_impl_built_0 :: .code lo_impl_built_0 :: ks) l σ := rE_loop
theorem l_impl_built_1 {ks : List KI} {l : Fr} {σ : List AObj} {n0 : Nat} : rE fns fa_impl_built n0 (.code lo_impl_built_1 :: ks) l σ = rE fns fa_impl_built n0 (.code lb_impl_built_1 :: .code lo_impl_built_1 :: ks) l σ := rE_loop
theorem l_impl_built_2 {ks : List KI} {l : Fr} {σ : List AObj} {n0 : Nat} : rE fns fa_impl_built n0 (.code lo_impl_built_2 :: ks) l σ = rE fns fa_impl_built n0 (.code lb_impl_built_2 :: .code lo_impl_built_2 :: ks) l σ := rE_loop
@[simp] theorem nt_impl_CheckerOfAlgebra_1 : fa_impl_CheckerOfAlgebra_1.nt = 15 := rfl
@[simp] theorem rs_impl_CheckerOfAlgebra_1 : fa_impl_CheckerOfAlgebra_1.rs = [.tmp 4] := rfl
@[simp] theorem fz_impl_CheckerOfAlgebra_1 : fa_impl_CheckerOfAlgebra_1.fz = true := rfl
@[simp] theorem rsh_impl_CheckerOfAlgebra_1 : fa_impl_CheckerOfAlgebra_1.rsh = .any := rfl
theorem go_impl_CheckerOfAlgebra_1 {args : List PV} {σ : List AObj} {r : PV × List AObj} (hl : args.length ≤ 15) (h : rE fns fa_impl_CheckerOfAlgebra_1 σ.length [.code ac_impl_CheckerOfAlgebra_1] (frA 0 args) σ = some r) : ev fns i_impl_CheckerOfAlgebra_1 args σ = some r := ev_go n_impl_CheckerOfAlgebra_1 rfl hl h
@[simp] theorem nt_impl_CheckerOfAlgebra_2 : fa_impl_CheckerOfAlgebra_2.nt = 22 := rfl
@[simp] theorem rs_impl_CheckerOfAlgebra_2 : fa_impl_CheckerOfAlgebra_2.rs = [.cell 6 2 true] := rfl
@[simp] theorem fz_impl_CheckerOfAlgebra_2 : fa_impl_CheckerOfAlgebra_2.fz = true := rfl
@[simp] theorem rsh_impl_CheckerOfAlgebra_2 : fa_impl_CheckerOfAlgebra_2.rsh = .any := rfl
theorem go_impl_CheckerOfAlgebra_2 {args : List PV} {σ : List AObj} {r : PV × List AObj} (hl : args.length ≤ 22) (h : rE fns fa_impl_CheckerOfAlgebra_2 σ.length [.code ac_impl_CheckerOfAlgebra_2] (frA 0 args) σ = some r) : ev fns i_impl_CheckerOfAlgebra_2 args σ = some r := ev_go n_impl_CheckerOfAlgebra_2 rfl hl h
@[simp] theorem nt_impl_CheckerOfAlgebra_3 : fa_impl_CheckerOfAlgebra_3.nt = 60 := rfl
@[simp] theorem rs_impl_CheckerOfAlgebra_3 : fa_impl_CheckerOfAlgebra_3.rs = [.tmp 9] := rfl
@[simp] theorem fz_impl_CheckerOfAlgebra_3 : fa_impl_CheckerOfAlgebra_3.fz = true := rfl
@[simp] theorem rsh_impl_CheckerOfAlgebra_3 : fa_impl_CheckerOfAlgebra_3.rsh = .any := rfl
theorem go_impl_CheckerOfAlgebra_3 {args : List PV} {σ : List AObj} {r : PV × List AObj} (hl : args.length ≤ 60) (h : rE fns fa_impl_CheckerOfAlgebra_3 σ.length [.code ac_impl_CheckerOfAlgebra_3] (frA 0 args) σ = some r) : ev fns i_impl_CheckerOfAlgebra_3 args σ = some r := ev_go n_impl_CheckerOfAlgebra_3 rfl hl h
@[simp] theorem nt_impl_CheckerOfAlgebra_4 : fa_impl_CheckerOfAlgebra_4.nt = 32 := rfl
@[simp] theorem rs_impl_CheckerOfAlgebra_4 : fa_impl_CheckerOfAlgebra_4.rs = [.tmp 7] := rfl
@[simp] theorem fz_impl_CheckerOfAlgebra_4 : fa_impl_CheckerOfAlgebra_4.fz = true := rfl
@[simp] theorem rsh_impl_CheckerOfAlgebra_4 : fa_impl_CheckerOfAlgebra_4.rsh = .any := rfl
theorem go_impl_CheckerOfAlgebra_4 {args : List PV} {σ : List AObj} {r : PV × List AObj} (hl : args.length ≤ 32) (h : rE fns fa_impl_CheckerOfAlgebra_4 σ.length [.code ac_impl_CheckerOfAlgebra_4] (frA 0 args) σ = some r) : ev fns i_impl_CheckerOfAlgebra_4 args σ = some r := ev_go n_impl_CheckerOfAlgebra_4 rfl hl h
@[simp] theorem nt_impl_CheckerOfAlgebra : fa_impl_CheckerOfAlgebra.nt = 34 := rfl
@[simp] theorem rs_impl_CheckerOfAlgebra : fa_impl_CheckerOfAlgebra.rs = [.cell 2 6 true, .tmp 3] := rfl
@[simp] theorem fz_impl_CheckerOfAlgebra : fa_impl_CheckerOfAlgebra.fz = false := rfl
@[simp] theorem rsh_impl_CheckerOfAlgebra : fa_impl_CheckerOfAlgebra.rsh = .any := rfl
theorem go_impl_CheckerOfAlgebra {args : List PV} {σ : List AObj} {r : PV × List AObj} (hl : args.length ≤ 34) (h : rE fns fa_impl_CheckerOfAlgebra σ.length [.code ac_impl_CheckerOfAlgebra] (frA 0 args) σ = some r) : ev fns i_impl_CheckerOfAlgebra args σ = some r := ev_go n_impl_CheckerOfAlgebra rfl hl h
@[simp] theorem nt_laws_eqAlgebra : fa_laws_eqAlgebra.nt = 29 := rfl
@[simp] theorem rs_laws_eqAlgebra : fa_laws_eqAlgebra.rs = [.tmp 4] := rfl
@[simp] theorem fz_laws_eqAlgebra : fa_laws_eqAlgebra.fz = true := rfl
@[simp] theorem rsh_laws_eqAlgebra : fa_laws_eqAlgebra.rsh = .any := rfl
theorem go_laws_eqAlgebra {args : List PV} {σ : List AObj} {r : PV × List AObj} (hl : args.length ≤ 29) (h : rE fns fa_laws_eqAlgebra σ.length [.code ac_laws_eqAlgebra] (frA 0 args) σ = some r) : ev fns i_laws_eqAlgebra args σ = some r := ev_go n_laws_eqAlgebra rfl hl h
@[simp] theorem nt_laws_markAlgebra : fa_laws_markAlgebra.nt = 22 := rfl
@[simp] theorem rs_laws_markAlgebra : fa_laws_markAlgebra.rs = [.tmp 4] := rfl
@[simp] theorem fz_laws_markAlgebra : fa_laws_markAlgebra.fz = false := rfl
@[simp] theorem rsh_laws_markAlgebra : fa_laws_markAlgebra.rsh = .any := rfl
theorem go_laws_markAlgebra {args : List PV} {σ : List AObj} {r : PV × List AObj} (hl : args.length ≤ 22) (h : rE fns fa_laws_markAlgebra σ.length [.code ac_laws_markAlgebra] (frA 0 args) σ = some r) : ev fns i_laws_markAlgebra args σ = some r := ev_go n_laws_markAlgebra rfl hl h
@[simp] theorem nt_laws_heldInt64S : fa_laws_heldInt64S.nt = 21 := rfl
@[simp] theorem rs_laws_heldInt64S : fa_laws_heldInt64S.rs = [.tmp 4] := rfl
@[simp] theorem fz_laws_heldInt64S : fa_laws_heldInt64S.fz = true := rfl
@[simp] theorem rsh_laws_heldInt64S : fa_laws_heldInt64S.rsh = .any := rfl
theorem go_laws_heldInt64S {args : List PV} {σ : List AObj} {r : PV × List AObj} (hl : args.length ≤ 21) (h : rE fns fa_laws_heldInt64S σ.length [.code ac_laws_heldInt64S] (frA 0 args) σ = some r) : ev fns i_laws_heldInt64S args σ = some r := ev_go n_laws_heldInt64S rfl hl h
theorem l_laws_heldInt64S_0 {ks : List KI} {l : Fr} {σ : List AObj} {n0 : Nat} : rE fns fa_laws_heldInt64S n0 (.code lo_laws_heldInt64S_0 :: ks) l σ = rE fns fa_laws_heldInt64S n0 (.code lb_laws_heldInt64S_0 :: .code lo_laws_heldInt64S_0 :: ks) l σ := rE_loop
@[simp] theorem nt_laws_heldInt64SS : fa_laws_heldInt64SS.nt = 21 := rfl
@[simp] theorem rs_laws_heldInt64SS : fa_laws_heldInt64SS.rs = [.tmp 4] := rfl
@[simp] theorem fz_laws_heldInt64SS : fa_laws_heldInt64SS.fz = true := rfl
@[simp] theorem rsh_laws_heldInt64SS : fa_laws_heldInt64SS.rsh = .any := rfl
theorem go_laws_heldInt64SS {args : List PV} {σ : List AObj} {r : PV × List AObj} (hl : args.length ≤ 21) (h : rE fns fa_laws_heldInt64SS σ.length [.code ac_laws_heldInt64SS] (frA 0 args) σ = some r) : ev fns i_laws_heldInt64SS args σ = some r := ev_go n_laws_heldInt64SS rfl hl h
theorem l_laws_heldInt64SS_0 {ks : List KI} {l : Fr} {σ : List AObj} {n0 : Nat} : rE fns fa_laws_heldInt64SS n0 (.code lo_laws_heldInt64SS_0 :: ks) l σ = rE fns fa_laws_heldInt64SS n0 (.code lb_laws_heldInt64SS_0 :: .code lo_laws_heldInt64SS_0 :: ks) l σ := rE_loop
@[simp] theorem nt_laws_heldBoolS : fa_laws_heldBoolS.nt = 23 := rfl
@[simp] theorem rs_laws_heldBoolS : fa_laws_heldBoolS.rs = [.tmp 4] := rfl
@[simp] theorem fz_laws_heldBoolS : fa_laws_heldBoolS.fz = true := rfl
@[simp] theorem rsh_laws_heldBoolS : fa_laws_heldBoolS.rsh = .any := rfl
theorem go_laws_heldBoolS {args : List PV} {σ : List AObj} {r : PV × List AObj} (hl : args.length ≤ 23) (h : rE fns fa_laws_heldBoolS σ.length [.code ac_laws_heldBoolS] (frA 0 args) σ = some r) : ev fns i_laws_heldBoolS args σ = some r := ev_go n_laws_heldBoolS rfl hl h
theorem l_laws_heldBoolS_0 {ks : List KI} {l : Fr} {σ : List AObj} {n0 : Nat} : rE fns fa_laws_heldBoolS n0 (.code lo_laws_heldBoolS_0 :: ks) l σ = rE fns fa_laws_heldBoolS n0 (.code lb_laws_heldBoolS_0 :: .code lo_laws_heldBoolS_0 :: ks) l σ := rE_loop
@[simp] theorem nt_laws_heldPushS : fa_laws_heldPushS.nt = 31 := rfl
@[simp] theorem rs_laws_heldPushS : fa_laws_heldPushS.rs = [.tmp 4] := rfl
@[simp] theorem fz_laws_heldPushS : fa_laws_heldPushS.fz = true := rfl
@[simp] theorem rsh_laws_heldPushS : fa_laws_heldPushS.rsh = .any := rfl
theorem go_laws_heldPushS {args : List PV} {σ : List AObj} {r : PV × List AObj} (hl : args.length ≤ 31) (h : rE fns fa_laws_heldPushS σ.length [.code ac_laws_heldPushS] (frA 0 args) σ = some r) : ev fns i_laws_heldPushS args σ = some r := ev_go n_laws_heldPushS rfl hl h
theorem l_laws_heldPushS_0 {ks : List KI} {l : Fr} {σ : List AObj} {n0 : Nat} : rE fns fa_laws_heldPushS n0 (.code lo_laws_heldPushS_0 :: ks) l σ = rE fns fa_laws_heldPushS n0 (.code lb_laws_heldPushS_0 :: .code lo_laws_heldPushS_0 :: ks) l σ := rE_loop
@[simp] theorem nt_laws_heldPushSS : fa_laws_heldPushSS.nt = 21 := rfl
@[simp] theorem rs_laws_heldPushSS : fa_laws_heldPushSS.rs = [.tmp 4] := rfl
@[simp] theorem fz_laws_heldPushSS : fa_laws_heldPushSS.fz = true := rfl
@[simp] theorem rsh_laws_heldPushSS : fa_laws_heldPushSS.rsh = .any := rfl
theorem go_laws_heldPushSS {args : List PV} {σ : List AObj} {r : PV × List AObj} (hl : args.length ≤ 21) (h : rE fns fa_laws_heldPushSS σ.length [.code ac_laws_heldPushSS] (frA 0 args) σ = some r) : ev fns i_laws_heldPushSS args σ = some r := ev_go n_laws_heldPushSS rfl hl h
theorem l_laws_heldPushSS_0 {ks : List KI} {l : Fr} {σ : List AObj} {n0 : Nat} : rE fns fa_laws_heldPushSS n0 (.code lo_laws_heldPushSS_0 :: ks) l σ = rE fns fa_laws_heldPushSS n0 (.code lb_laws_heldPushSS_0 :: .code lo_laws_heldPushSS_0 :: ks) l σ := rE_loop
@[simp] theorem nt_laws_heldInt64SSS : fa_laws_heldInt64SSS.nt = 21 := rfl
@[simp] theorem rs_laws_heldInt64SSS : fa_laws_heldInt64SSS.rs = [.tmp 4] := rfl
@[simp] theorem fz_laws_heldInt64SSS : fa_laws_heldInt64SSS.fz = true := rfl
@[simp] theorem rsh_laws_heldInt64SSS : fa_laws_heldInt64SSS.rsh = .any := rfl
theorem go_laws_heldInt64SSS {args : List PV} {σ : List AObj} {r : PV × List AObj} (hl : args.length ≤ 21) (h : rE fns fa_laws_heldInt64SSS σ.length [.code ac_laws_heldInt64SSS] (frA 0 args) σ = some r) : ev fns i_laws_heldInt64SSS args σ = some r := ev_go n_laws_heldInt64SSS rfl hl h
theorem l_laws_heldInt64SSS_0 {ks : List KI} {l : Fr} {σ : List AObj} {n0 : Nat} : rE fns fa_laws_heldInt64SSS n0 (.code lo_laws_heldInt64SSS_0 :: ks) l σ = rE fns fa_laws_heldInt64SSS n0 (.code lb_laws_heldInt64SSS_0 :: .code lo_laws_heldInt64SSS_0 :: ks) l σ := rE_loop
@[simp] theorem nt_laws_heldChecker : fa_laws_heldChecker.nt = 30 := rfl
@[simp] theorem rs_laws_heldChecker : fa_laws_heldChecker.rs = [.tmp 4] := rfl
@[simp] theorem fz_laws_heldChecker : fa_laws_heldChecker.fz = true := rfl
@[simp] theorem rsh_laws_heldChecker : fa_laws_heldChecker.rsh = .any := rfl
theorem go_laws_heldChecker {args : List PV} {σ : List AObj} {r : PV × List AObj} (hl : args.length ≤ 30) (h : rE fns fa_laws_heldChecker σ.length [.code ac_laws_heldChecker] (frA 0 args) σ = some r) : ev fns i_laws_heldChecker args σ = some r := ev_go n_laws_heldChecker rfl hl h
@[simp] theorem nt_laws_FnExactCheckerOfAlgebra : fa_laws_FnExactCheckerOfAlgebra.nt = 96 := rfl
@[simp] theorem rs_laws_FnExactCheckerOfAlgebra : fa_laws_FnExactCheckerOfAlgebra.rs = [.tmp 2] := rfl
@[simp] theorem fz_laws_FnExactCheckerOfAlgebra : fa_laws_FnExactCheckerOfAlgebra.fz = true := rfl
@[simp] theorem rsh_laws_FnExactCheckerOfAlgebra : fa_laws_FnExactCheckerOfAlgebra.rsh = .any := rfl
theorem go_laws_FnExactCheckerOfAlgebra {args : List PV} {σ : List AObj} {r : PV × List AObj} (hl : args.length ≤ 96) (h : rE fns fa_laws_FnExactCheckerOfAlgebra σ.length [.code ac_laws_FnExactCheckerOfAlgebra] (frA 0 args) σ = some r) : ev fns i_laws_FnExactCheckerOfAlgebra args σ = some r := ev_go n_laws_FnExactCheckerOfAlgebra rfl hl h
end Go.Proofs.Ytegjfjckijmgcaa
