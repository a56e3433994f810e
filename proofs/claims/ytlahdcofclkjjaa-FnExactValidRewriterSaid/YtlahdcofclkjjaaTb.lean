/- The table of all functions; printed by a program (gen2.py). -/
import Derived.Test.YtlahdcofclkjjaaAw30
import Derived.Test.YtlahdcofclkjjaaG0
import Derived.Test.YtlahdcofclkjjaaG1
import Derived.Test.YtlahdcofclkjjaaG2
set_option linter.unusedVariables false
set_option maxRecDepth 100000
namespace Go.Proofs.Ytlahdcofclkjjaa
open Aw
def tbl : List (FnE Try.prog) := [⟨i_laws_szOutPush, fa_laws_szOutPush, cf_laws_szOutPush⟩,
  ⟨i_laws_szOutPushS, fa_laws_szOutPushS, cf_laws_szOutPushS⟩,
  ⟨i_laws_szOutPushSS, fa_laws_szOutPushSS, cf_laws_szOutPushSS⟩,
  ⟨i_laws_szOutMove, fa_laws_szOutMove, cf_laws_szOutMove⟩,
  ⟨i_laws_szOutMoveS, fa_laws_szOutMoveS, cf_laws_szOutMoveS⟩,
  ⟨i_laws_szOutMoveSS, fa_laws_szOutMoveSS, cf_laws_szOutMoveSS⟩,
  ⟨i_laws_szOutMoveSSS, fa_laws_szOutMoveSSS, cf_laws_szOutMoveSSS⟩,
  ⟨i_laws_szRewriter, fa_laws_szRewriter, cf_laws_szRewriter⟩,
  ⟨i_spec_l00In, fa_spec_l00In, cf_spec_l00In⟩,
  ⟨i_spec_l01Symbol, fa_spec_l01Symbol, cf_spec_l01Symbol⟩,
  ⟨i_spec_l01Ok, fa_spec_l01Ok, cf_spec_l01Ok⟩,
  ⟨i_spec_l06Out, fa_spec_l06Out, cf_spec_l06Out⟩,
  ⟨i_spec_l06Moves, fa_spec_l06Moves, cf_spec_l06Moves⟩,
  ⟨i_spec_l06Ok, fa_spec_l06Ok, cf_spec_l06Ok⟩,
  ⟨i_spec_ValidRewriter, fa_spec_ValidRewriter, cf_spec_ValidRewriter⟩,
  ⟨i_laws_toOutPush, fa_laws_toOutPush, cf_laws_toOutPush⟩,
  ⟨i_laws_toOutPushS, fa_laws_toOutPushS, cf_laws_toOutPushS⟩,
  ⟨i_laws_toOutPushSS, fa_laws_toOutPushSS, cf_laws_toOutPushSS⟩,
  ⟨i_laws_toOutMove, fa_laws_toOutMove, cf_laws_toOutMove⟩,
  ⟨i_laws_toOutMoveS, fa_laws_toOutMoveS, cf_laws_toOutMoveS⟩,
  ⟨i_laws_toOutMoveSS, fa_laws_toOutMoveSS, cf_laws_toOutMoveSS⟩,
  ⟨i_laws_toOutMoveSSS, fa_laws_toOutMoveSSS, cf_laws_toOutMoveSSS⟩,
  ⟨i_laws_toRewriter, fa_laws_toRewriter, cf_laws_toRewriter⟩,
  ⟨i_impl_size_L_impl_OutPush, fa_impl_size_L_impl_OutPush, cf_impl_size_L_impl_OutPush⟩,
  ⟨i_impl_within, fa_impl_within, cf_impl_within⟩,
  ⟨i_internal_stringslite_IndexByte, fa_internal_stringslite_IndexByte, cf_internal_stringslite_IndexByte⟩,
  ⟨i_strings_IndexByte, fa_strings_IndexByte, cf_strings_IndexByte⟩,
  ⟨i_impl_ValidWord, fa_impl_ValidWord, cf_impl_ValidWord⟩,
  ⟨i_impl_isOut, fa_impl_isOut, cf_impl_isOut⟩,
  ⟨i_impl_ValidRewriter_1, fa_impl_ValidRewriter_1, cf_impl_ValidRewriter_1⟩,
  ⟨i_impl_size_impl_OutMove, fa_impl_size_impl_OutMove, cf_impl_size_impl_OutMove⟩,
  ⟨i_slices_IndexFunc_L_impl_OutMove, fa_slices_IndexFunc_L_impl_OutMove, cf_slices_IndexFunc_L_impl_OutMove⟩,
  ⟨i_slices_ContainsFunc_L_impl_OutMove, fa_slices_ContainsFunc_L_impl_OutMove, cf_slices_ContainsFunc_L_impl_OutMove⟩,
  ⟨i_impl_ValidRewriter_2_1, fa_impl_ValidRewriter_2_1, cf_impl_ValidRewriter_2_1⟩,
  ⟨i_impl_ValidRewriter_2, fa_impl_ValidRewriter_2, cf_impl_ValidRewriter_2⟩,
  ⟨i_impl_size_L_L_impl_OutMove, fa_impl_size_L_L_impl_OutMove, cf_impl_size_L_L_impl_OutMove⟩,
  ⟨i_impl_size_L_impl_OutMove, fa_impl_size_L_impl_OutMove, cf_impl_size_L_impl_OutMove⟩,
  ⟨i_impl_ValidRewriter, fa_impl_ValidRewriter, cf_impl_ValidRewriter⟩,
  ⟨i_laws_eqOutPush, fa_laws_eqOutPush, cf_laws_eqOutPush⟩,
  ⟨i_laws_eqOutPushS, fa_laws_eqOutPushS, cf_laws_eqOutPushS⟩,
  ⟨i_laws_eqOutPushSS, fa_laws_eqOutPushSS, cf_laws_eqOutPushSS⟩,
  ⟨i_laws_eqOutMove, fa_laws_eqOutMove, cf_laws_eqOutMove⟩,
  ⟨i_laws_eqOutMoveS, fa_laws_eqOutMoveS, cf_laws_eqOutMoveS⟩,
  ⟨i_laws_eqOutMoveSS, fa_laws_eqOutMoveSS, cf_laws_eqOutMoveSS⟩,
  ⟨i_laws_eqOutMoveSSS, fa_laws_eqOutMoveSSS, cf_laws_eqOutMoveSSS⟩,
  ⟨i_laws_eqRewriter, fa_laws_eqRewriter, cf_laws_eqRewriter⟩,
  ⟨i_laws_FnExactValidRewriter, fa_laws_FnExactValidRewriter, cf_laws_FnExactValidRewriter⟩,
  ⟨i_laws_szTreeEdit, fa_laws_szTreeEdit, cf_laws_szTreeEdit⟩,
  ⟨i_laws_szTreeEditS, fa_laws_szTreeEditS, cf_laws_szTreeEditS⟩,
  ⟨i_spec_l01Call, fa_spec_l01Call, cf_spec_l01Call⟩,
  ⟨i_spec_l01Return, fa_spec_l01Return, cf_spec_l01Return⟩,
  ⟨i_spec_l01Partners, fa_spec_l01Partners, cf_spec_l01Partners⟩,
  ⟨i_spec_l01Pending, fa_spec_l01Pending, cf_spec_l01Pending⟩,
  ⟨i_spec_l01Matched, fa_spec_l01Matched, cf_spec_l01Matched⟩,
  ⟨i_spec_l06Brackets, fa_spec_l06Brackets, cf_spec_l06Brackets⟩,
  ⟨i_spec_l06Edit, fa_spec_l06Edit, cf_spec_l06Edit⟩,
  ⟨i_spec_l01Told, fa_spec_l01Told, cf_spec_l01Told⟩,
  ⟨i_spec_PutAt, fa_spec_PutAt, cf_spec_PutAt⟩,
  ⟨i_spec_l01Closed, fa_spec_l01Closed, cf_spec_l01Closed⟩,
  ⟨i_spec_CutMatched, fa_spec_CutMatched, cf_spec_CutMatched⟩,
  ⟨i_spec_l06Made, fa_spec_l06Made, cf_spec_l06Made⟩,
  ⟨i_spec_EditTrees, fa_spec_EditTrees, cf_spec_EditTrees⟩,
  ⟨i_laws_toTreeEdit, fa_laws_toTreeEdit, cf_laws_toTreeEdit⟩,
  ⟨i_laws_toTreeEditS, fa_laws_toTreeEditS, cf_laws_toTreeEditS⟩,
  ⟨i_slices_IndexFunc_L_impl_TreeEdit, fa_slices_IndexFunc_L_impl_TreeEdit, cf_slices_IndexFunc_L_impl_TreeEdit⟩,
  ⟨i_slices_ContainsFunc_L_impl_TreeEdit, fa_slices_ContainsFunc_L_impl_TreeEdit, cf_slices_ContainsFunc_L_impl_TreeEdit⟩,
  ⟨i_impl_treeFormOf, fa_impl_treeFormOf, cf_impl_treeFormOf⟩,
  ⟨i_impl_isCall, fa_impl_isCall, cf_impl_isCall⟩,
  ⟨i_impl_size_int64, fa_impl_size_int64, cf_impl_size_int64⟩,
  ⟨i_impl_isReturn, fa_impl_isReturn, cf_impl_isReturn⟩,
  ⟨i_impl_match, fa_impl_match, cf_impl_match⟩,
  ⟨i_impl_isMatched, fa_impl_isMatched, cf_impl_isMatched⟩,
  ⟨i_impl_isBrackets, fa_impl_isBrackets, cf_impl_isBrackets⟩,
  ⟨i_impl_ValidTreeEdit, fa_impl_ValidTreeEdit, cf_impl_ValidTreeEdit⟩,
  ⟨i_impl_EditTrees_1, fa_impl_EditTrees_1, cf_impl_EditTrees_1⟩,
  ⟨i_impl_bodyAt, fa_impl_bodyAt, cf_impl_bodyAt⟩,
  ⟨i_impl_orLimit, fa_impl_orLimit, cf_impl_orLimit⟩,
  ⟨i_impl_PutAt, fa_impl_PutAt, cf_impl_PutAt⟩,
  ⟨i_impl_CutMatched, fa_impl_CutMatched, cf_impl_CutMatched⟩,
  ⟨i_impl_editTree, fa_impl_editTree, cf_impl_editTree⟩,
  ⟨i_impl_EditTrees, fa_impl_EditTrees, cf_impl_EditTrees⟩,
  ⟨i_laws_eqTreeEdit, fa_laws_eqTreeEdit, cf_laws_eqTreeEdit⟩,
  ⟨i_laws_eqTreeEditS, fa_laws_eqTreeEditS, cf_laws_eqTreeEditS⟩,
  ⟨i_laws_FnExactEditTrees, fa_laws_FnExactEditTrees, cf_laws_FnExactEditTrees⟩,
  ⟨i_spec_l06Given, fa_spec_l06Given, cf_spec_l06Given⟩,
  ⟨i_spec_l01Factors, fa_spec_l01Factors, cf_spec_l01Factors⟩,
  ⟨i_spec_UndoTreeEdit, fa_spec_UndoTreeEdit, cf_spec_UndoTreeEdit⟩,
  ⟨i_impl_EditTree, fa_impl_EditTree, cf_impl_EditTree⟩,
  ⟨i_impl_factors, fa_impl_factors, cf_impl_factors⟩,
  ⟨i_impl_UndoTreeEdit, fa_impl_UndoTreeEdit, cf_impl_UndoTreeEdit⟩,
  ⟨i_laws_FnExactUndoTreeEdit, fa_laws_FnExactUndoTreeEdit, cf_laws_FnExactUndoTreeEdit⟩,
  ⟨i_spec_l06Has, fa_spec_l06Has, cf_spec_l06Has⟩,
  ⟨i_spec_l06Structural, fa_spec_l06Structural, cf_spec_l06Structural⟩,
  ⟨i_spec_IsStructural, fa_spec_IsStructural, cf_spec_IsStructural⟩,
  ⟨i_impl_isPending, fa_impl_isPending, cf_impl_isPending⟩,
  ⟨i_impl_Rewriter_isStructural_1, fa_impl_Rewriter_isStructural_1, cf_impl_Rewriter_isStructural_1⟩,
  ⟨i_impl_Rewriter_isStructural, fa_impl_Rewriter_isStructural, cf_impl_Rewriter_isStructural⟩,
  ⟨i_impl_IsStructural, fa_impl_IsStructural, cf_impl_IsStructural⟩,
  ⟨i_laws_FnExactIsStructural, fa_laws_FnExactIsStructural, cf_laws_FnExactIsStructural⟩,
  ⟨i_spec_l00Own, fa_spec_l00Own, cf_spec_l00Own⟩,
  ⟨i_P_spec_l06Run_read, fa_P_spec_l06Run_read, cf_P_spec_l06Run_read⟩,
  ⟨i_spec_l06Reads, fa_spec_l06Reads, cf_spec_l06Reads⟩,
  ⟨i_spec_Rewrite, fa_spec_Rewrite, cf_spec_Rewrite⟩,
  ⟨i_slices_Clone_L_int64, fa_slices_Clone_L_int64, cf_slices_Clone_L_int64⟩,
  ⟨i_impl_kindOf, fa_impl_kindOf, cf_impl_kindOf⟩,
  ⟨i_impl_isInner, fa_impl_isInner, cf_impl_isInner⟩,
  ⟨i_P_strings_Builder_WriteString, fa_P_strings_Builder_WriteString, cf_P_strings_Builder_WriteString⟩,
  ⟨i_impl_Rewriter_rewrite, fa_impl_Rewriter_rewrite, cf_impl_Rewriter_rewrite⟩,
  ⟨i_impl_Rewrite, fa_impl_Rewrite, cf_impl_Rewrite⟩,
  ⟨i_laws_FnExactRewrite, fa_laws_FnExactRewrite, cf_laws_FnExactRewrite⟩,
  ⟨i_laws_szBoolS, fa_laws_szBoolS, cf_laws_szBoolS⟩,
  ⟨i_laws_szPushS, fa_laws_szPushS, cf_laws_szPushS⟩,
  ⟨i_laws_szPushSS, fa_laws_szPushSS, cf_laws_szPushSS⟩,
  ⟨i_laws_szInt64S, fa_laws_szInt64S, cf_laws_szInt64S⟩,
  ⟨i_laws_szInt64SS, fa_laws_szInt64SS, cf_laws_szInt64SS⟩,
  ⟨i_laws_szInt64SSS, fa_laws_szInt64SSS, cf_laws_szInt64SSS⟩,
  ⟨i_laws_szChecker, fa_laws_szChecker, cf_laws_szChecker⟩,
  ⟨i_spec_l02List, fa_spec_l02List, cf_spec_l02List⟩,
  ⟨i_spec_l02Ok, fa_spec_l02Ok, cf_spec_l02Ok⟩,
  ⟨i_spec_l02Given, fa_spec_l02Given, cf_spec_l02Given⟩,
  ⟨i_spec_l02Step, fa_spec_l02Step, cf_spec_l02Step⟩,
  ⟨i_spec_l02Go, fa_spec_l02Go, cf_spec_l02Go⟩,
  ⟨i_spec_l02Takes, fa_spec_l02Takes, cf_spec_l02Takes⟩,
  ⟨i_spec_Takes, fa_spec_Takes, cf_spec_Takes⟩,
  ⟨i_laws_toBoolS, fa_laws_toBoolS, cf_laws_toBoolS⟩,
  ⟨i_laws_toPush, fa_laws_toPush, cf_laws_toPush⟩,
  ⟨i_laws_toPushS, fa_laws_toPushS, cf_laws_toPushS⟩,
  ⟨i_laws_toPushSS, fa_laws_toPushSS, cf_laws_toPushSS⟩,
  ⟨i_laws_toInt64S, fa_laws_toInt64S, cf_laws_toInt64S⟩,
  ⟨i_laws_toInt64SS, fa_laws_toInt64SS, cf_laws_toInt64SS⟩,
  ⟨i_laws_toInt64SSS, fa_laws_toInt64SSS, cf_laws_toInt64SSS⟩,
  ⟨i_laws_toChecker, fa_laws_toChecker, cf_laws_toChecker⟩,
  ⟨i_impl_size_bool, fa_impl_size_bool, cf_impl_size_bool⟩,
  ⟨i_impl_Checker_isState, fa_impl_Checker_isState, cf_impl_Checker_isState⟩,
  ⟨i_impl_size_L_impl_Push, fa_impl_size_L_impl_Push, cf_impl_size_L_impl_Push⟩,
  ⟨i_impl_size_L_L_int64, fa_impl_size_L_L_int64, cf_impl_size_L_L_int64⟩,
  ⟨i_impl_size_L_int64, fa_impl_size_L_int64, cf_impl_size_L_int64⟩,
  ⟨i_slices_IndexFunc_L_int64, fa_slices_IndexFunc_L_int64, cf_slices_IndexFunc_L_int64⟩,
  ⟨i_slices_ContainsFunc_L_int64, fa_slices_ContainsFunc_L_int64, cf_slices_ContainsFunc_L_int64⟩,
  ⟨i_impl_ValidChecker_1_1, fa_impl_ValidChecker_1_1, cf_impl_ValidChecker_1_1⟩,
  ⟨i_impl_ValidChecker_1, fa_impl_ValidChecker_1, cf_impl_ValidChecker_1⟩,
  ⟨i_impl_Checker_isMark, fa_impl_Checker_isMark, cf_impl_Checker_isMark⟩,
  ⟨i_impl_ValidChecker, fa_impl_ValidChecker, cf_impl_ValidChecker⟩,
  ⟨i_impl_Checker_step, fa_impl_Checker_step, cf_impl_Checker_step⟩,
  ⟨i_impl_Checker_run, fa_impl_Checker_run, cf_impl_Checker_run⟩,
  ⟨i_impl_Checker_end_1, fa_impl_Checker_end_1, cf_impl_Checker_end_1⟩,
  ⟨i_impl_Checker_end, fa_impl_Checker_end, cf_impl_Checker_end⟩,
  ⟨i_impl_Checker_takes, fa_impl_Checker_takes, cf_impl_Checker_takes⟩,
  ⟨i_impl_Takes, fa_impl_Takes, cf_impl_Takes⟩,
  ⟨i_laws_eqInt64S, fa_laws_eqInt64S, cf_laws_eqInt64S⟩,
  ⟨i_laws_eqInt64SS, fa_laws_eqInt64SS, cf_laws_eqInt64SS⟩,
  ⟨i_laws_eqBoolS, fa_laws_eqBoolS, cf_laws_eqBoolS⟩,
  ⟨i_laws_eqPush, fa_laws_eqPush, cf_laws_eqPush⟩,
  ⟨i_laws_eqPushS, fa_laws_eqPushS, cf_laws_eqPushS⟩,
  ⟨i_laws_eqPushSS, fa_laws_eqPushSS, cf_laws_eqPushSS⟩,
  ⟨i_laws_eqInt64SSS, fa_laws_eqInt64SSS, cf_laws_eqInt64SSS⟩,
  ⟨i_laws_eqChecker, fa_laws_eqChecker, cf_laws_eqChecker⟩,
  ⟨i_laws_FnExactTakes, fa_laws_FnExactTakes, cf_laws_FnExactTakes⟩]
def fns : Fns := fnsOf tbl
theorem fnsOk : FnsOk Try.prog fns := fnsOf_ok tbl
theorem n_laws_szOutPush : fns i_laws_szOutPush = some fa_laws_szOutPush := rfl
@[simp] theorem c_laws_szOutPush (args : List PV) (σ : List AObj) : callM fns (ev fns) i_laws_szOutPush args σ = callN fns i_laws_szOutPush args σ := callM_np n_laws_szOutPush rfl rfl
theorem n_laws_szOutPushS : fns i_laws_szOutPushS = some fa_laws_szOutPushS := rfl
@[simp] theorem c_laws_szOutPushS (args : List PV) (σ : List AObj) : callM fns (ev fns) i_laws_szOutPushS args σ = callN fns i_laws_szOutPushS args σ := callM_np n_laws_szOutPushS rfl rfl
theorem n_laws_szOutPushSS : fns i_laws_szOutPushSS = some fa_laws_szOutPushSS := rfl
@[simp] theorem c_laws_szOutPushSS (args : List PV) (σ : List AObj) : callM fns (ev fns) i_laws_szOutPushSS args σ = callN fns i_laws_szOutPushSS args σ := callM_np n_laws_szOutPushSS rfl rfl
theorem n_laws_szOutMove : fns i_laws_szOutMove = some fa_laws_szOutMove := rfl
@[simp] theorem c_laws_szOutMove (args : List PV) (σ : List AObj) : callM fns (ev fns) i_laws_szOutMove args σ = callN fns i_laws_szOutMove args σ := callM_np n_laws_szOutMove rfl rfl
theorem n_laws_szOutMoveS : fns i_laws_szOutMoveS = some fa_laws_szOutMoveS := rfl
@[simp] theorem c_laws_szOutMoveS (args : List PV) (σ : List AObj) : callM fns (ev fns) i_laws_szOutMoveS args σ = callN fns i_laws_szOutMoveS args σ := callM_np n_laws_szOutMoveS rfl rfl
theorem n_laws_szOutMoveSS : fns i_laws_szOutMoveSS = some fa_laws_szOutMoveSS := rfl
@[simp] theorem c_laws_szOutMoveSS (args : List PV) (σ : List AObj) : callM fns (ev fns) i_laws_szOutMoveSS args σ = callN fns i_laws_szOutMoveSS args σ := callM_np n_laws_szOutMoveSS rfl rfl
theorem n_laws_szOutMoveSSS : fns i_laws_szOutMoveSSS = some fa_laws_szOutMoveSSS := rfl
@[simp] theorem c_laws_szOutMoveSSS (args : List PV) (σ : List AObj) : callM fns (ev fns) i_laws_szOutMoveSSS args σ = callN fns i_laws_szOutMoveSSS args σ := callM_np n_laws_szOutMoveSSS rfl rfl
theorem n_laws_szRewriter : fns i_laws_szRewriter = some fa_laws_szRewriter := rfl
@[simp] theorem c_laws_szRewriter (args : List PV) (σ : List AObj) : callM fns (ev fns) i_laws_szRewriter args σ = callN fns i_laws_szRewriter args σ := callM_np n_laws_szRewriter rfl rfl
theorem n_spec_l00In : fns i_spec_l00In = some fa_spec_l00In := rfl
@[simp] theorem c_spec_l00In (args : List PV) (σ : List AObj) : callM fns (ev fns) i_spec_l00In args σ = callN fns i_spec_l00In args σ := callM_np n_spec_l00In rfl rfl
theorem n_spec_l01Symbol : fns i_spec_l01Symbol = some fa_spec_l01Symbol := rfl
@[simp] theorem c_spec_l01Symbol (args : List PV) (σ : List AObj) : callM fns (ev fns) i_spec_l01Symbol args σ = callN fns i_spec_l01Symbol args σ := callM_np n_spec_l01Symbol rfl rfl
theorem n_spec_l01Ok : fns i_spec_l01Ok = some fa_spec_l01Ok := rfl
@[simp] theorem c_spec_l01Ok (args : List PV) (σ : List AObj) : callM fns (ev fns) i_spec_l01Ok args σ = callN fns i_spec_l01Ok args σ := callM_np n_spec_l01Ok rfl rfl
theorem n_spec_l06Out : fns i_spec_l06Out = some fa_spec_l06Out := rfl
@[simp] theorem c_spec_l06Out (args : List PV) (σ : List AObj) : callM fns (ev fns) i_spec_l06Out args σ = callN fns i_spec_l06Out args σ := callM_np n_spec_l06Out rfl rfl
theorem n_spec_l06Moves : fns i_spec_l06Moves = some fa_spec_l06Moves := rfl
@[simp] theorem c_spec_l06Moves (args : List PV) (σ : List AObj) : callM fns (ev fns) i_spec_l06Moves args σ = callN fns i_spec_l06Moves args σ := callM_np n_spec_l06Moves rfl rfl
theorem n_spec_l06Ok : fns i_spec_l06Ok = some fa_spec_l06Ok := rfl
@[simp] theorem c_spec_l06Ok (args : List PV) (σ : List AObj) : callM fns (ev fns) i_spec_l06Ok args σ = callN fns i_spec_l06Ok args σ := callM_np n_spec_l06Ok rfl rfl
theorem n_spec_ValidRewriter : fns i_spec_ValidRewriter = some fa_spec_ValidRewriter := rfl
@[simp] theorem c_spec_ValidRewriter (args : List PV) (σ : List AObj) : callM fns (ev fns) i_spec_ValidRewriter args σ = callN fns i_spec_ValidRewriter args σ := callM_np n_spec_ValidRewriter rfl rfl
theorem n_laws_toOutPush : fns i_laws_toOutPush = some fa_laws_toOutPush := rfl
@[simp] theorem c_laws_toOutPush (args : List PV) (σ : List AObj) : callM fns (ev fns) i_laws_toOutPush args σ = callN fns i_laws_toOutPush args σ := callM_np n_laws_toOutPush rfl rfl
theorem n_laws_toOutPushS : fns i_laws_toOutPushS = some fa_laws_toOutPushS := rfl
@[simp] theorem c_laws_toOutPushS (args : List PV) (σ : List AObj) : callM fns (ev fns) i_laws_toOutPushS args σ = callN fns i_laws_toOutPushS args σ := callM_np n_laws_toOutPushS rfl rfl
theorem n_laws_toOutPushSS : fns i_laws_toOutPushSS = some fa_laws_toOutPushSS := rfl
@[simp] theorem c_laws_toOutPushSS (args : List PV) (σ : List AObj) : callM fns (ev fns) i_laws_toOutPushSS args σ = callN fns i_laws_toOutPushSS args σ := callM_np n_laws_toOutPushSS rfl rfl
theorem n_laws_toOutMove : fns i_laws_toOutMove = some fa_laws_toOutMove := rfl
@[simp] theorem c_laws_toOutMove (args : List PV) (σ : List AObj) : callM fns (ev fns) i_laws_toOutMove args σ = callN fns i_laws_toOutMove args σ := callM_np n_laws_toOutMove rfl rfl
theorem n_laws_toOutMoveS : fns i_laws_toOutMoveS = some fa_laws_toOutMoveS := rfl
@[simp] theorem c_laws_toOutMoveS (args : List PV) (σ : List AObj) : callM fns (ev fns) i_laws_toOutMoveS args σ = callN fns i_laws_toOutMoveS args σ := callM_np n_laws_toOutMoveS rfl rfl
theorem n_laws_toOutMoveSS : fns i_laws_toOutMoveSS = some fa_laws_toOutMoveSS := rfl
@[simp] theorem c_laws_toOutMoveSS (args : List PV) (σ : List AObj) : callM fns (ev fns) i_laws_toOutMoveSS args σ = callN fns i_laws_toOutMoveSS args σ := callM_np n_laws_toOutMoveSS rfl rfl
theorem n_laws_toOutMoveSSS : fns i_laws_toOutMoveSSS = some fa_laws_toOutMoveSSS := rfl
@[simp] theorem c_laws_toOutMoveSSS (args : List PV) (σ : List AObj) : callM fns (ev fns) i_laws_toOutMoveSSS args σ = callN fns i_laws_toOutMoveSSS args σ := callM_np n_laws_toOutMoveSSS rfl rfl
theorem n_laws_toRewriter : fns i_laws_toRewriter = some fa_laws_toRewriter := rfl
@[simp] theorem c_laws_toRewriter (args : List PV) (σ : List AObj) : callM fns (ev fns) i_laws_toRewriter args σ = callN fns i_laws_toRewriter args σ := callM_np n_laws_toRewriter rfl rfl
theorem n_impl_size_L_impl_OutPush : fns i_impl_size_L_impl_OutPush = some fa_impl_size_L_impl_OutPush := rfl
@[simp] theorem c_impl_size_L_impl_OutPush (args : List PV) (σ : List AObj) : callM fns (ev fns) i_impl_size_L_impl_OutPush args σ = callN fns i_impl_size_L_impl_OutPush args σ := callM_np n_impl_size_L_impl_OutPush rfl rfl
theorem n_impl_within : fns i_impl_within = some fa_impl_within := rfl
@[simp] theorem c_impl_within (args : List PV) (σ : List AObj) : callM fns (ev fns) i_impl_within args σ = callN fns i_impl_within args σ := callM_np n_impl_within rfl rfl
theorem n_internal_stringslite_IndexByte : fns i_internal_stringslite_IndexByte = some fa_internal_stringslite_IndexByte := rfl
@[simp] theorem c_internal_stringslite_IndexByte (args : List PV) (σ : List AObj) : callM fns (ev fns) i_internal_stringslite_IndexByte args σ = callN fns i_internal_stringslite_IndexByte args σ := callM_np n_internal_stringslite_IndexByte rfl rfl
theorem n_strings_IndexByte : fns i_strings_IndexByte = some fa_strings_IndexByte := rfl
@[simp] theorem c_strings_IndexByte (args : List PV) (σ : List AObj) : callM fns (ev fns) i_strings_IndexByte args σ = callN fns i_strings_IndexByte args σ := callM_np n_strings_IndexByte rfl rfl
theorem n_impl_ValidWord : fns i_impl_ValidWord = some fa_impl_ValidWord := rfl
@[simp] theorem c_impl_ValidWord (args : List PV) (σ : List AObj) : callM fns (ev fns) i_impl_ValidWord args σ = callN fns i_impl_ValidWord args σ := callM_np n_impl_ValidWord rfl rfl
theorem n_impl_isOut : fns i_impl_isOut = some fa_impl_isOut := rfl
@[simp] theorem c_impl_isOut (args : List PV) (σ : List AObj) : callM fns (ev fns) i_impl_isOut args σ = callN fns i_impl_isOut args σ := callM_np n_impl_isOut rfl rfl
theorem n_impl_ValidRewriter_1 : fns i_impl_ValidRewriter_1 = some fa_impl_ValidRewriter_1 := rfl
@[simp] theorem c_impl_ValidRewriter_1 (args : List PV) (σ : List AObj) : callM fns (ev fns) i_impl_ValidRewriter_1 args σ = callN fns i_impl_ValidRewriter_1 args σ := callM_np n_impl_ValidRewriter_1 rfl rfl
theorem n_impl_size_impl_OutMove : fns i_impl_size_impl_OutMove = some fa_impl_size_impl_OutMove := rfl
@[simp] theorem c_impl_size_impl_OutMove (args : List PV) (σ : List AObj) : callM fns (ev fns) i_impl_size_impl_OutMove args σ = callN fns i_impl_size_impl_OutMove args σ := callM_np n_impl_size_impl_OutMove rfl rfl
theorem n_slices_IndexFunc_L_impl_OutMove : fns i_slices_IndexFunc_L_impl_OutMove = some fa_slices_IndexFunc_L_impl_OutMove := rfl
@[simp] theorem c_slices_IndexFunc_L_impl_OutMove (args : List PV) (σ : List AObj) : callM fns (ev fns) i_slices_IndexFunc_L_impl_OutMove args σ = callN fns i_slices_IndexFunc_L_impl_OutMove args σ := callM_np n_slices_IndexFunc_L_impl_OutMove rfl rfl
theorem n_slices_ContainsFunc_L_impl_OutMove : fns i_slices_ContainsFunc_L_impl_OutMove = some fa_slices_ContainsFunc_L_impl_OutMove := rfl
@[simp] theorem c_slices_ContainsFunc_L_impl_OutMove (args : List PV) (σ : List AObj) : callM fns (ev fns) i_slices_ContainsFunc_L_impl_OutMove args σ = callN fns i_slices_ContainsFunc_L_impl_OutMove args σ := callM_np n_slices_ContainsFunc_L_impl_OutMove rfl rfl
theorem n_impl_ValidRewriter_2_1 : fns i_impl_ValidRewriter_2_1 = some fa_impl_ValidRewriter_2_1 := rfl
@[simp] theorem c_impl_ValidRewriter_2_1 (args : List PV) (σ : List AObj) : callM fns (ev fns) i_impl_ValidRewriter_2_1 args σ = callN fns i_impl_ValidRewriter_2_1 args σ := callM_np n_impl_ValidRewriter_2_1 rfl rfl
theorem n_impl_ValidRewriter_2 : fns i_impl_ValidRewriter_2 = some fa_impl_ValidRewriter_2 := rfl
@[simp] theorem c_impl_ValidRewriter_2 (args : List PV) (σ : List AObj) : callM fns (ev fns) i_impl_ValidRewriter_2 args σ = callN fns i_impl_ValidRewriter_2 args σ := callM_np n_impl_ValidRewriter_2 rfl rfl
theorem n_impl_size_L_L_impl_OutMove : fns i_impl_size_L_L_impl_OutMove = some fa_impl_size_L_L_impl_OutMove := rfl
@[simp] theorem c_impl_size_L_L_impl_OutMove (args : List PV) (σ : List AObj) : callM fns (ev fns) i_impl_size_L_L_impl_OutMove args σ = callN fns i_impl_size_L_L_impl_OutMove args σ := callM_np n_impl_size_L_L_impl_OutMove rfl rfl
theorem n_impl_size_L_impl_OutMove : fns i_impl_size_L_impl_OutMove = some fa_impl_size_L_impl_OutMove := rfl
@[simp] theorem c_impl_size_L_impl_OutMove (args : List PV) (σ : List AObj) : callM fns (ev fns) i_impl_size_L_impl_OutMove args σ = callN fns i_impl_size_L_impl_OutMove args σ := callM_np n_impl_size_L_impl_OutMove rfl rfl
theorem n_impl_ValidRewriter : fns i_impl_ValidRewriter = some fa_impl_ValidRewriter := rfl
@[simp] theorem c_impl_ValidRewriter (args : List PV) (σ : List AObj) : callM fns (ev fns) i_impl_ValidRewriter args σ = callN fns i_impl_ValidRewriter args σ := callM_np n_impl_ValidRewriter rfl rfl
theorem n_laws_eqOutPush : fns i_laws_eqOutPush = some fa_laws_eqOutPush := rfl
@[simp] theorem c_laws_eqOutPush (args : List PV) (σ : List AObj) : callM fns (ev fns) i_laws_eqOutPush args σ = callN fns i_laws_eqOutPush args σ := callM_np n_laws_eqOutPush rfl rfl
theorem n_laws_eqOutPushS : fns i_laws_eqOutPushS = some fa_laws_eqOutPushS := rfl
@[simp] theorem c_laws_eqOutPushS (args : List PV) (σ : List AObj) : callM fns (ev fns) i_laws_eqOutPushS args σ = callN fns i_laws_eqOutPushS args σ := callM_np n_laws_eqOutPushS rfl rfl
theorem n_laws_eqOutPushSS : fns i_laws_eqOutPushSS = some fa_laws_eqOutPushSS := rfl
@[simp] theorem c_laws_eqOutPushSS (args : List PV) (σ : List AObj) : callM fns (ev fns) i_laws_eqOutPushSS args σ = callN fns i_laws_eqOutPushSS args σ := callM_np n_laws_eqOutPushSS rfl rfl
theorem n_laws_eqOutMove : fns i_laws_eqOutMove = some fa_laws_eqOutMove := rfl
@[simp] theorem c_laws_eqOutMove (args : List PV) (σ : List AObj) : callM fns (ev fns) i_laws_eqOutMove args σ = callN fns i_laws_eqOutMove args σ := callM_np n_laws_eqOutMove rfl rfl
theorem n_laws_eqOutMoveS : fns i_laws_eqOutMoveS = some fa_laws_eqOutMoveS := rfl
@[simp] theorem c_laws_eqOutMoveS (args : List PV) (σ : List AObj) : callM fns (ev fns) i_laws_eqOutMoveS args σ = callN fns i_laws_eqOutMoveS args σ := callM_np n_laws_eqOutMoveS rfl rfl
theorem n_laws_eqOutMoveSS : fns i_laws_eqOutMoveSS = some fa_laws_eqOutMoveSS := rfl
@[simp] theorem c_laws_eqOutMoveSS (args : List PV) (σ : List AObj) : callM fns (ev fns) i_laws_eqOutMoveSS args σ = callN fns i_laws_eqOutMoveSS args σ := callM_np n_laws_eqOutMoveSS rfl rfl
theorem n_laws_eqOutMoveSSS : fns i_laws_eqOutMoveSSS = some fa_laws_eqOutMoveSSS := rfl
@[simp] theorem c_laws_eqOutMoveSSS (args : List PV) (σ : List AObj) : callM fns (ev fns) i_laws_eqOutMoveSSS args σ = callN fns i_laws_eqOutMoveSSS args σ := callM_np n_laws_eqOutMoveSSS rfl rfl
theorem n_laws_eqRewriter : fns i_laws_eqRewriter = some fa_laws_eqRewriter := rfl
@[simp] theorem c_laws_eqRewriter (args : List PV) (σ : List AObj) : callM fns (ev fns) i_laws_eqRewriter args σ = callT fns [(.agg [.any, .any, (.lst 1 (.lst 3 .any)), (.lst 1 (.lst 1 (.lst 2 .any))), (.lst 1 (.lst 2 .any))]), (.agg [.any, .any, (.lst 1 (.lst 3 .any)), (.lst 1 (.lst 1 (.lst 2 .any))), (.lst 1 (.lst 2 .any))])] i_laws_eqRewriter args σ := callM_ty n_laws_eqRewriter rfl
theorem n_laws_FnExactValidRewriter : fns i_laws_FnExactValidRewriter = some fa_laws_FnExactValidRewriter := rfl
@[simp] theorem c_laws_FnExactValidRewriter (args : List PV) (σ : List AObj) : callM fns (ev fns) i_laws_FnExactValidRewriter args σ = callN fns i_laws_FnExactValidRewriter args σ := callM_np n_laws_FnExactValidRewriter rfl rfl
theorem n_laws_szTreeEdit : fns i_laws_szTreeEdit = some fa_laws_szTreeEdit := rfl
@[simp] theorem c_laws_szTreeEdit (args : List PV) (σ : List AObj) : callM fns (ev fns) i_laws_szTreeEdit args σ = callN fns i_laws_szTreeEdit args σ := callM_np n_laws_szTreeEdit rfl rfl
theorem n_laws_szTreeEditS : fns i_laws_szTreeEditS = some fa_laws_szTreeEditS := rfl
@[simp] theorem c_laws_szTreeEditS (args : List PV) (σ : List AObj) : callM fns (ev fns) i_laws_szTreeEditS args σ = callN fns i_laws_szTreeEditS args σ := callM_np n_laws_szTreeEditS rfl rfl
theorem n_spec_l01Call : fns i_spec_l01Call = some fa_spec_l01Call := rfl
@[simp] theorem c_spec_l01Call (args : List PV) (σ : List AObj) : callM fns (ev fns) i_spec_l01Call args σ = callN fns i_spec_l01Call args σ := callM_np n_spec_l01Call rfl rfl
theorem n_spec_l01Return : fns i_spec_l01Return = some fa_spec_l01Return := rfl
@[simp] theorem c_spec_l01Return (args : List PV) (σ : List AObj) : callM fns (ev fns) i_spec_l01Return args σ = callN fns i_spec_l01Return args σ := callM_np n_spec_l01Return rfl rfl
theorem n_spec_l01Partners : fns i_spec_l01Partners = some fa_spec_l01Partners := rfl
@[simp] theorem c_spec_l01Partners (args : List PV) (σ : List AObj) : callM fns (ev fns) i_spec_l01Partners args σ = callN fns i_spec_l01Partners args σ := callM_np n_spec_l01Partners rfl rfl
theorem n_spec_l01Pending : fns i_spec_l01Pending = some fa_spec_l01Pending := rfl
@[simp] theorem c_spec_l01Pending (args : List PV) (σ : List AObj) : callM fns (ev fns) i_spec_l01Pending args σ = callN fns i_spec_l01Pending args σ := callM_np n_spec_l01Pending rfl rfl
theorem n_spec_l01Matched : fns i_spec_l01Matched = some fa_spec_l01Matched := rfl
@[simp] theorem c_spec_l01Matched (args : List PV) (σ : List AObj) : callM fns (ev fns) i_spec_l01Matched args σ = callN fns i_spec_l01Matched args σ := callM_np n_spec_l01Matched rfl rfl
theorem n_spec_l06Brackets : fns i_spec_l06Brackets = some fa_spec_l06Brackets := rfl
@[simp] theorem c_spec_l06Brackets (args : List PV) (σ : List AObj) : callM fns (ev fns) i_spec_l06Brackets args σ = callN fns i_spec_l06Brackets args σ := callM_np n_spec_l06Brackets rfl rfl
theorem n_spec_l06Edit : fns i_spec_l06Edit = some fa_spec_l06Edit := rfl
@[simp] theorem c_spec_l06Edit (args : List PV) (σ : List AObj) : callM fns (ev fns) i_spec_l06Edit args σ = callN fns i_spec_l06Edit args σ := callM_np n_spec_l06Edit rfl rfl
theorem n_spec_l01Told : fns i_spec_l01Told = some fa_spec_l01Told := rfl
@[simp] theorem c_spec_l01Told (args : List PV) (σ : List AObj) : callM fns (ev fns) i_spec_l01Told args σ = callN fns i_spec_l01Told args σ := callM_np n_spec_l01Told rfl rfl
theorem n_spec_PutAt : fns i_spec_PutAt = some fa_spec_PutAt := rfl
@[simp] theorem c_spec_PutAt (args : List PV) (σ : List AObj) : callM fns (ev fns) i_spec_PutAt args σ = callN fns i_spec_PutAt args σ := callM_np n_spec_PutAt rfl rfl
theorem n_spec_l01Closed : fns i_spec_l01Closed = some fa_spec_l01Closed := rfl
@[simp] theorem c_spec_l01Closed (args : List PV) (σ : List AObj) : callM fns (ev fns) i_spec_l01Closed args σ = callN fns i_spec_l01Closed args σ := callM_np n_spec_l01Closed rfl rfl
theorem n_spec_CutMatched : fns i_spec_CutMatched = some fa_spec_CutMatched := rfl
@[simp] theorem c_spec_CutMatched (args : List PV) (σ : List AObj) : callM fns (ev fns) i_spec_CutMatched args σ = callN fns i_spec_CutMatched args σ := callM_np n_spec_CutMatched rfl rfl
theorem n_spec_l06Made : fns i_spec_l06Made = some fa_spec_l06Made := rfl
@[simp] theorem c_spec_l06Made (args : List PV) (σ : List AObj) : callM fns (ev fns) i_spec_l06Made args σ = callN fns i_spec_l06Made args σ := callM_np n_spec_l06Made rfl rfl
theorem n_spec_EditTrees : fns i_spec_EditTrees = some fa_spec_EditTrees := rfl
@[simp] theorem c_spec_EditTrees (args : List PV) (σ : List AObj) : callM fns (ev fns) i_spec_EditTrees args σ = callN fns i_spec_EditTrees args σ := callM_np n_spec_EditTrees rfl rfl
theorem n_laws_toTreeEdit : fns i_laws_toTreeEdit = some fa_laws_toTreeEdit := rfl
@[simp] theorem c_laws_toTreeEdit (args : List PV) (σ : List AObj) : callM fns (ev fns) i_laws_toTreeEdit args σ = callN fns i_laws_toTreeEdit args σ := callM_np n_laws_toTreeEdit rfl rfl
theorem n_laws_toTreeEditS : fns i_laws_toTreeEditS = some fa_laws_toTreeEditS := rfl
@[simp] theorem c_laws_toTreeEditS (args : List PV) (σ : List AObj) : callM fns (ev fns) i_laws_toTreeEditS args σ = callN fns i_laws_toTreeEditS args σ := callM_np n_laws_toTreeEditS rfl rfl
theorem n_slices_IndexFunc_L_impl_TreeEdit : fns i_slices_IndexFunc_L_impl_TreeEdit = some fa_slices_IndexFunc_L_impl_TreeEdit := rfl
@[simp] theorem c_slices_IndexFunc_L_impl_TreeEdit (args : List PV) (σ : List AObj) : callM fns (ev fns) i_slices_IndexFunc_L_impl_TreeEdit args σ = callN fns i_slices_IndexFunc_L_impl_TreeEdit args σ := callM_np n_slices_IndexFunc_L_impl_TreeEdit rfl rfl
theorem n_slices_ContainsFunc_L_impl_TreeEdit : fns i_slices_ContainsFunc_L_impl_TreeEdit = some fa_slices_ContainsFunc_L_impl_TreeEdit := rfl
@[simp] theorem c_slices_ContainsFunc_L_impl_TreeEdit (args : List PV) (σ : List AObj) : callM fns (ev fns) i_slices_ContainsFunc_L_impl_TreeEdit args σ = callN fns i_slices_ContainsFunc_L_impl_TreeEdit args σ := callM_np n_slices_ContainsFunc_L_impl_TreeEdit rfl rfl
theorem n_impl_treeFormOf : fns i_impl_treeFormOf = some fa_impl_treeFormOf := rfl
@[simp] theorem c_impl_treeFormOf (args : List PV) (σ : List AObj) : callM fns (ev fns) i_impl_treeFormOf args σ = callN fns i_impl_treeFormOf args σ := callM_np n_impl_treeFormOf rfl rfl
theorem n_impl_isCall : fns i_impl_isCall = some fa_impl_isCall := rfl
@[simp] theorem c_impl_isCall (args : List PV) (σ : List AObj) : callM fns (ev fns) i_impl_isCall args σ = callN fns i_impl_isCall args σ := callM_np n_impl_isCall rfl rfl
theorem n_impl_size_int64 : fns i_impl_size_int64 = some fa_impl_size_int64 := rfl
@[simp] theorem c_impl_size_int64 (args : List PV) (σ : List AObj) : callM fns (ev fns) i_impl_size_int64 args σ = callN fns i_impl_size_int64 args σ := callM_np n_impl_size_int64 rfl rfl
theorem n_impl_isReturn : fns i_impl_isReturn = some fa_impl_isReturn := rfl
@[simp] theorem c_impl_isReturn (args : List PV) (σ : List AObj) : callM fns (ev fns) i_impl_isReturn args σ = callN fns i_impl_isReturn args σ := callM_np n_impl_isReturn rfl rfl
theorem n_impl_match : fns i_impl_match = some fa_impl_match := rfl
@[simp] theorem c_impl_match (args : List PV) (σ : List AObj) : callM fns (ev fns) i_impl_match args σ = callN fns i_impl_match args σ := callM_np n_impl_match rfl rfl
theorem n_impl_isMatched : fns i_impl_isMatched = some fa_impl_isMatched := rfl
@[simp] theorem c_impl_isMatched (args : List PV) (σ : List AObj) : callM fns (ev fns) i_impl_isMatched args σ = callN fns i_impl_isMatched args σ := callM_np n_impl_isMatched rfl rfl
theorem n_impl_isBrackets : fns i_impl_isBrackets = some fa_impl_isBrackets := rfl
@[simp] theorem c_impl_isBrackets (args : List PV) (σ : List AObj) : callM fns (ev fns) i_impl_isBrackets args σ = callN fns i_impl_isBrackets args σ := callM_np n_impl_isBrackets rfl rfl
theorem n_impl_ValidTreeEdit : fns i_impl_ValidTreeEdit = some fa_impl_ValidTreeEdit := rfl
@[simp] theorem c_impl_ValidTreeEdit (args : List PV) (σ : List AObj) : callM fns (ev fns) i_impl_ValidTreeEdit args σ = callN fns i_impl_ValidTreeEdit args σ := callM_np n_impl_ValidTreeEdit rfl rfl
theorem n_impl_EditTrees_1 : fns i_impl_EditTrees_1 = some fa_impl_EditTrees_1 := rfl
@[simp] theorem c_impl_EditTrees_1 (args : List PV) (σ : List AObj) : callM fns (ev fns) i_impl_EditTrees_1 args σ = callN fns i_impl_EditTrees_1 args σ := callM_np n_impl_EditTrees_1 rfl rfl
theorem n_impl_bodyAt : fns i_impl_bodyAt = some fa_impl_bodyAt := rfl
@[simp] theorem c_impl_bodyAt (args : List PV) (σ : List AObj) : callM fns (ev fns) i_impl_bodyAt args σ = callN fns i_impl_bodyAt args σ := callM_np n_impl_bodyAt rfl rfl
theorem n_impl_orLimit : fns i_impl_orLimit = some fa_impl_orLimit := rfl
@[simp] theorem c_impl_orLimit (args : List PV) (σ : List AObj) : callM fns (ev fns) i_impl_orLimit args σ = callN fns i_impl_orLimit args σ := callM_np n_impl_orLimit rfl rfl
theorem n_impl_PutAt : fns i_impl_PutAt = some fa_impl_PutAt := rfl
@[simp] theorem c_impl_PutAt (args : List PV) (σ : List AObj) : callM fns (ev fns) i_impl_PutAt args σ = callN fns i_impl_PutAt args σ := callM_np n_impl_PutAt rfl rfl
theorem n_impl_CutMatched : fns i_impl_CutMatched = some fa_impl_CutMatched := rfl
@[simp] theorem c_impl_CutMatched (args : List PV) (σ : List AObj) : callM fns (ev fns) i_impl_CutMatched args σ = callN fns i_impl_CutMatched args σ := callM_np n_impl_CutMatched rfl rfl
theorem n_impl_editTree : fns i_impl_editTree = some fa_impl_editTree := rfl
@[simp] theorem c_impl_editTree (args : List PV) (σ : List AObj) : callM fns (ev fns) i_impl_editTree args σ = callN fns i_impl_editTree args σ := callM_np n_impl_editTree rfl rfl
theorem n_impl_EditTrees : fns i_impl_EditTrees = some fa_impl_EditTrees := rfl
@[simp] theorem c_impl_EditTrees (args : List PV) (σ : List AObj) : callM fns (ev fns) i_impl_EditTrees args σ = callN fns i_impl_EditTrees args σ := callM_np n_impl_EditTrees rfl rfl
theorem n_laws_eqTreeEdit : fns i_laws_eqTreeEdit = some fa_laws_eqTreeEdit := rfl
@[simp] theorem c_laws_eqTreeEdit (args : List PV) (σ : List AObj) : callM fns (ev fns) i_laws_eqTreeEdit args σ = callN fns i_laws_eqTreeEdit args σ := callM_np n_laws_eqTreeEdit rfl rfl
theorem n_laws_eqTreeEditS : fns i_laws_eqTreeEditS = some fa_laws_eqTreeEditS := rfl
@[simp] theorem c_laws_eqTreeEditS (args : List PV) (σ : List AObj) : callM fns (ev fns) i_laws_eqTreeEditS args σ = callN fns i_laws_eqTreeEditS args σ := callM_np n_laws_eqTreeEditS rfl rfl
theorem n_laws_FnExactEditTrees : fns i_laws_FnExactEditTrees = some fa_laws_FnExactEditTrees := rfl
@[simp] theorem c_laws_FnExactEditTrees (args : List PV) (σ : List AObj) : callM fns (ev fns) i_laws_FnExactEditTrees args σ = callN fns i_laws_FnExactEditTrees args σ := callM_np n_laws_FnExactEditTrees rfl rfl
theorem n_spec_l06Given : fns i_spec_l06Given = some fa_spec_l06Given := rfl
@[simp] theorem c_spec_l06Given (args : List PV) (σ : List AObj) : callM fns (ev fns) i_spec_l06Given args σ = callN fns i_spec_l06Given args σ := callM_np n_spec_l06Given rfl rfl
theorem n_spec_l01Factors : fns i_spec_l01Factors = some fa_spec_l01Factors := rfl
@[simp] theorem c_spec_l01Factors (args : List PV) (σ : List AObj) : callM fns (ev fns) i_spec_l01Factors args σ = callN fns i_spec_l01Factors args σ := callM_np n_spec_l01Factors rfl rfl
theorem n_spec_UndoTreeEdit : fns i_spec_UndoTreeEdit = some fa_spec_UndoTreeEdit := rfl
@[simp] theorem c_spec_UndoTreeEdit (args : List PV) (σ : List AObj) : callM fns (ev fns) i_spec_UndoTreeEdit args σ = callN fns i_spec_UndoTreeEdit args σ := callM_np n_spec_UndoTreeEdit rfl rfl
theorem n_impl_EditTree : fns i_impl_EditTree = some fa_impl_EditTree := rfl
@[simp] theorem c_impl_EditTree (args : List PV) (σ : List AObj) : callM fns (ev fns) i_impl_EditTree args σ = callN fns i_impl_EditTree args σ := callM_np n_impl_EditTree rfl rfl
theorem n_impl_factors : fns i_impl_factors = some fa_impl_factors := rfl
@[simp] theorem c_impl_factors (args : List PV) (σ : List AObj) : callM fns (ev fns) i_impl_factors args σ = callN fns i_impl_factors args σ := callM_np n_impl_factors rfl rfl
theorem n_impl_UndoTreeEdit : fns i_impl_UndoTreeEdit = some fa_impl_UndoTreeEdit := rfl
@[simp] theorem c_impl_UndoTreeEdit (args : List PV) (σ : List AObj) : callM fns (ev fns) i_impl_UndoTreeEdit args σ = callN fns i_impl_UndoTreeEdit args σ := callM_np n_impl_UndoTreeEdit rfl rfl
theorem n_laws_FnExactUndoTreeEdit : fns i_laws_FnExactUndoTreeEdit = some fa_laws_FnExactUndoTreeEdit := rfl
@[simp] theorem c_laws_FnExactUndoTreeEdit (args : List PV) (σ : List AObj) : callM fns (ev fns) i_laws_FnExactUndoTreeEdit args σ = callN fns i_laws_FnExactUndoTreeEdit args σ := callM_np n_laws_FnExactUndoTreeEdit rfl rfl
theorem n_spec_l06Has : fns i_spec_l06Has = some fa_spec_l06Has := rfl
@[simp] theorem c_spec_l06Has (args : List PV) (σ : List AObj) : callM fns (ev fns) i_spec_l06Has args σ = callN fns i_spec_l06Has args σ := callM_np n_spec_l06Has rfl rfl
theorem n_spec_l06Structural : fns i_spec_l06Structural = some fa_spec_l06Structural := rfl
@[simp] theorem c_spec_l06Structural (args : List PV) (σ : List AObj) : callM fns (ev fns) i_spec_l06Structural args σ = callN fns i_spec_l06Structural args σ := callM_np n_spec_l06Structural rfl rfl
theorem n_spec_IsStructural : fns i_spec_IsStructural = some fa_spec_IsStructural := rfl
@[simp] theorem c_spec_IsStructural (args : List PV) (σ : List AObj) : callM fns (ev fns) i_spec_IsStructural args σ = callN fns i_spec_IsStructural args σ := callM_np n_spec_IsStructural rfl rfl
theorem n_impl_isPending : fns i_impl_isPending = some fa_impl_isPending := rfl
@[simp] theorem c_impl_isPending (args : List PV) (σ : List AObj) : callM fns (ev fns) i_impl_isPending args σ = callN fns i_impl_isPending args σ := callM_np n_impl_isPending rfl rfl
theorem n_impl_Rewriter_isStructural_1 : fns i_impl_Rewriter_isStructural_1 = some fa_impl_Rewriter_isStructural_1 := rfl
@[simp] theorem c_impl_Rewriter_isStructural_1 (args : List PV) (σ : List AObj) : callM fns (ev fns) i_impl_Rewriter_isStructural_1 args σ = callN fns i_impl_Rewriter_isStructural_1 args σ := callM_np n_impl_Rewriter_isStructural_1 rfl rfl
theorem n_impl_Rewriter_isStructural : fns i_impl_Rewriter_isStructural = some fa_impl_Rewriter_isStructural := rfl
@[simp] theorem c_impl_Rewriter_isStructural (args : List PV) (σ : List AObj) : callM fns (ev fns) i_impl_Rewriter_isStructural args σ = callN fns i_impl_Rewriter_isStructural args σ := callM_np n_impl_Rewriter_isStructural rfl rfl
theorem n_impl_IsStructural : fns i_impl_IsStructural = some fa_impl_IsStructural := rfl
@[simp] theorem c_impl_IsStructural (args : List PV) (σ : List AObj) : callM fns (ev fns) i_impl_IsStructural args σ = callN fns i_impl_IsStructural args σ := callM_np n_impl_IsStructural rfl rfl
theorem n_laws_FnExactIsStructural : fns i_laws_FnExactIsStructural = some fa_laws_FnExactIsStructural := rfl
@[simp] theorem c_laws_FnExactIsStructural (args : List PV) (σ : List AObj) : callM fns (ev fns) i_laws_FnExactIsStructural args σ = callN fns i_laws_FnExactIsStructural args σ := callM_np n_laws_FnExactIsStructural rfl rfl
theorem n_spec_l00Own : fns i_spec_l00Own = some fa_spec_l00Own := rfl
@[simp] theorem c_spec_l00Own (args : List PV) (σ : List AObj) : callM fns (ev fns) i_spec_l00Own args σ = callN fns i_spec_l00Own args σ := callM_np n_spec_l00Own rfl rfl
theorem n_P_spec_l06Run_read : fns i_P_spec_l06Run_read = some fa_P_spec_l06Run_read := rfl
@[simp] theorem c_P_spec_l06Run_read (args : List PV) (σ : List AObj) : callM fns (ev fns) i_P_spec_l06Run_read args σ = ev fns i_P_spec_l06Run_read args σ := by simp [callM, n_P_spec_l06Run_read, fa_P_spec_l06Run_read]
theorem n_spec_l06Reads : fns i_spec_l06Reads = some fa_spec_l06Reads := rfl
@[simp] theorem c_spec_l06Reads (args : List PV) (σ : List AObj) : callM fns (ev fns) i_spec_l06Reads args σ = callN fns i_spec_l06Reads args σ := callM_np n_spec_l06Reads rfl rfl
theorem n_spec_Rewrite : fns i_spec_Rewrite = some fa_spec_Rewrite := rfl
@[simp] theorem c_spec_Rewrite (args : List PV) (σ : List AObj) : callM fns (ev fns) i_spec_Rewrite args σ = callN fns i_spec_Rewrite args σ := callM_np n_spec_Rewrite rfl rfl
theorem n_slices_Clone_L_int64 : fns i_slices_Clone_L_int64 = some fa_slices_Clone_L_int64 := rfl
@[simp] theorem c_slices_Clone_L_int64 (args : List PV) (σ : List AObj) : callM fns (ev fns) i_slices_Clone_L_int64 args σ = callN fns i_slices_Clone_L_int64 args σ := callM_np n_slices_Clone_L_int64 rfl rfl
theorem n_impl_kindOf : fns i_impl_kindOf = some fa_impl_kindOf := rfl
@[simp] theorem c_impl_kindOf (args : List PV) (σ : List AObj) : callM fns (ev fns) i_impl_kindOf args σ = callN fns i_impl_kindOf args σ := callM_np n_impl_kindOf rfl rfl
theorem n_impl_isInner : fns i_impl_isInner = some fa_impl_isInner := rfl
@[simp] theorem c_impl_isInner (args : List PV) (σ : List AObj) : callM fns (ev fns) i_impl_isInner args σ = callN fns i_impl_isInner args σ := callM_np n_impl_isInner rfl rfl
theorem n_P_strings_Builder_WriteString : fns i_P_strings_Builder_WriteString = some fa_P_strings_Builder_WriteString := rfl
@[simp] theorem c_P_strings_Builder_WriteString (args : List PV) (σ : List AObj) : callM fns (ev fns) i_P_strings_Builder_WriteString args σ = ev fns i_P_strings_Builder_WriteString args σ := by simp [callM, n_P_strings_Builder_WriteString, fa_P_strings_Builder_WriteString]
theorem n_impl_Rewriter_rewrite : fns i_impl_Rewriter_rewrite = some fa_impl_Rewriter_rewrite := rfl
@[simp] theorem c_impl_Rewriter_rewrite (args : List PV) (σ : List AObj) : callM fns (ev fns) i_impl_Rewriter_rewrite args σ = callN fns i_impl_Rewriter_rewrite args σ := callM_np n_impl_Rewriter_rewrite rfl rfl
theorem n_impl_Rewrite : fns i_impl_Rewrite = some fa_impl_Rewrite := rfl
@[simp] theorem c_impl_Rewrite (args : List PV) (σ : List AObj) : callM fns (ev fns) i_impl_Rewrite args σ = callN fns i_impl_Rewrite args σ := callM_np n_impl_Rewrite rfl rfl
theorem n_laws_FnExactRewrite : fns i_laws_FnExactRewrite = some fa_laws_FnExactRewrite := rfl
@[simp] theorem c_laws_FnExactRewrite (args : List PV) (σ : List AObj) : callM fns (ev fns) i_laws_FnExactRewrite args σ = callN fns i_laws_FnExactRewrite args σ := callM_np n_laws_FnExactRewrite rfl rfl
theorem n_laws_szBoolS : fns i_laws_szBoolS = some fa_laws_szBoolS := rfl
@[simp] theorem c_laws_szBoolS (args : List PV) (σ : List AObj) : callM fns (ev fns) i_laws_szBoolS args σ = callN fns i_laws_szBoolS args σ := callM_np n_laws_szBoolS rfl rfl
theorem n_laws_szPushS : fns i_laws_szPushS = some fa_laws_szPushS := rfl
@[simp] theorem c_laws_szPushS (args : List PV) (σ : List AObj) : callM fns (ev fns) i_laws_szPushS args σ = callN fns i_laws_szPushS args σ := callM_np n_laws_szPushS rfl rfl
theorem n_laws_szPushSS : fns i_laws_szPushSS = some fa_laws_szPushSS := rfl
@[simp] theorem c_laws_szPushSS (args : List PV) (σ : List AObj) : callM fns (ev fns) i_laws_szPushSS args σ = callN fns i_laws_szPushSS args σ := callM_np n_laws_szPushSS rfl rfl
theorem n_laws_szInt64S : fns i_laws_szInt64S = some fa_laws_szInt64S := rfl
@[simp] theorem c_laws_szInt64S (args : List PV) (σ : List AObj) : callM fns (ev fns) i_laws_szInt64S args σ = callN fns i_laws_szInt64S args σ := callM_np n_laws_szInt64S rfl rfl
theorem n_laws_szInt64SS : fns i_laws_szInt64SS = some fa_laws_szInt64SS := rfl
@[simp] theorem c_laws_szInt64SS (args : List PV) (σ : List AObj) : callM fns (ev fns) i_laws_szInt64SS args σ = callN fns i_laws_szInt64SS args σ := callM_np n_laws_szInt64SS rfl rfl
theorem n_laws_szInt64SSS : fns i_laws_szInt64SSS = some fa_laws_szInt64SSS := rfl
@[simp] theorem c_laws_szInt64SSS (args : List PV) (σ : List AObj) : callM fns (ev fns) i_laws_szInt64SSS args σ = callN fns i_laws_szInt64SSS args σ := callM_np n_laws_szInt64SSS rfl rfl
theorem n_laws_szChecker : fns i_laws_szChecker = some fa_laws_szChecker := rfl
@[simp] theorem c_laws_szChecker (args : List PV) (σ : List AObj) : callM fns (ev fns) i_laws_szChecker args σ = callN fns i_laws_szChecker args σ := callM_np n_laws_szChecker rfl rfl
theorem n_spec_l02List : fns i_spec_l02List = some fa_spec_l02List := rfl
@[simp] theorem c_spec_l02List (args : List PV) (σ : List AObj) : callM fns (ev fns) i_spec_l02List args σ = callN fns i_spec_l02List args σ := callM_np n_spec_l02List rfl rfl
theorem n_spec_l02Ok : fns i_spec_l02Ok = some fa_spec_l02Ok := rfl
@[simp] theorem c_spec_l02Ok (args : List PV) (σ : List AObj) : callM fns (ev fns) i_spec_l02Ok args σ = callN fns i_spec_l02Ok args σ := callM_np n_spec_l02Ok rfl rfl
theorem n_spec_l02Given : fns i_spec_l02Given = some fa_spec_l02Given := rfl
@[simp] theorem c_spec_l02Given (args : List PV) (σ : List AObj) : callM fns (ev fns) i_spec_l02Given args σ = callN fns i_spec_l02Given args σ := callM_np n_spec_l02Given rfl rfl
theorem n_spec_l02Step : fns i_spec_l02Step = some fa_spec_l02Step := rfl
@[simp] theorem c_spec_l02Step (args : List PV) (σ : List AObj) : callM fns (ev fns) i_spec_l02Step args σ = callT fns [.any, .any, (.lst 1 .any), .any] i_spec_l02Step args σ := callM_ty n_spec_l02Step rfl
theorem n_spec_l02Go : fns i_spec_l02Go = some fa_spec_l02Go := rfl
@[simp] theorem c_spec_l02Go (args : List PV) (σ : List AObj) : callM fns (ev fns) i_spec_l02Go args σ = callT fns [.any, .any, (.lst 1 .any), .any] i_spec_l02Go args σ := callM_ty n_spec_l02Go rfl
theorem n_spec_l02Takes : fns i_spec_l02Takes = some fa_spec_l02Takes := rfl
@[simp] theorem c_spec_l02Takes (args : List PV) (σ : List AObj) : callM fns (ev fns) i_spec_l02Takes args σ = callN fns i_spec_l02Takes args σ := callM_np n_spec_l02Takes rfl rfl
theorem n_spec_Takes : fns i_spec_Takes = some fa_spec_Takes := rfl
@[simp] theorem c_spec_Takes (args : List PV) (σ : List AObj) : callM fns (ev fns) i_spec_Takes args σ = callN fns i_spec_Takes args σ := callM_np n_spec_Takes rfl rfl
theorem n_laws_toBoolS : fns i_laws_toBoolS = some fa_laws_toBoolS := rfl
@[simp] theorem c_laws_toBoolS (args : List PV) (σ : List AObj) : callM fns (ev fns) i_laws_toBoolS args σ = callN fns i_laws_toBoolS args σ := callM_np n_laws_toBoolS rfl rfl
theorem n_laws_toPush : fns i_laws_toPush = some fa_laws_toPush := rfl
@[simp] theorem c_laws_toPush (args : List PV) (σ : List AObj) : callM fns (ev fns) i_laws_toPush args σ = callN fns i_laws_toPush args σ := callM_np n_laws_toPush rfl rfl
theorem n_laws_toPushS : fns i_laws_toPushS = some fa_laws_toPushS := rfl
@[simp] theorem c_laws_toPushS (args : List PV) (σ : List AObj) : callM fns (ev fns) i_laws_toPushS args σ = callN fns i_laws_toPushS args σ := callM_np n_laws_toPushS rfl rfl
theorem n_laws_toPushSS : fns i_laws_toPushSS = some fa_laws_toPushSS := rfl
@[simp] theorem c_laws_toPushSS (args : List PV) (σ : List AObj) : callM fns (ev fns) i_laws_toPushSS args σ = callN fns i_laws_toPushSS args σ := callM_np n_laws_toPushSS rfl rfl
theorem n_laws_toInt64S : fns i_laws_toInt64S = some fa_laws_toInt64S := rfl
@[simp] theorem c_laws_toInt64S (args : List PV) (σ : List AObj) : callM fns (ev fns) i_laws_toInt64S args σ = callN fns i_laws_toInt64S args σ := callM_np n_laws_toInt64S rfl rfl
theorem n_laws_toInt64SS : fns i_laws_toInt64SS = some fa_laws_toInt64SS := rfl
@[simp] theorem c_laws_toInt64SS (args : List PV) (σ : List AObj) : callM fns (ev fns) i_laws_toInt64SS args σ = callN fns i_laws_toInt64SS args σ := callM_np n_laws_toInt64SS rfl rfl
theorem n_laws_toInt64SSS : fns i_laws_toInt64SSS = some fa_laws_toInt64SSS := rfl
@[simp] theorem c_laws_toInt64SSS (args : List PV) (σ : List AObj) : callM fns (ev fns) i_laws_toInt64SSS args σ = callN fns i_laws_toInt64SSS args σ := callM_np n_laws_toInt64SSS rfl rfl
theorem n_laws_toChecker : fns i_laws_toChecker = some fa_laws_toChecker := rfl
@[simp] theorem c_laws_toChecker (args : List PV) (σ : List AObj) : callM fns (ev fns) i_laws_toChecker args σ = callN fns i_laws_toChecker args σ := callM_np n_laws_toChecker rfl rfl
theorem n_impl_size_bool : fns i_impl_size_bool = some fa_impl_size_bool := rfl
@[simp] theorem c_impl_size_bool (args : List PV) (σ : List AObj) : callM fns (ev fns) i_impl_size_bool args σ = callN fns i_impl_size_bool args σ := callM_np n_impl_size_bool rfl rfl
theorem n_impl_Checker_isState : fns i_impl_Checker_isState = some fa_impl_Checker_isState := rfl
@[simp] theorem c_impl_Checker_isState (args : List PV) (σ : List AObj) : callM fns (ev fns) i_impl_Checker_isState args σ = callN fns i_impl_Checker_isState args σ := callM_np n_impl_Checker_isState rfl rfl
theorem n_impl_size_L_impl_Push : fns i_impl_size_L_impl_Push = some fa_impl_size_L_impl_Push := rfl
@[simp] theorem c_impl_size_L_impl_Push (args : List PV) (σ : List AObj) : callM fns (ev fns) i_impl_size_L_impl_Push args σ = callN fns i_impl_size_L_impl_Push args σ := callM_np n_impl_size_L_impl_Push rfl rfl
theorem n_impl_size_L_L_int64 : fns i_impl_size_L_L_int64 = some fa_impl_size_L_L_int64 := rfl
@[simp] theorem c_impl_size_L_L_int64 (args : List PV) (σ : List AObj) : callM fns (ev fns) i_impl_size_L_L_int64 args σ = callN fns i_impl_size_L_L_int64 args σ := callM_np n_impl_size_L_L_int64 rfl rfl
theorem n_impl_size_L_int64 : fns i_impl_size_L_int64 = some fa_impl_size_L_int64 := rfl
@[simp] theorem c_impl_size_L_int64 (args : List PV) (σ : List AObj) : callM fns (ev fns) i_impl_size_L_int64 args σ = callN fns i_impl_size_L_int64 args σ := callM_np n_impl_size_L_int64 rfl rfl
theorem n_slices_IndexFunc_L_int64 : fns i_slices_IndexFunc_L_int64 = some fa_slices_IndexFunc_L_int64 := rfl
@[simp] theorem c_slices_IndexFunc_L_int64 (args : List PV) (σ : List AObj) : callM fns (ev fns) i_slices_IndexFunc_L_int64 args σ = callN fns i_slices_IndexFunc_L_int64 args σ := callM_np n_slices_IndexFunc_L_int64 rfl rfl
theorem n_slices_ContainsFunc_L_int64 : fns i_slices_ContainsFunc_L_int64 = some fa_slices_ContainsFunc_L_int64 := rfl
@[simp] theorem c_slices_ContainsFunc_L_int64 (args : List PV) (σ : List AObj) : callM fns (ev fns) i_slices_ContainsFunc_L_int64 args σ = callN fns i_slices_ContainsFunc_L_int64 args σ := callM_np n_slices_ContainsFunc_L_int64 rfl rfl
theorem n_impl_ValidChecker_1_1 : fns i_impl_ValidChecker_1_1 = some fa_impl_ValidChecker_1_1 := rfl
@[simp] theorem c_impl_ValidChecker_1_1 (args : List PV) (σ : List AObj) : callM fns (ev fns) i_impl_ValidChecker_1_1 args σ = callN fns i_impl_ValidChecker_1_1 args σ := callM_np n_impl_ValidChecker_1_1 rfl rfl
theorem n_impl_ValidChecker_1 : fns i_impl_ValidChecker_1 = some fa_impl_ValidChecker_1 := rfl
@[simp] theorem c_impl_ValidChecker_1 (args : List PV) (σ : List AObj) : callM fns (ev fns) i_impl_ValidChecker_1 args σ = callN fns i_impl_ValidChecker_1 args σ := callM_np n_impl_ValidChecker_1 rfl rfl
theorem n_impl_Checker_isMark : fns i_impl_Checker_isMark = some fa_impl_Checker_isMark := rfl
@[simp] theorem c_impl_Checker_isMark (args : List PV) (σ : List AObj) : callM fns (ev fns) i_impl_Checker_isMark args σ = callN fns i_impl_Checker_isMark args σ := callM_np n_impl_Checker_isMark rfl rfl
theorem n_impl_ValidChecker : fns i_impl_ValidChecker = some fa_impl_ValidChecker := rfl
@[simp] theorem c_impl_ValidChecker (args : List PV) (σ : List AObj) : callM fns (ev fns) i_impl_ValidChecker args σ = callN fns i_impl_ValidChecker args σ := callM_np n_impl_ValidChecker rfl rfl
theorem n_impl_Checker_step : fns i_impl_Checker_step = some fa_impl_Checker_step := rfl
@[simp] theorem c_impl_Checker_step (args : List PV) (σ : List AObj) : callM fns (ev fns) i_impl_Checker_step args σ = callT fns [.any, .any, (.lst 1 .any), .any] i_impl_Checker_step args σ := callM_ty n_impl_Checker_step rfl
theorem n_impl_Checker_run : fns i_impl_Checker_run = some fa_impl_Checker_run := rfl
@[simp] theorem c_impl_Checker_run (args : List PV) (σ : List AObj) : callM fns (ev fns) i_impl_Checker_run args σ = ev fns i_impl_Checker_run args σ := by simp [callM, n_impl_Checker_run, fa_impl_Checker_run]
theorem n_impl_Checker_end_1 : fns i_impl_Checker_end_1 = some fa_impl_Checker_end_1 := rfl
@[simp] theorem c_impl_Checker_end_1 (args : List PV) (σ : List AObj) : callM fns (ev fns) i_impl_Checker_end_1 args σ = ev fns i_impl_Checker_end_1 args σ := by simp [callM, n_impl_Checker_end_1, fa_impl_Checker_end_1]
theorem n_impl_Checker_end : fns i_impl_Checker_end = some fa_impl_Checker_end := rfl
@[simp] theorem c_impl_Checker_end (args : List PV) (σ : List AObj) : callM fns (ev fns) i_impl_Checker_end args σ = callT fns [.any, .any, (.lst 1 .any), .any] i_impl_Checker_end args σ := callM_ty n_impl_Checker_end rfl
theorem n_impl_Checker_takes : fns i_impl_Checker_takes = some fa_impl_Checker_takes := rfl
@[simp] theorem c_impl_Checker_takes (args : List PV) (σ : List AObj) : callM fns (ev fns) i_impl_Checker_takes args σ = callN fns i_impl_Checker_takes args σ := callM_np n_impl_Checker_takes rfl rfl
theorem n_impl_Takes : fns i_impl_Takes = some fa_impl_Takes := rfl
@[simp] theorem c_impl_Takes (args : List PV) (σ : List AObj) : callM fns (ev fns) i_impl_Takes args σ = callN fns i_impl_Takes args σ := callM_np n_impl_Takes rfl rfl
theorem n_laws_eqInt64S : fns i_laws_eqInt64S = some fa_laws_eqInt64S := rfl
@[simp] theorem c_laws_eqInt64S (args : List PV) (σ : List AObj) : callM fns (ev fns) i_laws_eqInt64S args σ = callN fns i_laws_eqInt64S args σ := callM_np n_laws_eqInt64S rfl rfl
theorem n_laws_eqInt64SS : fns i_laws_eqInt64SS = some fa_laws_eqInt64SS := rfl
@[simp] theorem c_laws_eqInt64SS (args : List PV) (σ : List AObj) : callM fns (ev fns) i_laws_eqInt64SS args σ = callN fns i_laws_eqInt64SS args σ := callM_np n_laws_eqInt64SS rfl rfl
theorem n_laws_eqBoolS : fns i_laws_eqBoolS = some fa_laws_eqBoolS := rfl
@[simp] theorem c_laws_eqBoolS (args : List PV) (σ : List AObj) : callM fns (ev fns) i_laws_eqBoolS args σ = callN fns i_laws_eqBoolS args σ := callM_np n_laws_eqBoolS rfl rfl
theorem n_laws_eqPush : fns i_laws_eqPush = some fa_laws_eqPush := rfl
@[simp] theorem c_laws_eqPush (args : List PV) (σ : List AObj) : callM fns (ev fns) i_laws_eqPush args σ = callN fns i_laws_eqPush args σ := callM_np n_laws_eqPush rfl rfl
theorem n_laws_eqPushS : fns i_laws_eqPushS = some fa_laws_eqPushS := rfl
@[simp] theorem c_laws_eqPushS (args : List PV) (σ : List AObj) : callM fns (ev fns) i_laws_eqPushS args σ = callN fns i_laws_eqPushS args σ := callM_np n_laws_eqPushS rfl rfl
theorem n_laws_eqPushSS : fns i_laws_eqPushSS = some fa_laws_eqPushSS := rfl
@[simp] theorem c_laws_eqPushSS (args : List PV) (σ : List AObj) : callM fns (ev fns) i_laws_eqPushSS args σ = callN fns i_laws_eqPushSS args σ := callM_np n_laws_eqPushSS rfl rfl
theorem n_laws_eqInt64SSS : fns i_laws_eqInt64SSS = some fa_laws_eqInt64SSS := rfl
@[simp] theorem c_laws_eqInt64SSS (args : List PV) (σ : List AObj) : callM fns (ev fns) i_laws_eqInt64SSS args σ = callN fns i_laws_eqInt64SSS args σ := callM_np n_laws_eqInt64SSS rfl rfl
theorem n_laws_eqChecker : fns i_laws_eqChecker = some fa_laws_eqChecker := rfl
@[simp] theorem c_laws_eqChecker (args : List PV) (σ : List AObj) : callM fns (ev fns) i_laws_eqChecker args σ = callN fns i_laws_eqChecker args σ := callM_np n_laws_eqChecker rfl rfl
theorem n_laws_FnExactTakes : fns i_laws_FnExactTakes = some fa_laws_FnExactTakes := rfl
@[simp] theorem c_laws_FnExactTakes (args : List PV) (σ : List AObj) : callM fns (ev fns) i_laws_FnExactTakes args σ = callN fns i_laws_FnExactTakes args σ := callM_np n_laws_FnExactTakes rfl rfl
@[simp] theorem nt_laws_szOutPush : fa_laws_szOutPush.nt = 13 := rfl
@[simp] theorem rs_laws_szOutPush : fa_laws_szOutPush.rs = [.tmp 4] := rfl
@[simp] theorem fz_laws_szOutPush : fa_laws_szOutPush.fz = true := rfl
@[simp] theorem rsh_laws_szOutPush : fa_laws_szOutPush.rsh = .any := rfl
theorem go_laws_szOutPush {args : List PV} {σ : List AObj} {r : PV × List AObj} (hl : args.length ≤ 13) (h : rE fns fa_laws_szOutPush σ.length [.code ac_laws_szOutPush] (frA 0 args) σ = some r) : ev fns i_laws_szOutPush args σ = some r := ev_go n_laws_szOutPush hl h
@[simp] theorem nt_laws_szOutPushS : fa_laws_szOutPushS.nt = 27 := rfl
@[simp] theorem rs_laws_szOutPushS : fa_laws_szOutPushS.rs = [.tmp 4] := rfl
@[simp] theorem fz_laws_szOutPushS : fa_laws_szOutPushS.fz = true := rfl
@[simp] theorem rsh_laws_szOutPushS : fa_laws_szOutPushS.rsh = .any := rfl
theorem go_laws_szOutPushS {args : List PV} {σ : List AObj} {r : PV × List AObj} (hl : args.length ≤ 27) (h : rE fns fa_laws_szOutPushS σ.length [.code ac_laws_szOutPushS] (frA 0 args) σ = some r) : ev fns i_laws_szOutPushS args σ = some r := ev_go n_laws_szOutPushS hl h
theorem l_laws_szOutPushS_0 {ks : List KI} {l : Fr} {σ : List AObj} {n0 : Nat} : rE fns fa_laws_szOutPushS n0 (.code lo_laws_szOutPushS_0 :: ks) l σ = rE fns fa_laws_szOutPushS n0 (.code lb_laws_szOutPushS_0 :: .code lo_laws_szOutPushS_0 :: ks) l σ := rE_loop
@[simp] theorem nt_laws_szOutPushSS : fa_laws_szOutPushSS.nt = 27 := rfl
@[simp] theorem rs_laws_szOutPushSS : fa_laws_szOutPushSS.rs = [.tmp 4] := rfl
@[simp] theorem fz_laws_szOutPushSS : fa_laws_szOutPushSS.fz = true := rfl
@[simp] theorem rsh_laws_szOutPushSS : fa_laws_szOutPushSS.rsh = .any := rfl
theorem go_laws_szOutPushSS {args : List PV} {σ : List AObj} {r : PV × List AObj} (hl : args.length ≤ 27) (h : rE fns fa_laws_szOutPushSS σ.length [.code ac_laws_szOutPushSS] (frA 0 args) σ = some r) : ev fns i_laws_szOutPushSS args σ = some r := ev_go n_laws_szOutPushSS hl h
theorem l_laws_szOutPushSS_0 {ks : List KI} {l : Fr} {σ : List AObj} {n0 : Nat} : rE fns fa_laws_szOutPushSS n0 (.code lo_laws_szOutPushSS_0 :: ks) l σ = rE fns fa_laws_szOutPushSS n0 (.code lb_laws_szOutPushSS_0 :: .code lo_laws_szOutPushSS_0 :: ks) l σ := rE_loop
@[simp] theorem nt_laws_szOutMove : fa_laws_szOutMove.nt = 13 := rfl
@[simp] theorem rs_laws_szOutMove : fa_laws_szOutMove.rs = [.tmp 4] := rfl
@[simp] theorem fz_laws_szOutMove : fa_laws_szOutMove.fz = true := rfl
@[simp] theorem rsh_laws_szOutMove : fa_laws_szOutMove.rsh = .any := rfl
theorem go_laws_szOutMove {args : List PV} {σ : List AObj} {r : PV × List AObj} (hl : args.length ≤ 13) (h : rE fns fa_laws_szOutMove σ.length [.code ac_laws_szOutMove] (frA 0 args) σ = some r) : ev fns i_laws_szOutMove args σ = some r := ev_go n_laws_szOutMove hl h
@[simp] theorem nt_laws_szOutMoveS : fa_laws_szOutMoveS.nt = 27 := rfl
@[simp] theorem rs_laws_szOutMoveS : fa_laws_szOutMoveS.rs = [.tmp 4] := rfl
@[simp] theorem fz_laws_szOutMoveS : fa_laws_szOutMoveS.fz = true := rfl
@[simp] theorem rsh_laws_szOutMoveS : fa_laws_szOutMoveS.rsh = .any := rfl
theorem go_laws_szOutMoveS {args : List PV} {σ : List AObj} {r : PV × List AObj} (hl : args.length ≤ 27) (h : rE fns fa_laws_szOutMoveS σ.length [.code ac_laws_szOutMoveS] (frA 0 args) σ = some r) : ev fns i_laws_szOutMoveS args σ = some r := ev_go n_laws_szOutMoveS hl h
theorem l_laws_szOutMoveS_0 {ks : List KI} {l : Fr} {σ : List AObj} {n0 : Nat} : rE fns fa_laws_szOutMoveS n0 (.code lo_laws_szOutMoveS_0 :: ks) l σ = rE fns fa_laws_szOutMoveS n0 (.code lb_laws_szOutMoveS_0 :: .code lo_laws_szOutMoveS_0 :: ks) l σ := rE_loop
@[simp] theorem nt_laws_szOutMoveSS : fa_laws_szOutMoveSS.nt = 27 := rfl
@[simp] theorem rs_laws_szOutMoveSS : fa_laws_szOutMoveSS.rs = [.tmp 4] := rfl
@[simp] theorem fz_laws_szOutMoveSS : fa_laws_szOutMoveSS.fz = true := rfl
@[simp] theorem rsh_laws_szOutMoveSS : fa_laws_szOutMoveSS.rsh = .any := rfl
theorem go_laws_szOutMoveSS {args : List PV} {σ : List AObj} {r : PV × List AObj} (hl : args.length ≤ 27) (h : rE fns fa_laws_szOutMoveSS σ.length [.code ac_laws_szOutMoveSS] (frA 0 args) σ = some r) : ev fns i_laws_szOutMoveSS args σ = some r := ev_go n_laws_szOutMoveSS hl h
theorem l_laws_szOutMoveSS_0 {ks : List KI} {l : Fr} {σ : List AObj} {n0 : Nat} : rE fns fa_laws_szOutMoveSS n0 (.code lo_laws_szOutMoveSS_0 :: ks) l σ = rE fns fa_laws_szOutMoveSS n0 (.code lb_laws_szOutMoveSS_0 :: .code lo_laws_szOutMoveSS_0 :: ks) l σ := rE_loop
@[simp] theorem nt_laws_szOutMoveSSS : fa_laws_szOutMoveSSS.nt = 27 := rfl
@[simp] theorem rs_laws_szOutMoveSSS : fa_laws_szOutMoveSSS.rs = [.tmp 4] := rfl
@[simp] theorem fz_laws_szOutMoveSSS : fa_laws_szOutMoveSSS.fz = true := rfl
@[simp] theorem rsh_laws_szOutMoveSSS : fa_laws_szOutMoveSSS.rsh = .any := rfl
theorem go_laws_szOutMoveSSS {args : List PV} {σ : List AObj} {r : PV × List AObj} (hl : args.length ≤ 27) (h : rE fns fa_laws_szOutMoveSSS σ.length [.code ac_laws_szOutMoveSSS] (frA 0 args) σ = some r) : ev fns i_laws_szOutMoveSSS args σ = some r := ev_go n_laws_szOutMoveSSS hl h
theorem l_laws_szOutMoveSSS_0 {ks : List KI} {l : Fr} {σ : List AObj} {n0 : Nat} : rE fns fa_laws_szOutMoveSSS n0 (.code lo_laws_szOutMoveSSS_0 :: ks) l σ = rE fns fa_laws_szOutMoveSSS n0 (.code lb_laws_szOutMoveSSS_0 :: .code lo_laws_szOutMoveSSS_0 :: ks) l σ := rE_loop
@[simp] theorem nt_laws_szRewriter : fa_laws_szRewriter.nt = 24 := rfl
@[simp] theorem rs_laws_szRewriter : fa_laws_szRewriter.rs = [.tmp 4] := rfl
@[simp] theorem fz_laws_szRewriter : fa_laws_szRewriter.fz = true := rfl
@[simp] theorem rsh_laws_szRewriter : fa_laws_szRewriter.rsh = .any := rfl
theorem go_laws_szRewriter {args : List PV} {σ : List AObj} {r : PV × List AObj} (hl : args.length ≤ 24) (h : rE fns fa_laws_szRewriter σ.length [.code ac_laws_szRewriter] (frA 0 args) σ = some r) : ev fns i_laws_szRewriter args σ = some r := ev_go n_laws_szRewriter hl h
@[simp] theorem nt_spec_l00In : fa_spec_l00In.nt = 15 := rfl
@[simp] theorem rs_spec_l00In : fa_spec_l00In.rs = [.tmp 6] := rfl
@[simp] theorem fz_spec_l00In : fa_spec_l00In.fz = true := rfl
@[simp] theorem rsh_spec_l00In : fa_spec_l00In.rsh = .any := rfl
theorem go_spec_l00In {args : List PV} {σ : List AObj} {r : PV × List AObj} (hl : args.length ≤ 15) (h : rE fns fa_spec_l00In σ.length [.code ac_spec_l00In] (frA 0 args) σ = some r) : ev fns i_spec_l00In args σ = some r := ev_go n_spec_l00In hl h
@[simp] theorem nt_spec_l01Symbol : fa_spec_l01Symbol.nt = 13 := rfl
@[simp] theorem rs_spec_l01Symbol : fa_spec_l01Symbol.rs = [.tmp 2] := rfl
@[simp] theorem fz_spec_l01Symbol : fa_spec_l01Symbol.fz = true := rfl
@[simp] theorem rsh_spec_l01Symbol : fa_spec_l01Symbol.rsh = .any := rfl
theorem go_spec_l01Symbol {args : List PV} {σ : List AObj} {r : PV × List AObj} (hl : args.length ≤ 13) (h : rE fns fa_spec_l01Symbol σ.length [.code ac_spec_l01Symbol] (frA 0 args) σ = some r) : ev fns i_spec_l01Symbol args σ = some r := ev_go n_spec_l01Symbol hl h
theorem l_spec_l01Symbol_0 {ks : List KI} {l : Fr} {σ : List AObj} {n0 : Nat} : rE fns fa_spec_l01Symbol n0 (.code lo_spec_l01Symbol_0 :: ks) l σ = rE fns fa_spec_l01Symbol n0 (.code lb_spec_l01Symbol_0 :: .code lo_spec_l01Symbol_0 :: ks) l σ := rE_loop
@[simp] theorem nt_spec_l01Ok : fa_spec_l01Ok.nt = 18 := rfl
@[simp] theorem rs_spec_l01Ok : fa_spec_l01Ok.rs = [.tmp 2] := rfl
@[simp] theorem fz_spec_l01Ok : fa_spec_l01Ok.fz = true := rfl
@[simp] theorem rsh_spec_l01Ok : fa_spec_l01Ok.rsh = .any := rfl
theorem go_spec_l01Ok {args : List PV} {σ : List AObj} {r : PV × List AObj} (hl : args.length ≤ 18) (h : rE fns fa_spec_l01Ok σ.length [.code ac_spec_l01Ok] (frA 0 args) σ = some r) : ev fns i_spec_l01Ok args σ = some r := ev_go n_spec_l01Ok hl h
theorem l_spec_l01Ok_0 {ks : List KI} {l : Fr} {σ : List AObj} {n0 : Nat} : rE fns fa_spec_l01Ok n0 (.code lo_spec_l01Ok_0 :: ks) l σ = rE fns fa_spec_l01Ok n0 (.code lb_spec_l01Ok_0 :: .code lo_spec_l01Ok_0 :: ks) l σ := rE_loop
@[simp] theorem nt_spec_l06Out : fa_spec_l06Out.nt = 10 := rfl
@[simp] theorem rs_spec_l06Out : fa_spec_l06Out.rs = [.tmp 2] := rfl
@[simp] theorem fz_spec_l06Out : fa_spec_l06Out.fz = true := rfl
@[simp] theorem rsh_spec_l06Out : fa_spec_l06Out.rsh = .any := rfl
theorem go_spec_l06Out {args : List PV} {σ : List AObj} {r : PV × List AObj} (hl : args.length ≤ 10) (h : rE fns fa_spec_l06Out σ.length [.code ac_spec_l06Out] (frA 0 args) σ = some r) : ev fns i_spec_l06Out args σ = some r := ev_go n_spec_l06Out hl h
@[simp] theorem nt_spec_l06Moves : fa_spec_l06Moves.nt = 36 := rfl
@[simp] theorem rs_spec_l06Moves : fa_spec_l06Moves.rs = [.tmp 6] := rfl
@[simp] theorem fz_spec_l06Moves : fa_spec_l06Moves.fz = true := rfl
@[simp] theorem rsh_spec_l06Moves : fa_spec_l06Moves.rsh = .any := rfl
theorem go_spec_l06Moves {args : List PV} {σ : List AObj} {r : PV × List AObj} (hl : args.length ≤ 36) (h : rE fns fa_spec_l06Moves σ.length [.code ac_spec_l06Moves] (frA 0 args) σ = some r) : ev fns i_spec_l06Moves args σ = some r := ev_go n_spec_l06Moves hl h
theorem l_spec_l06Moves_0 {ks : List KI} {l : Fr} {σ : List AObj} {n0 : Nat} : rE fns fa_spec_l06Moves n0 (.code lo_spec_l06Moves_0 :: ks) l σ = rE fns fa_spec_l06Moves n0 (.code lb_spec_l06Moves_0 :: .code lo_spec_l06Moves_0 :: ks) l σ := rE_loop
@[simp] theorem nt_spec_l06Ok : fa_spec_l06Ok.nt = 145 := rfl
@[simp] theorem rs_spec_l06Ok : fa_spec_l06Ok.rs = [.tmp 2] := rfl
@[simp] theorem fz_spec_l06Ok : fa_spec_l06Ok.fz = true := rfl
@[simp] theorem rsh_spec_l06Ok : fa_spec_l06Ok.rsh = .any := rfl
theorem go_spec_l06Ok {args : List PV} {σ : List AObj} {r : PV × List AObj} (hl : args.length ≤ 145) (h : rE fns fa_spec_l06Ok σ.length [.code ac_spec_l06Ok] (frA 0 args) σ = some r) : ev fns i_spec_l06Ok args σ = some r := ev_go n_spec_l06Ok hl h
theorem l_spec_l06Ok_0 {ks : List KI} {l : Fr} {σ : List AObj} {n0 : Nat} : rE fns fa_spec_l06Ok n0 (.code lo_spec_l06Ok_0 :: ks) l σ = rE fns fa_spec_l06Ok n0 (.code lb_spec_l06Ok_0 :: .code lo_spec_l06Ok_0 :: ks) l σ := rE_loop
theorem l_spec_l06Ok_1 {ks : List KI} {l : Fr} {σ : List AObj} {n0 : Nat} : rE fns fa_spec_l06Ok n0 (.code lo_spec_l06Ok_1 :: ks) l σ = rE fns fa_spec_l06Ok n0 (.code lb_spec_l06Ok_1 :: .code lo_spec_l06Ok_1 :: ks) l σ := rE_loop
@[simp] theorem nt_spec_ValidRewriter : fa_spec_ValidRewriter.nt = 4 := rfl
@[simp] theorem rs_spec_ValidRewriter : fa_spec_ValidRewriter.rs = [.tmp 2] := rfl
@[simp] theorem fz_spec_ValidRewriter : fa_spec_ValidRewriter.fz = true := rfl
@[simp] theorem rsh_spec_ValidRewriter : fa_spec_ValidRewriter.rsh = .any := rfl
theorem go_spec_ValidRewriter {args : List PV} {σ : List AObj} {r : PV × List AObj} (hl : args.length ≤ 4) (h : rE fns fa_spec_ValidRewriter σ.length [.code ac_spec_ValidRewriter] (frA 0 args) σ = some r) : ev fns i_spec_ValidRewriter args σ = some r := ev_go n_spec_ValidRewriter hl h
@[simp] theorem nt_laws_toOutPush : fa_laws_toOutPush.nt = 14 := rfl
@[simp] theorem rs_laws_toOutPush : fa_laws_toOutPush.rs = [.cell 2 3 true] := rfl
@[simp] theorem fz_laws_toOutPush : fa_laws_toOutPush.fz = true := rfl
@[simp] theorem rsh_laws_toOutPush : fa_laws_toOutPush.rsh = .any := rfl
theorem go_laws_toOutPush {args : List PV} {σ : List AObj} {r : PV × List AObj} (hl : args.length ≤ 14) (h : rE fns fa_laws_toOutPush σ.length [.code ac_laws_toOutPush] (frA 0 args) σ = some r) : ev fns i_laws_toOutPush args σ = some r := ev_go n_laws_toOutPush hl h
@[simp] theorem nt_laws_toOutPushS : fa_laws_toOutPushS.nt = 23 := rfl
@[simp] theorem rs_laws_toOutPushS : fa_laws_toOutPushS.rs = [.tmp 2] := rfl
@[simp] theorem fz_laws_toOutPushS : fa_laws_toOutPushS.fz = true := rfl
@[simp] theorem rsh_laws_toOutPushS : fa_laws_toOutPushS.rsh = .any := rfl
theorem go_laws_toOutPushS {args : List PV} {σ : List AObj} {r : PV × List AObj} (hl : args.length ≤ 23) (h : rE fns fa_laws_toOutPushS σ.length [.code ac_laws_toOutPushS] (frA 0 args) σ = some r) : ev fns i_laws_toOutPushS args σ = some r := ev_go n_laws_toOutPushS hl h
theorem l_laws_toOutPushS_0 {ks : List KI} {l : Fr} {σ : List AObj} {n0 : Nat} : rE fns fa_laws_toOutPushS n0 (.code lo_laws_toOutPushS_0 :: ks) l σ = rE fns fa_laws_toOutPushS n0 (.code lb_laws_toOutPushS_0 :: .code lo_laws_toOutPushS_0 :: ks) l σ := rE_loop
@[simp] theorem nt_laws_toOutPushSS : fa_laws_toOutPushSS.nt = 23 := rfl
@[simp] theorem rs_laws_toOutPushSS : fa_laws_toOutPushSS.rs = [.tmp 2] := rfl
@[simp] theorem fz_laws_toOutPushSS : fa_laws_toOutPushSS.fz = true := rfl
@[simp] theorem rsh_laws_toOutPushSS : fa_laws_toOutPushSS.rsh = .any := rfl
theorem go_laws_toOutPushSS {args : List PV} {σ : List AObj} {r : PV × List AObj} (hl : args.length ≤ 23) (h : rE fns fa_laws_toOutPushSS σ.length [.code ac_laws_toOutPushSS] (frA 0 args) σ = some r) : ev fns i_laws_toOutPushSS args σ = some r := ev_go n_laws_toOutPushSS hl h
theorem l_laws_toOutPushSS_0 {ks : List KI} {l : Fr} {σ : List AObj} {n0 : Nat} : rE fns fa_laws_toOutPushSS n0 (.code lo_laws_toOutPushSS_0 :: ks) l σ = rE fns fa_laws_toOutPushSS n0 (.code lb_laws_toOutPushSS_0 :: .code lo_laws_toOutPushSS_0 :: ks) l σ := rE_loop
@[simp] theorem nt_laws_toOutMove : fa_laws_toOutMove.nt = 11 := rfl
@[simp] theorem rs_laws_toOutMove : fa_laws_toOutMove.rs = [.cell 2 2 true] := rfl
@[simp] theorem fz_laws_toOutMove : fa_laws_toOutMove.fz = true := rfl
@[simp] theorem rsh_laws_toOutMove : fa_laws_toOutMove.rsh = .any := rfl
theorem go_laws_toOutMove {args : List PV} {σ : List AObj} {r : PV × List AObj} (hl : args.length ≤ 11) (h : rE fns fa_laws_toOutMove σ.length [.code ac_laws_toOutMove] (frA 0 args) σ = some r) : ev fns i_laws_toOutMove args σ = some r := ev_go n_laws_toOutMove hl h
@[simp] theorem nt_laws_toOutMoveS : fa_laws_toOutMoveS.nt = 23 := rfl
@[simp] theorem rs_laws_toOutMoveS : fa_laws_toOutMoveS.rs = [.tmp 2] := rfl
@[simp] theorem fz_laws_toOutMoveS : fa_laws_toOutMoveS.fz = true := rfl
@[simp] theorem rsh_laws_toOutMoveS : fa_laws_toOutMoveS.rsh = .any := rfl
theorem go_laws_toOutMoveS {args : List PV} {σ : List AObj} {r : PV × List AObj} (hl : args.length ≤ 23) (h : rE fns fa_laws_toOutMoveS σ.length [.code ac_laws_toOutMoveS] (frA 0 args) σ = some r) : ev fns i_laws_toOutMoveS args σ = some r := ev_go n_laws_toOutMoveS hl h
theorem l_laws_toOutMoveS_0 {ks : List KI} {l : Fr} {σ : List AObj} {n0 : Nat} : rE fns fa_laws_toOutMoveS n0 (.code lo_laws_toOutMoveS_0 :: ks) l σ = rE fns fa_laws_toOutMoveS n0 (.code lb_laws_toOutMoveS_0 :: .code lo_laws_toOutMoveS_0 :: ks) l σ := rE_loop
@[simp] theorem nt_laws_toOutMoveSS : fa_laws_toOutMoveSS.nt = 23 := rfl
@[simp] theorem rs_laws_toOutMoveSS : fa_laws_toOutMoveSS.rs = [.tmp 2] := rfl
@[simp] theorem fz_laws_toOutMoveSS : fa_laws_toOutMoveSS.fz = true := rfl
@[simp] theorem rsh_laws_toOutMoveSS : fa_laws_toOutMoveSS.rsh = .any := rfl
theorem go_laws_toOutMoveSS {args : List PV} {σ : List AObj} {r : PV × List AObj} (hl : args.length ≤ 23) (h : rE fns fa_laws_toOutMoveSS σ.length [.code ac_laws_toOutMoveSS] (frA 0 args) σ = some r) : ev fns i_laws_toOutMoveSS args σ = some r := ev_go n_laws_toOutMoveSS hl h
theorem l_laws_toOutMoveSS_0 {ks : List KI} {l : Fr} {σ : List AObj} {n0 : Nat} : rE fns fa_laws_toOutMoveSS n0 (.code lo_laws_toOutMoveSS_0 :: ks) l σ = rE fns fa_laws_toOutMoveSS n0 (.code lb_laws_toOutMoveSS_0 :: .code lo_laws_toOutMoveSS_0 :: ks) l σ := rE_loop
@[simp] theorem nt_laws_toOutMoveSSS : fa_laws_toOutMoveSSS.nt = 23 := rfl
@[simp] theorem rs_laws_toOutMoveSSS : fa_laws_toOutMoveSSS.rs = [.tmp 2] := rfl
@[simp] theorem fz_laws_toOutMoveSSS : fa_laws_toOutMoveSSS.fz = true := rfl
@[simp] theorem rsh_laws_toOutMoveSSS : fa_laws_toOutMoveSSS.rsh = .any := rfl
theorem go_laws_toOutMoveSSS {args : List PV} {σ : List AObj} {r : PV × List AObj} (hl : args.length ≤ 23) (h : rE fns fa_laws_toOutMoveSSS σ.length [.code ac_laws_toOutMoveSSS] (frA 0 args) σ = some r) : ev fns i_laws_toOutMoveSSS args σ = some r := ev_go n_laws_toOutMoveSSS hl h
theorem l_laws_toOutMoveSSS_0 {ks : List KI} {l : Fr} {σ : List AObj} {n0 : Nat} : rE fns fa_laws_toOutMoveSSS n0 (.code lo_laws_toOutMoveSSS_0 :: ks) l σ = rE fns fa_laws_toOutMoveSSS n0 (.code lb_laws_toOutMoveSSS_0 :: .code lo_laws_toOutMoveSSS_0 :: ks) l σ := rE_loop
@[simp] theorem nt_laws_toRewriter : fa_laws_toRewriter.nt = 23 := rfl
@[simp] theorem rs_laws_toRewriter : fa_laws_toRewriter.rs = [.cell 2 5 true] := rfl
@[simp] theorem fz_laws_toRewriter : fa_laws_toRewriter.fz = true := rfl
@[simp] theorem rsh_laws_toRewriter : fa_laws_toRewriter.rsh = .any := rfl
theorem go_laws_toRewriter {args : List PV} {σ : List AObj} {r : PV × List AObj} (hl : args.length ≤ 23) (h : rE fns fa_laws_toRewriter σ.length [.code ac_laws_toRewriter] (frA 0 args) σ = some r) : ev fns i_laws_toRewriter args σ = some r := ev_go n_laws_toRewriter hl h
@[simp] theorem nt_impl_size_L_impl_OutPush : fa_impl_size_L_impl_OutPush.nt = 5 := rfl
@[simp] theorem rs_impl_size_L_impl_OutPush : fa_impl_size_L_impl_OutPush.rs = [.tmp 2] := rfl
@[simp] theorem fz_impl_size_L_impl_OutPush : fa_impl_size_L_impl_OutPush.fz = true := rfl
@[simp] theorem rsh_impl_size_L_impl_OutPush : fa_impl_size_L_impl_OutPush.rsh = .any := rfl
theorem go_impl_size_L_impl_OutPush {args : List PV} {σ : List AObj} {r : PV × List AObj} (hl : args.length ≤ 5) (h : rE fns fa_impl_size_L_impl_OutPush σ.length [.code ac_impl_size_L_impl_OutPush] (frA 0 args) σ = some r) : ev fns i_impl_size_L_impl_OutPush args σ = some r := ev_go n_impl_size_L_impl_OutPush hl h
@[simp] theorem nt_impl_within : fa_impl_within.nt = 15 := rfl
@[simp] theorem rs_impl_within : fa_impl_within.rs = [.tmp 6] := rfl
@[simp] theorem fz_impl_within : fa_impl_within.fz = true := rfl
@[simp] theorem rsh_impl_within : fa_impl_within.rsh = .any := rfl
theorem go_impl_within {args : List PV} {σ : List AObj} {r : PV × List AObj} (hl : args.length ≤ 15) (h : rE fns fa_impl_within σ.length [.code ac_impl_within] (frA 0 args) σ = some r) : ev fns i_impl_within args σ = some r := ev_go n_impl_within hl h
@[simp] theorem nt_internal_stringslite_IndexByte : fa_internal_stringslite_IndexByte.nt = 8 := rfl
@[simp] theorem rs_internal_stringslite_IndexByte : fa_internal_stringslite_IndexByte.rs = [.tmp 4] := rfl
@[simp] theorem fz_internal_stringslite_IndexByte : fa_internal_stringslite_IndexByte.fz = true := rfl
@[simp] theorem rsh_internal_stringslite_IndexByte : fa_internal_stringslite_IndexByte.rsh = .any := rfl
theorem go_internal_stringslite_IndexByte {args : List PV} {σ : List AObj} {r : PV × List AObj} (hl : args.length ≤ 8) (h : rE fns fa_internal_stringslite_IndexByte σ.length [.code ac_internal_stringslite_IndexByte] (frA 0 args) σ = some r) : ev fns i_internal_stringslite_IndexByte args σ = some r := ev_go n_internal_stringslite_IndexByte hl h
@[simp] theorem nt_strings_IndexByte : fa_strings_IndexByte.nt = 8 := rfl
@[simp] theorem rs_strings_IndexByte : fa_strings_IndexByte.rs = [.tmp 4] := rfl
@[simp] theorem fz_strings_IndexByte : fa_strings_IndexByte.fz = true := rfl
@[simp] theorem rsh_strings_IndexByte : fa_strings_IndexByte.rsh = .any := rfl
theorem go_strings_IndexByte {args : List PV} {σ : List AObj} {r : PV × List AObj} (hl : args.length ≤ 8) (h : rE fns fa_strings_IndexByte σ.length [.code ac_strings_IndexByte] (frA 0 args) σ = some r) : ev fns i_strings_IndexByte args σ = some r := ev_go n_strings_IndexByte hl h
@[simp] theorem nt_impl_ValidWord : fa_impl_ValidWord.nt = 18 := rfl
@[simp] theorem rs_impl_ValidWord : fa_impl_ValidWord.rs = [.tmp 2] := rfl
@[simp] theorem fz_impl_ValidWord : fa_impl_ValidWord.fz = true := rfl
@[simp] theorem rsh_impl_ValidWord : fa_impl_ValidWord.rsh = .any := rfl
theorem go_impl_ValidWord {args : List PV} {σ : List AObj} {r : PV × List AObj} (hl : args.length ≤ 18) (h : rE fns fa_impl_ValidWord σ.length [.code ac_impl_ValidWord] (frA 0 args) σ = some r) : ev fns i_impl_ValidWord args σ = some r := ev_go n_impl_ValidWord hl h
theorem l_impl_ValidWord_0 {ks : List KI} {l : Fr} {σ : List AObj} {n0 : Nat} : rE fns fa_impl_ValidWord n0 (.code lo_impl_ValidWord_0 :: ks) l σ = rE fns fa_impl_ValidWord n0 (.code lb_impl_ValidWord_0 :: .code lo_impl_ValidWord_0 :: ks) l σ := rE_loop
@[simp] theorem nt_impl_isOut : fa_impl_isOut.nt = 10 := rfl
@[simp] theorem rs_impl_isOut : fa_impl_isOut.rs = [.tmp 2] := rfl
@[simp] theorem fz_impl_isOut : fa_impl_isOut.fz = true := rfl
@[simp] theorem rsh_impl_isOut : fa_impl_isOut.rsh = .any := rfl
theorem go_impl_isOut {args : List PV} {σ : List AObj} {r : PV × List AObj} (hl : args.length ≤ 10) (h : rE fns fa_impl_isOut σ.length [.code ac_impl_isOut] (frA 0 args) σ = some r) : ev fns i_impl_isOut args σ = some r := ev_go n_impl_isOut hl h
@[simp] theorem nt_impl_ValidRewriter_1 : fa_impl_ValidRewriter_1.nt = 14 := rfl
@[simp] theorem rs_impl_ValidRewriter_1 : fa_impl_ValidRewriter_1.rs = [.tmp 3] := rfl
@[simp] theorem fz_impl_ValidRewriter_1 : fa_impl_ValidRewriter_1.fz = true := rfl
@[simp] theorem rsh_impl_ValidRewriter_1 : fa_impl_ValidRewriter_1.rsh = .any := rfl
theorem go_impl_ValidRewriter_1 {args : List PV} {σ : List AObj} {r : PV × List AObj} (hl : args.length ≤ 14) (h : rE fns fa_impl_ValidRewriter_1 σ.length [.code ac_impl_ValidRewriter_1] (frA 0 args) σ = some r) : ev fns i_impl_ValidRewriter_1 args σ = some r := ev_go n_impl_ValidRewriter_1 hl h
@[simp] theorem nt_impl_size_impl_OutMove : fa_impl_size_impl_OutMove.nt = 5 := rfl
@[simp] theorem rs_impl_size_impl_OutMove : fa_impl_size_impl_OutMove.rs = [.tmp 2] := rfl
@[simp] theorem fz_impl_size_impl_OutMove : fa_impl_size_impl_OutMove.fz = true := rfl
@[simp] theorem rsh_impl_size_impl_OutMove : fa_impl_size_impl_OutMove.rsh = .any := rfl
theorem go_impl_size_impl_OutMove {args : List PV} {σ : List AObj} {r : PV × List AObj} (hl : args.length ≤ 5) (h : rE fns fa_impl_size_impl_OutMove σ.length [.code ac_impl_size_impl_OutMove] (frA 0 args) σ = some r) : ev fns i_impl_size_impl_OutMove args σ = some r := ev_go n_impl_size_impl_OutMove hl h
@[simp] theorem nt_slices_IndexFunc_L_impl_OutMove : fa_slices_IndexFunc_L_impl_OutMove.nt = 19 := rfl
@[simp] theorem rs_slices_IndexFunc_L_impl_OutMove : fa_slices_IndexFunc_L_impl_OutMove.rs = [.tmp 4] := rfl
@[simp] theorem fz_slices_IndexFunc_L_impl_OutMove : fa_slices_IndexFunc_L_impl_OutMove.fz = true := rfl
@[simp] theorem rsh_slices_IndexFunc_L_impl_OutMove : fa_slices_IndexFunc_L_impl_OutMove.rsh = .any := rfl
theorem go_slices_IndexFunc_L_impl_OutMove {args : List PV} {σ : List AObj} {r : PV × List AObj} (hl : args.length ≤ 19) (h : rE fns fa_slices_IndexFunc_L_impl_OutMove σ.length [.code ac_slices_IndexFunc_L_impl_OutMove] (frA 0 args) σ = some r) : ev fns i_slices_IndexFunc_L_impl_OutMove args σ = some r := ev_go n_slices_IndexFunc_L_impl_OutMove hl h
theorem l_slices_IndexFunc_L_impl_OutMove_0 {ks : List KI} {l : Fr} {σ : List AObj} {n0 : Nat} : rE fns fa_slices_IndexFunc_L_impl_OutMove n0 (.code lo_slices_IndexFunc_L_impl_OutMove_0 :: ks) l σ = rE fns fa_slices_IndexFunc_L_impl_OutMove n0 (.code lb_slices_IndexFunc_L_impl_OutMove_0 :: .code lo_slices_IndexFunc_L_impl_OutMove_0 :: ks) l σ := rE_loop
@[simp] theorem nt_slices_ContainsFunc_L_impl_OutMove : fa_slices_ContainsFunc_L_impl_OutMove.nt = 9 := rfl
@[simp] theorem rs_slices_ContainsFunc_L_impl_OutMove : fa_slices_ContainsFunc_L_impl_OutMove.rs = [.tmp 4] := rfl
@[simp] theorem fz_slices_ContainsFunc_L_impl_OutMove : fa_slices_ContainsFunc_L_impl_OutMove.fz = true := rfl
@[simp] theorem rsh_slices_ContainsFunc_L_impl_OutMove : fa_slices_ContainsFunc_L_impl_OutMove.rsh = .any := rfl
theorem go_slices_ContainsFunc_L_impl_OutMove {args : List PV} {σ : List AObj} {r : PV × List AObj} (hl : args.length ≤ 9) (h : rE fns fa_slices_ContainsFunc_L_impl_OutMove σ.length [.code ac_slices_ContainsFunc_L_impl_OutMove] (frA 0 args) σ = some r) : ev fns i_slices_ContainsFunc_L_impl_OutMove args σ = some r := ev_go n_slices_ContainsFunc_L_impl_OutMove hl h
@[simp] theorem nt_impl_ValidRewriter_2_1 : fa_impl_ValidRewriter_2_1.nt = 8 := rfl
@[simp] theorem rs_impl_ValidRewriter_2_1 : fa_impl_ValidRewriter_2_1.rs = [.tmp 3] := rfl
@[simp] theorem fz_impl_ValidRewriter_2_1 : fa_impl_ValidRewriter_2_1.fz = true := rfl
@[simp] theorem rsh_impl_ValidRewriter_2_1 : fa_impl_ValidRewriter_2_1.rsh = .any := rfl
theorem go_impl_ValidRewriter_2_1 {args : List PV} {σ : List AObj} {r : PV × List AObj} (hl : args.length ≤ 8) (h : rE fns fa_impl_ValidRewriter_2_1 σ.length [.code ac_impl_ValidRewriter_2_1] (frA 0 args) σ = some r) : ev fns i_impl_ValidRewriter_2_1 args σ = some r := ev_go n_impl_ValidRewriter_2_1 hl h
@[simp] theorem nt_impl_ValidRewriter_2 : fa_impl_ValidRewriter_2.nt = 16 := rfl
@[simp] theorem rs_impl_ValidRewriter_2 : fa_impl_ValidRewriter_2.rs = [.tmp 5] := rfl
@[simp] theorem fz_impl_ValidRewriter_2 : fa_impl_ValidRewriter_2.fz = true := rfl
@[simp] theorem rsh_impl_ValidRewriter_2 : fa_impl_ValidRewriter_2.rsh = .any := rfl
theorem go_impl_ValidRewriter_2 {args : List PV} {σ : List AObj} {r : PV × List AObj} (hl : args.length ≤ 16) (h : rE fns fa_impl_ValidRewriter_2 σ.length [.code ac_impl_ValidRewriter_2] (frA 0 args) σ = some r) : ev fns i_impl_ValidRewriter_2 args σ = some r := ev_go n_impl_ValidRewriter_2 hl h
@[simp] theorem nt_impl_size_L_L_impl_OutMove : fa_impl_size_L_L_impl_OutMove.nt = 5 := rfl
@[simp] theorem rs_impl_size_L_L_impl_OutMove : fa_impl_size_L_L_impl_OutMove.rs = [.tmp 2] := rfl
@[simp] theorem fz_impl_size_L_L_impl_OutMove : fa_impl_size_L_L_impl_OutMove.fz = true := rfl
@[simp] theorem rsh_impl_size_L_L_impl_OutMove : fa_impl_size_L_L_impl_OutMove.rsh = .any := rfl
theorem go_impl_size_L_L_impl_OutMove {args : List PV} {σ : List AObj} {r : PV × List AObj} (hl : args.length ≤ 5) (h : rE fns fa_impl_size_L_L_impl_OutMove σ.length [.code ac_impl_size_L_L_impl_OutMove] (frA 0 args) σ = some r) : ev fns i_impl_size_L_L_impl_OutMove args σ = some r := ev_go n_impl_size_L_L_impl_OutMove hl h
@[simp] theorem nt_impl_size_L_impl_OutMove : fa_impl_size_L_impl_OutMove.nt = 5 := rfl
@[simp] theorem rs_impl_size_L_impl_OutMove : fa_impl_size_L_impl_OutMove.rs = [.tmp 2] := rfl
@[simp] theorem fz_impl_size_L_impl_OutMove : fa_impl_size_L_impl_OutMove.fz = true := rfl
@[simp] theorem rsh_impl_size_L_impl_OutMove : fa_impl_size_L_impl_OutMove.rsh = .any := rfl
theorem go_impl_size_L_impl_OutMove {args : List PV} {σ : List AObj} {r : PV × List AObj} (hl : args.length ≤ 5) (h : rE fns fa_impl_size_L_impl_OutMove σ.length [.code ac_impl_size_L_impl_OutMove] (frA 0 args) σ = some r) : ev fns i_impl_size_L_impl_OutMove args σ = some r := ev_go n_impl_size_L_impl_OutMove hl h
@[simp] theorem nt_impl_ValidRewriter : fa_impl_ValidRewriter.nt = 121 := rfl
@[simp] theorem rs_impl_ValidRewriter : fa_impl_ValidRewriter.rs = [.tmp 2] := rfl
@[simp] theorem fz_impl_ValidRewriter : fa_impl_ValidRewriter.fz = true := rfl
@[simp] theorem rsh_impl_ValidRewriter : fa_impl_ValidRewriter.rsh = .any := rfl
theorem go_impl_ValidRewriter {args : List PV} {σ : List AObj} {r : PV × List AObj} (hl : args.length ≤ 121) (h : rE fns fa_impl_ValidRewriter σ.length [.code ac_impl_ValidRewriter] (frA 0 args) σ = some r) : ev fns i_impl_ValidRewriter args σ = some r := ev_go n_impl_ValidRewriter hl h
theorem l_impl_ValidRewriter_0 {ks : List KI} {l : Fr} {σ : List AObj} {n0 : Nat} : rE fns fa_impl_ValidRewriter n0 (.code lo_impl_ValidRewriter_0 :: ks) l σ = rE fns fa_impl_ValidRewriter n0 (.code lb_impl_ValidRewriter_0 :: .code lo_impl_ValidRewriter_0 :: ks) l σ := rE_loop
theorem l_impl_ValidRewriter_1 {ks : List KI} {l : Fr} {σ : List AObj} {n0 : Nat} : rE fns fa_impl_ValidRewriter n0 (.code lo_impl_ValidRewriter_1 :: ks) l σ = rE fns fa_impl_ValidRewriter n0 (.code lb_impl_ValidRewriter_1 :: .code lo_impl_ValidRewriter_1 :: ks) l σ := rE_loop
@[simp] theorem nt_laws_eqOutPush : fa_laws_eqOutPush.nt = 20 := rfl
@[simp] theorem rs_laws_eqOutPush : fa_laws_eqOutPush.rs = [.tmp 4] := rfl
@[simp] theorem fz_laws_eqOutPush : fa_laws_eqOutPush.fz = true := rfl
@[simp] theorem rsh_laws_eqOutPush : fa_laws_eqOutPush.rsh = .any := rfl
theorem go_laws_eqOutPush {args : List PV} {σ : List AObj} {r : PV × List AObj} (hl : args.length ≤ 20) (h : rE fns fa_laws_eqOutPush σ.length [.code ac_laws_eqOutPush] (frA 0 args) σ = some r) : ev fns i_laws_eqOutPush args σ = some r := ev_go n_laws_eqOutPush hl h
@[simp] theorem nt_laws_eqOutPushS : fa_laws_eqOutPushS.nt = 27 := rfl
@[simp] theorem rs_laws_eqOutPushS : fa_laws_eqOutPushS.rs = [.tmp 4] := rfl
@[simp] theorem fz_laws_eqOutPushS : fa_laws_eqOutPushS.fz = true := rfl
@[simp] theorem rsh_laws_eqOutPushS : fa_laws_eqOutPushS.rsh = .any := rfl
theorem go_laws_eqOutPushS {args : List PV} {σ : List AObj} {r : PV × List AObj} (hl : args.length ≤ 27) (h : rE fns fa_laws_eqOutPushS σ.length [.code ac_laws_eqOutPushS] (frA 0 args) σ = some r) : ev fns i_laws_eqOutPushS args σ = some r := ev_go n_laws_eqOutPushS hl h
theorem l_laws_eqOutPushS_0 {ks : List KI} {l : Fr} {σ : List AObj} {n0 : Nat} : rE fns fa_laws_eqOutPushS n0 (.code lo_laws_eqOutPushS_0 :: ks) l σ = rE fns fa_laws_eqOutPushS n0 (.code lb_laws_eqOutPushS_0 :: .code lo_laws_eqOutPushS_0 :: ks) l σ := rE_loop
@[simp] theorem nt_laws_eqOutPushSS : fa_laws_eqOutPushSS.nt = 27 := rfl
@[simp] theorem rs_laws_eqOutPushSS : fa_laws_eqOutPushSS.rs = [.tmp 4] := rfl
@[simp] theorem fz_laws_eqOutPushSS : fa_laws_eqOutPushSS.fz = true := rfl
@[simp] theorem rsh_laws_eqOutPushSS : fa_laws_eqOutPushSS.rsh = .any := rfl
theorem go_laws_eqOutPushSS {args : List PV} {σ : List AObj} {r : PV × List AObj} (hl : args.length ≤ 27) (h : rE fns fa_laws_eqOutPushSS σ.length [.code ac_laws_eqOutPushSS] (frA 0 args) σ = some r) : ev fns i_laws_eqOutPushSS args σ = some r := ev_go n_laws_eqOutPushSS hl h
theorem l_laws_eqOutPushSS_0 {ks : List KI} {l : Fr} {σ : List AObj} {n0 : Nat} : rE fns fa_laws_eqOutPushSS n0 (.code lo_laws_eqOutPushSS_0 :: ks) l σ = rE fns fa_laws_eqOutPushSS n0 (.code lb_laws_eqOutPushSS_0 :: .code lo_laws_eqOutPushSS_0 :: ks) l σ := rE_loop
@[simp] theorem nt_laws_eqOutMove : fa_laws_eqOutMove.nt = 15 := rfl
@[simp] theorem rs_laws_eqOutMove : fa_laws_eqOutMove.rs = [.tmp 4] := rfl
@[simp] theorem fz_laws_eqOutMove : fa_laws_eqOutMove.fz = true := rfl
@[simp] theorem rsh_laws_eqOutMove : fa_laws_eqOutMove.rsh = .any := rfl
theorem go_laws_eqOutMove {args : List PV} {σ : List AObj} {r : PV × List AObj} (hl : args.length ≤ 15) (h : rE fns fa_laws_eqOutMove σ.length [.code ac_laws_eqOutMove] (frA 0 args) σ = some r) : ev fns i_laws_eqOutMove args σ = some r := ev_go n_laws_eqOutMove hl h
@[simp] theorem nt_laws_eqOutMoveS : fa_laws_eqOutMoveS.nt = 27 := rfl
@[simp] theorem rs_laws_eqOutMoveS : fa_laws_eqOutMoveS.rs = [.tmp 4] := rfl
@[simp] theorem fz_laws_eqOutMoveS : fa_laws_eqOutMoveS.fz = true := rfl
@[simp] theorem rsh_laws_eqOutMoveS : fa_laws_eqOutMoveS.rsh = .any := rfl
theorem go_laws_eqOutMoveS {args : List PV} {σ : List AObj} {r : PV × List AObj} (hl : args.length ≤ 27) (h : rE fns fa_laws_eqOutMoveS σ.length [.code ac_laws_eqOutMoveS] (frA 0 args) σ = some r) : ev fns i_laws_eqOutMoveS args σ = some r := ev_go n_laws_eqOutMoveS hl h
theorem l_laws_eqOutMoveS_0 {ks : List KI} {l : Fr} {σ : List AObj} {n0 : Nat} : rE fns fa_laws_eqOutMoveS n0 (.code lo_laws_eqOutMoveS_0 :: ks) l σ = rE fns fa_laws_eqOutMoveS n0 (.code lb_laws_eqOutMoveS_0 :: .code lo_laws_eqOutMoveS_0 :: ks) l σ := rE_loop
@[simp] theorem nt_laws_eqOutMoveSS : fa_laws_eqOutMoveSS.nt = 27 := rfl
@[simp] theorem rs_laws_eqOutMoveSS : fa_laws_eqOutMoveSS.rs = [.tmp 4] := rfl
@[simp] theorem fz_laws_eqOutMoveSS : fa_laws_eqOutMoveSS.fz = true := rfl
@[simp] theorem rsh_laws_eqOutMoveSS : fa_laws_eqOutMoveSS.rsh = .any := rfl
theorem go_laws_eqOutMoveSS {args : List PV} {σ : List AObj} {r : PV × List AObj} (hl : args.length ≤ 27) (h : rE fns fa_laws_eqOutMoveSS σ.length [.code ac_laws_eqOutMoveSS] (frA 0 args) σ = some r) : ev fns i_laws_eqOutMoveSS args σ = some r := ev_go n_laws_eqOutMoveSS hl h
theorem l_laws_eqOutMoveSS_0 {ks : List KI} {l : Fr} {σ : List AObj} {n0 : Nat} : rE fns fa_laws_eqOutMoveSS n0 (.code lo_laws_eqOutMoveSS_0 :: ks) l σ = rE fns fa_laws_eqOutMoveSS n0 (.code lb_laws_eqOutMoveSS_0 :: .code lo_laws_eqOutMoveSS_0 :: ks) l σ := rE_loop
@[simp] theorem nt_laws_eqOutMoveSSS : fa_laws_eqOutMoveSSS.nt = 27 := rfl
@[simp] theorem rs_laws_eqOutMoveSSS : fa_laws_eqOutMoveSSS.rs = [.tmp 4] := rfl
@[simp] theorem fz_laws_eqOutMoveSSS : fa_laws_eqOutMoveSSS.fz = true := rfl
@[simp] theorem rsh_laws_eqOutMoveSSS : fa_laws_eqOutMoveSSS.rsh = .any := rfl
theorem go_laws_eqOutMoveSSS {args : List PV} {σ : List AObj} {r : PV × List AObj} (hl : args.length ≤ 27) (h : rE fns fa_laws_eqOutMoveSSS σ.length [.code ac_laws_eqOutMoveSSS] (frA 0 args) σ = some r) : ev fns i_laws_eqOutMoveSSS args σ = some r := ev_go n_laws_eqOutMoveSSS hl h
theorem l_laws_eqOutMoveSSS_0 {ks : List KI} {l : Fr} {σ : List AObj} {n0 : Nat} : rE fns fa_laws_eqOutMoveSSS n0 (.code lo_laws_eqOutMoveSSS_0 :: ks) l σ = rE fns fa_laws_eqOutMoveSSS n0 (.code lb_laws_eqOutMoveSSS_0 :: .code lo_laws_eqOutMoveSSS_0 :: ks) l σ := rE_loop
@[simp] theorem nt_laws_eqRewriter : fa_laws_eqRewriter.nt = 33 := rfl
@[simp] theorem rs_laws_eqRewriter : fa_laws_eqRewriter.rs = [.tmp 4] := rfl
@[simp] theorem fz_laws_eqRewriter : fa_laws_eqRewriter.fz = true := rfl
@[simp] theorem rsh_laws_eqRewriter : fa_laws_eqRewriter.rsh = .any := rfl
theorem go_laws_eqRewriter {args : List PV} {σ : List AObj} {r : PV × List AObj} (hl : args.length ≤ 33) (h : rE fns fa_laws_eqRewriter σ.length [.code ac_laws_eqRewriter] (frA 0 args) σ = some r) : ev fns i_laws_eqRewriter args σ = some r := ev_go n_laws_eqRewriter hl h
@[simp] theorem nt_laws_FnExactValidRewriter : fa_laws_FnExactValidRewriter.nt = 27 := rfl
@[simp] theorem rs_laws_FnExactValidRewriter : fa_laws_FnExactValidRewriter.rs = [.tmp 2] := rfl
@[simp] theorem fz_laws_FnExactValidRewriter : fa_laws_FnExactValidRewriter.fz = true := rfl
@[simp] theorem rsh_laws_FnExactValidRewriter : fa_laws_FnExactValidRewriter.rsh = .any := rfl
theorem go_laws_FnExactValidRewriter {args : List PV} {σ : List AObj} {r : PV × List AObj} (hl : args.length ≤ 27) (h : rE fns fa_laws_FnExactValidRewriter σ.length [.code ac_laws_FnExactValidRewriter] (frA 0 args) σ = some r) : ev fns i_laws_FnExactValidRewriter args σ = some r := ev_go n_laws_FnExactValidRewriter hl h
@[simp] theorem nt_laws_szTreeEdit : fa_laws_szTreeEdit.nt = 13 := rfl
@[simp] theorem rs_laws_szTreeEdit : fa_laws_szTreeEdit.rs = [.tmp 4] := rfl
@[simp] theorem fz_laws_szTreeEdit : fa_laws_szTreeEdit.fz = true := rfl
@[simp] theorem rsh_laws_szTreeEdit : fa_laws_szTreeEdit.rsh = .any := rfl
theorem go_laws_szTreeEdit {args : List PV} {σ : List AObj} {r : PV × List AObj} (hl : args.length ≤ 13) (h : rE fns fa_laws_szTreeEdit σ.length [.code ac_laws_szTreeEdit] (frA 0 args) σ = some r) : ev fns i_laws_szTreeEdit args σ = some r := ev_go n_laws_szTreeEdit hl h
@[simp] theorem nt_laws_szTreeEditS : fa_laws_szTreeEditS.nt = 27 := rfl
@[simp] theorem rs_laws_szTreeEditS : fa_laws_szTreeEditS.rs = [.tmp 4] := rfl
@[simp] theorem fz_laws_szTreeEditS : fa_laws_szTreeEditS.fz = true := rfl
@[simp] theorem rsh_laws_szTreeEditS : fa_laws_szTreeEditS.rsh = .any := rfl
theorem go_laws_szTreeEditS {args : List PV} {σ : List AObj} {r : PV × List AObj} (hl : args.length ≤ 27) (h : rE fns fa_laws_szTreeEditS σ.length [.code ac_laws_szTreeEditS] (frA 0 args) σ = some r) : ev fns i_laws_szTreeEditS args σ = some r := ev_go n_laws_szTreeEditS hl h
theorem l_laws_szTreeEditS_0 {ks : List KI} {l : Fr} {σ : List AObj} {n0 : Nat} : rE fns fa_laws_szTreeEditS n0 (.code lo_laws_szTreeEditS_0 :: ks) l σ = rE fns fa_laws_szTreeEditS n0 (.code lb_laws_szTreeEditS_0 :: .code lo_laws_szTreeEditS_0 :: ks) l σ := rE_loop
@[simp] theorem nt_spec_l01Call : fa_spec_l01Call.nt = 9 := rfl
@[simp] theorem rs_spec_l01Call : fa_spec_l01Call.rs = [.tmp 2] := rfl
@[simp] theorem fz_spec_l01Call : fa_spec_l01Call.fz = true := rfl
@[simp] theorem rsh_spec_l01Call : fa_spec_l01Call.rsh = .any := rfl
theorem go_spec_l01Call {args : List PV} {σ : List AObj} {r : PV × List AObj} (hl : args.length ≤ 9) (h : rE fns fa_spec_l01Call σ.length [.code ac_spec_l01Call] (frA 0 args) σ = some r) : ev fns i_spec_l01Call args σ = some r := ev_go n_spec_l01Call hl h
@[simp] theorem nt_spec_l01Return : fa_spec_l01Return.nt = 9 := rfl
@[simp] theorem rs_spec_l01Return : fa_spec_l01Return.rs = [.tmp 2] := rfl
@[simp] theorem fz_spec_l01Return : fa_spec_l01Return.fz = true := rfl
@[simp] theorem rsh_spec_l01Return : fa_spec_l01Return.rsh = .any := rfl
theorem go_spec_l01Return {args : List PV} {σ : List AObj} {r : PV × List AObj} (hl : args.length ≤ 9) (h : rE fns fa_spec_l01Return σ.length [.code ac_spec_l01Return] (frA 0 args) σ = some r) : ev fns i_spec_l01Return args σ = some r := ev_go n_spec_l01Return hl h
@[simp] theorem nt_spec_l01Partners : fa_spec_l01Partners.nt = 68 := rfl
@[simp] theorem rs_spec_l01Partners : fa_spec_l01Partners.rs = [.tmp 2] := rfl
@[simp] theorem fz_spec_l01Partners : fa_spec_l01Partners.fz = true := rfl
@[simp] theorem rsh_spec_l01Partners : fa_spec_l01Partners.rsh = .any := rfl
theorem go_spec_l01Partners {args : List PV} {σ : List AObj} {r : PV × List AObj} (hl : args.length ≤ 68) (h : rE fns fa_spec_l01Partners σ.length [.code ac_spec_l01Partners] (frA 0 args) σ = some r) : ev fns i_spec_l01Partners args σ = some r := ev_go n_spec_l01Partners hl h
theorem l_spec_l01Partners_0 {ks : List KI} {l : Fr} {σ : List AObj} {n0 : Nat} : rE fns fa_spec_l01Partners n0 (.code lo_spec_l01Partners_0 :: ks) l σ = rE fns fa_spec_l01Partners n0 (.code lb_spec_l01Partners_0 :: .code lo_spec_l01Partners_0 :: ks) l σ := rE_loop
@[simp] theorem nt_spec_l01Pending : fa_spec_l01Pending.nt = 44 := rfl
@[simp] theorem rs_spec_l01Pending : fa_spec_l01Pending.rs = [.tmp 2, .tmp 3] := rfl
@[simp] theorem fz_spec_l01Pending : fa_spec_l01Pending.fz = true := rfl
@[simp] theorem rsh_spec_l01Pending : fa_spec_l01Pending.rsh = .any := rfl
theorem go_spec_l01Pending {args : List PV} {σ : List AObj} {r : PV × List AObj} (hl : args.length ≤ 44) (h : rE fns fa_spec_l01Pending σ.length [.code ac_spec_l01Pending] (frA 0 args) σ = some r) : ev fns i_spec_l01Pending args σ = some r := ev_go n_spec_l01Pending hl h
theorem l_spec_l01Pending_0 {ks : List KI} {l : Fr} {σ : List AObj} {n0 : Nat} : rE fns fa_spec_l01Pending n0 (.code lo_spec_l01Pending_0 :: ks) l σ = rE fns fa_spec_l01Pending n0 (.code lb_spec_l01Pending_0 :: .code lo_spec_l01Pending_0 :: ks) l σ := rE_loop
@[simp] theorem nt_spec_l01Matched : fa_spec_l01Matched.nt = 14 := rfl
@[simp] theorem rs_spec_l01Matched : fa_spec_l01Matched.rs = [.tmp 2] := rfl
@[simp] theorem fz_spec_l01Matched : fa_spec_l01Matched.fz = true := rfl
@[simp] theorem rsh_spec_l01Matched : fa_spec_l01Matched.rsh = .any := rfl
theorem go_spec_l01Matched {args : List PV} {σ : List AObj} {r : PV × List AObj} (hl : args.length ≤ 14) (h : rE fns fa_spec_l01Matched σ.length [.code ac_spec_l01Matched] (frA 0 args) σ = some r) : ev fns i_spec_l01Matched args σ = some r := ev_go n_spec_l01Matched hl h
@[simp] theorem nt_spec_l06Brackets : fa_spec_l06Brackets.nt = 16 := rfl
@[simp] theorem rs_spec_l06Brackets : fa_spec_l06Brackets.rs = [.tmp 2] := rfl
@[simp] theorem fz_spec_l06Brackets : fa_spec_l06Brackets.fz = true := rfl
@[simp] theorem rsh_spec_l06Brackets : fa_spec_l06Brackets.rsh = .any := rfl
theorem go_spec_l06Brackets {args : List PV} {σ : List AObj} {r : PV × List AObj} (hl : args.length ≤ 16) (h : rE fns fa_spec_l06Brackets σ.length [.code ac_spec_l06Brackets] (frA 0 args) σ = some r) : ev fns i_spec_l06Brackets args σ = some r := ev_go n_spec_l06Brackets hl h
@[simp] theorem nt_spec_l06Edit : fa_spec_l06Edit.nt = 70 := rfl
@[simp] theorem rs_spec_l06Edit : fa_spec_l06Edit.rs = [.tmp 2] := rfl
@[simp] theorem fz_spec_l06Edit : fa_spec_l06Edit.fz = true := rfl
@[simp] theorem rsh_spec_l06Edit : fa_spec_l06Edit.rsh = .any := rfl
theorem go_spec_l06Edit {args : List PV} {σ : List AObj} {r : PV × List AObj} (hl : args.length ≤ 70) (h : rE fns fa_spec_l06Edit σ.length [.code ac_spec_l06Edit] (frA 0 args) σ = some r) : ev fns i_spec_l06Edit args σ = some r := ev_go n_spec_l06Edit hl h
@[simp] theorem nt_spec_l01Told : fa_spec_l01Told.nt = 8 := rfl
@[simp] theorem rs_spec_l01Told : fa_spec_l01Told.rs = [.tmp 2, .tmp 3] := rfl
@[simp] theorem fz_spec_l01Told : fa_spec_l01Told.fz = true := rfl
@[simp] theorem rsh_spec_l01Told : fa_spec_l01Told.rsh = .any := rfl
theorem go_spec_l01Told {args : List PV} {σ : List AObj} {r : PV × List AObj} (hl : args.length ≤ 8) (h : rE fns fa_spec_l01Told σ.length [.code ac_spec_l01Told] (frA 0 args) σ = some r) : ev fns i_spec_l01Told args σ = some r := ev_go n_spec_l01Told hl h
@[simp] theorem nt_spec_PutAt : fa_spec_PutAt.nt = 36 := rfl
@[simp] theorem rs_spec_PutAt : fa_spec_PutAt.rs = [.tmp 6, .tmp 7] := rfl
@[simp] theorem fz_spec_PutAt : fa_spec_PutAt.fz = true := rfl
@[simp] theorem rsh_spec_PutAt : fa_spec_PutAt.rsh = .any := rfl
theorem go_spec_PutAt {args : List PV} {σ : List AObj} {r : PV × List AObj} (hl : args.length ≤ 36) (h : rE fns fa_spec_PutAt σ.length [.code ac_spec_PutAt] (frA 0 args) σ = some r) : ev fns i_spec_PutAt args σ = some r := ev_go n_spec_PutAt hl h
@[simp] theorem nt_spec_l01Closed : fa_spec_l01Closed.nt = 31 := rfl
@[simp] theorem rs_spec_l01Closed : fa_spec_l01Closed.rs = [.tmp 4, .tmp 5] := rfl
@[simp] theorem fz_spec_l01Closed : fa_spec_l01Closed.fz = true := rfl
@[simp] theorem rsh_spec_l01Closed : fa_spec_l01Closed.rsh = .any := rfl
theorem go_spec_l01Closed {args : List PV} {σ : List AObj} {r : PV × List AObj} (hl : args.length ≤ 31) (h : rE fns fa_spec_l01Closed σ.length [.code ac_spec_l01Closed] (frA 0 args) σ = some r) : ev fns i_spec_l01Closed args σ = some r := ev_go n_spec_l01Closed hl h
@[simp] theorem nt_spec_CutMatched : fa_spec_CutMatched.nt = 25 := rfl
@[simp] theorem rs_spec_CutMatched : fa_spec_CutMatched.rs = [.tmp 4, .tmp 5] := rfl
@[simp] theorem fz_spec_CutMatched : fa_spec_CutMatched.fz = true := rfl
@[simp] theorem rsh_spec_CutMatched : fa_spec_CutMatched.rsh = .any := rfl
theorem go_spec_CutMatched {args : List PV} {σ : List AObj} {r : PV × List AObj} (hl : args.length ≤ 25) (h : rE fns fa_spec_CutMatched σ.length [.code ac_spec_CutMatched] (frA 0 args) σ = some r) : ev fns i_spec_CutMatched args σ = some r := ev_go n_spec_CutMatched hl h
@[simp] theorem nt_spec_l06Made : fa_spec_l06Made.nt = 199 := rfl
@[simp] theorem rs_spec_l06Made : fa_spec_l06Made.rs = [.tmp 4, .tmp 5] := rfl
@[simp] theorem fz_spec_l06Made : fa_spec_l06Made.fz = true := rfl
@[simp] theorem rsh_spec_l06Made : fa_spec_l06Made.rsh = .any := rfl
theorem go_spec_l06Made {args : List PV} {σ : List AObj} {r : PV × List AObj} (hl : args.length ≤ 199) (h : rE fns fa_spec_l06Made σ.length [.code ac_spec_l06Made] (frA 0 args) σ = some r) : ev fns i_spec_l06Made args σ = some r := ev_go n_spec_l06Made hl h
@[simp] theorem nt_spec_EditTrees : fa_spec_EditTrees.nt = 54 := rfl
@[simp] theorem rs_spec_EditTrees : fa_spec_EditTrees.rs = [.tmp 4, .tmp 5, .tmp 6] := rfl
@[simp] theorem fz_spec_EditTrees : fa_spec_EditTrees.fz = true := rfl
@[simp] theorem rsh_spec_EditTrees : fa_spec_EditTrees.rsh = .any := rfl
theorem go_spec_EditTrees {args : List PV} {σ : List AObj} {r : PV × List AObj} (hl : args.length ≤ 54) (h : rE fns fa_spec_EditTrees σ.length [.code ac_spec_EditTrees] (frA 0 args) σ = some r) : ev fns i_spec_EditTrees args σ = some r := ev_go n_spec_EditTrees hl h
theorem l_spec_EditTrees_0 {ks : List KI} {l : Fr} {σ : List AObj} {n0 : Nat} : rE fns fa_spec_EditTrees n0 (.code lo_spec_EditTrees_0 :: ks) l σ = rE fns fa_spec_EditTrees n0 (.code lb_spec_EditTrees_0 :: .code lo_spec_EditTrees_0 :: ks) l σ := rE_loop
theorem l_spec_EditTrees_1 {ks : List KI} {l : Fr} {σ : List AObj} {n0 : Nat} : rE fns fa_spec_EditTrees n0 (.code lo_spec_EditTrees_1 :: ks) l σ = rE fns fa_spec_EditTrees n0 (.code lb_spec_EditTrees_1 :: .code lo_spec_EditTrees_1 :: ks) l σ := rE_loop
@[simp] theorem nt_laws_toTreeEdit : fa_laws_toTreeEdit.nt = 17 := rfl
@[simp] theorem rs_laws_toTreeEdit : fa_laws_toTreeEdit.rs = [.cell 2 4 true] := rfl
@[simp] theorem fz_laws_toTreeEdit : fa_laws_toTreeEdit.fz = true := rfl
@[simp] theorem rsh_laws_toTreeEdit : fa_laws_toTreeEdit.rsh = .any := rfl
theorem go_laws_toTreeEdit {args : List PV} {σ : List AObj} {r : PV × List AObj} (hl : args.length ≤ 17) (h : rE fns fa_laws_toTreeEdit σ.length [.code ac_laws_toTreeEdit] (frA 0 args) σ = some r) : ev fns i_laws_toTreeEdit args σ = some r := ev_go n_laws_toTreeEdit hl h
@[simp] theorem nt_laws_toTreeEditS : fa_laws_toTreeEditS.nt = 23 := rfl
@[simp] theorem rs_laws_toTreeEditS : fa_laws_toTreeEditS.rs = [.tmp 2] := rfl
@[simp] theorem fz_laws_toTreeEditS : fa_laws_toTreeEditS.fz = true := rfl
@[simp] theorem rsh_laws_toTreeEditS : fa_laws_toTreeEditS.rsh = .any := rfl
theorem go_laws_toTreeEditS {args : List PV} {σ : List AObj} {r : PV × List AObj} (hl : args.length ≤ 23) (h : rE fns fa_laws_toTreeEditS σ.length [.code ac_laws_toTreeEditS] (frA 0 args) σ = some r) : ev fns i_laws_toTreeEditS args σ = some r := ev_go n_laws_toTreeEditS hl h
theorem l_laws_toTreeEditS_0 {ks : List KI} {l : Fr} {σ : List AObj} {n0 : Nat} : rE fns fa_laws_toTreeEditS n0 (.code lo_laws_toTreeEditS_0 :: ks) l σ = rE fns fa_laws_toTreeEditS n0 (.code lb_laws_toTreeEditS_0 :: .code lo_laws_toTreeEditS_0 :: ks) l σ := rE_loop
@[simp] theorem nt_slices_IndexFunc_L_impl_TreeEdit : fa_slices_IndexFunc_L_impl_TreeEdit.nt = 19 := rfl
@[simp] theorem rs_slices_IndexFunc_L_impl_TreeEdit : fa_slices_IndexFunc_L_impl_TreeEdit.rs = [.tmp 4] := rfl
@[simp] theorem fz_slices_IndexFunc_L_impl_TreeEdit : fa_slices_IndexFunc_L_impl_TreeEdit.fz = true := rfl
@[simp] theorem rsh_slices_IndexFunc_L_impl_TreeEdit : fa_slices_IndexFunc_L_impl_TreeEdit.rsh = .any := rfl
theorem go_slices_IndexFunc_L_impl_TreeEdit {args : List PV} {σ : List AObj} {r : PV × List AObj} (hl : args.length ≤ 19) (h : rE fns fa_slices_IndexFunc_L_impl_TreeEdit σ.length [.code ac_slices_IndexFunc_L_impl_TreeEdit] (frA 0 args) σ = some r) : ev fns i_slices_IndexFunc_L_impl_TreeEdit args σ = some r := ev_go n_slices_IndexFunc_L_impl_TreeEdit hl h
theorem l_slices_IndexFunc_L_impl_TreeEdit_0 {ks : List KI} {l : Fr} {σ : List AObj} {n0 : Nat} : rE fns fa_slices_IndexFunc_L_impl_TreeEdit n0 (.code lo_slices_IndexFunc_L_impl_TreeEdit_0 :: ks) l σ = rE fns fa_slices_IndexFunc_L_impl_TreeEdit n0 (.code lb_slices_IndexFunc_L_impl_TreeEdit_0 :: .code lo_slices_IndexFunc_L_impl_TreeEdit_0 :: ks) l σ := rE_loop
@[simp] theorem nt_slices_ContainsFunc_L_impl_TreeEdit : fa_slices_ContainsFunc_L_impl_TreeEdit.nt = 9 := rfl
@[simp] theorem rs_slices_ContainsFunc_L_impl_TreeEdit : fa_slices_ContainsFunc_L_impl_TreeEdit.rs = [.tmp 4] := rfl
@[simp] theorem fz_slices_ContainsFunc_L_impl_TreeEdit : fa_slices_ContainsFunc_L_impl_TreeEdit.fz = true := rfl
@[simp] theorem rsh_slices_ContainsFunc_L_impl_TreeEdit : fa_slices_ContainsFunc_L_impl_TreeEdit.rsh = .any := rfl
theorem go_slices_ContainsFunc_L_impl_TreeEdit {args : List PV} {σ : List AObj} {r : PV × List AObj} (hl : args.length ≤ 9) (h : rE fns fa_slices_ContainsFunc_L_impl_TreeEdit σ.length [.code ac_slices_ContainsFunc_L_impl_TreeEdit] (frA 0 args) σ = some r) : ev fns i_slices_ContainsFunc_L_impl_TreeEdit args σ = some r := ev_go n_slices_ContainsFunc_L_impl_TreeEdit hl h
@[simp] theorem nt_impl_treeFormOf : fa_impl_treeFormOf.nt = 21 := rfl
@[simp] theorem rs_impl_treeFormOf : fa_impl_treeFormOf.rs = [.cell 2 3 true, .tmp 3] := rfl
@[simp] theorem fz_impl_treeFormOf : fa_impl_treeFormOf.fz = true := rfl
@[simp] theorem rsh_impl_treeFormOf : fa_impl_treeFormOf.rsh = .any := rfl
theorem go_impl_treeFormOf {args : List PV} {σ : List AObj} {r : PV × List AObj} (hl : args.length ≤ 21) (h : rE fns fa_impl_treeFormOf σ.length [.code ac_impl_treeFormOf] (frA 0 args) σ = some r) : ev fns i_impl_treeFormOf args σ = some r := ev_go n_impl_treeFormOf hl h
@[simp] theorem nt_impl_isCall : fa_impl_isCall.nt = 9 := rfl
@[simp] theorem rs_impl_isCall : fa_impl_isCall.rs = [.tmp 2] := rfl
@[simp] theorem fz_impl_isCall : fa_impl_isCall.fz = true := rfl
@[simp] theorem rsh_impl_isCall : fa_impl_isCall.rsh = .any := rfl
theorem go_impl_isCall {args : List PV} {σ : List AObj} {r : PV × List AObj} (hl : args.length ≤ 9) (h : rE fns fa_impl_isCall σ.length [.code ac_impl_isCall] (frA 0 args) σ = some r) : ev fns i_impl_isCall args σ = some r := ev_go n_impl_isCall hl h
@[simp] theorem nt_impl_size_int64 : fa_impl_size_int64.nt = 5 := rfl
@[simp] theorem rs_impl_size_int64 : fa_impl_size_int64.rs = [.tmp 2] := rfl
@[simp] theorem fz_impl_size_int64 : fa_impl_size_int64.fz = true := rfl
@[simp] theorem rsh_impl_size_int64 : fa_impl_size_int64.rsh = .any := rfl
theorem go_impl_size_int64 {args : List PV} {σ : List AObj} {r : PV × List AObj} (hl : args.length ≤ 5) (h : rE fns fa_impl_size_int64 σ.length [.code ac_impl_size_int64] (frA 0 args) σ = some r) : ev fns i_impl_size_int64 args σ = some r := ev_go n_impl_size_int64 hl h
@[simp] theorem nt_impl_isReturn : fa_impl_isReturn.nt = 9 := rfl
@[simp] theorem rs_impl_isReturn : fa_impl_isReturn.rs = [.tmp 2] := rfl
@[simp] theorem fz_impl_isReturn : fa_impl_isReturn.fz = true := rfl
@[simp] theorem rsh_impl_isReturn : fa_impl_isReturn.rsh = .any := rfl
theorem go_impl_isReturn {args : List PV} {σ : List AObj} {r : PV × List AObj} (hl : args.length ≤ 9) (h : rE fns fa_impl_isReturn σ.length [.code ac_impl_isReturn] (frA 0 args) σ = some r) : ev fns i_impl_isReturn args σ = some r := ev_go n_impl_isReturn hl h
@[simp] theorem nt_impl_match : fa_impl_match.nt = 101 := rfl
@[simp] theorem rs_impl_match : fa_impl_match.rs = [.cell 2 5 true] := rfl
@[simp] theorem fz_impl_match : fa_impl_match.fz = true := rfl
@[simp] theorem rsh_impl_match : fa_impl_match.rsh = .any := rfl
theorem go_impl_match {args : List PV} {σ : List AObj} {r : PV × List AObj} (hl : args.length ≤ 101) (h : rE fns fa_impl_match σ.length [.code ac_impl_match] (frA 0 args) σ = some r) : ev fns i_impl_match args σ = some r := ev_go n_impl_match hl h
theorem l_impl_match_0 {ks : List KI} {l : Fr} {σ : List AObj} {n0 : Nat} : rE fns fa_impl_match n0 (.code lo_impl_match_0 :: ks) l σ = rE fns fa_impl_match n0 (.code lb_impl_match_0 :: .code lo_impl_match_0 :: ks) l σ := rE_loop
@[simp] theorem nt_impl_isMatched : fa_impl_isMatched.nt = 14 := rfl
@[simp] theorem rs_impl_isMatched : fa_impl_isMatched.rs = [.tmp 2] := rfl
@[simp] theorem fz_impl_isMatched : fa_impl_isMatched.fz = true := rfl
@[simp] theorem rsh_impl_isMatched : fa_impl_isMatched.rsh = .any := rfl
theorem go_impl_isMatched {args : List PV} {σ : List AObj} {r : PV × List AObj} (hl : args.length ≤ 14) (h : rE fns fa_impl_isMatched σ.length [.code ac_impl_isMatched] (frA 0 args) σ = some r) : ev fns i_impl_isMatched args σ = some r := ev_go n_impl_isMatched hl h
@[simp] theorem nt_impl_isBrackets : fa_impl_isBrackets.nt = 16 := rfl
@[simp] theorem rs_impl_isBrackets : fa_impl_isBrackets.rs = [.tmp 2] := rfl
@[simp] theorem fz_impl_isBrackets : fa_impl_isBrackets.fz = true := rfl
@[simp] theorem rsh_impl_isBrackets : fa_impl_isBrackets.rsh = .any := rfl
theorem go_impl_isBrackets {args : List PV} {σ : List AObj} {r : PV × List AObj} (hl : args.length ≤ 16) (h : rE fns fa_impl_isBrackets σ.length [.code ac_impl_isBrackets] (frA 0 args) σ = some r) : ev fns i_impl_isBrackets args σ = some r := ev_go n_impl_isBrackets hl h
@[simp] theorem nt_impl_ValidTreeEdit : fa_impl_ValidTreeEdit.nt = 56 := rfl
@[simp] theorem rs_impl_ValidTreeEdit : fa_impl_ValidTreeEdit.rs = [.tmp 2] := rfl
@[simp] theorem fz_impl_ValidTreeEdit : fa_impl_ValidTreeEdit.fz = true := rfl
@[simp] theorem rsh_impl_ValidTreeEdit : fa_impl_ValidTreeEdit.rsh = .any := rfl
theorem go_impl_ValidTreeEdit {args : List PV} {σ : List AObj} {r : PV × List AObj} (hl : args.length ≤ 56) (h : rE fns fa_impl_ValidTreeEdit σ.length [.code ac_impl_ValidTreeEdit] (frA 0 args) σ = some r) : ev fns i_impl_ValidTreeEdit args σ = some r := ev_go n_impl_ValidTreeEdit hl h
@[simp] theorem nt_impl_EditTrees_1 : fa_impl_EditTrees_1.nt = 6 := rfl
@[simp] theorem rs_impl_EditTrees_1 : fa_impl_EditTrees_1.rs = [.tmp 2] := rfl
@[simp] theorem fz_impl_EditTrees_1 : fa_impl_EditTrees_1.fz = true := rfl
@[simp] theorem rsh_impl_EditTrees_1 : fa_impl_EditTrees_1.rsh = .any := rfl
theorem go_impl_EditTrees_1 {args : List PV} {σ : List AObj} {r : PV × List AObj} (hl : args.length ≤ 6) (h : rE fns fa_impl_EditTrees_1 σ.length [.code ac_impl_EditTrees_1] (frA 0 args) σ = some r) : ev fns i_impl_EditTrees_1 args σ = some r := ev_go n_impl_EditTrees_1 hl h
@[simp] theorem nt_impl_bodyAt : fa_impl_bodyAt.nt = 34 := rfl
@[simp] theorem rs_impl_bodyAt : fa_impl_bodyAt.rs = [.tmp 4, .tmp 5] := rfl
@[simp] theorem fz_impl_bodyAt : fa_impl_bodyAt.fz = true := rfl
@[simp] theorem rsh_impl_bodyAt : fa_impl_bodyAt.rsh = .any := rfl
theorem go_impl_bodyAt {args : List PV} {σ : List AObj} {r : PV × List AObj} (hl : args.length ≤ 34) (h : rE fns fa_impl_bodyAt σ.length [.code ac_impl_bodyAt] (frA 0 args) σ = some r) : ev fns i_impl_bodyAt args σ = some r := ev_go n_impl_bodyAt hl h
@[simp] theorem nt_impl_orLimit : fa_impl_orLimit.nt = 8 := rfl
@[simp] theorem rs_impl_orLimit : fa_impl_orLimit.rs = [.tmp 2, .tmp 3] := rfl
@[simp] theorem fz_impl_orLimit : fa_impl_orLimit.fz = true := rfl
@[simp] theorem rsh_impl_orLimit : fa_impl_orLimit.rsh = .any := rfl
theorem go_impl_orLimit {args : List PV} {σ : List AObj} {r : PV × List AObj} (hl : args.length ≤ 8) (h : rE fns fa_impl_orLimit σ.length [.code ac_impl_orLimit] (frA 0 args) σ = some r) : ev fns i_impl_orLimit args σ = some r := ev_go n_impl_orLimit hl h
@[simp] theorem nt_impl_PutAt : fa_impl_PutAt.nt = 39 := rfl
@[simp] theorem rs_impl_PutAt : fa_impl_PutAt.rs = [.tmp 6, .tmp 7] := rfl
@[simp] theorem fz_impl_PutAt : fa_impl_PutAt.fz = true := rfl
@[simp] theorem rsh_impl_PutAt : fa_impl_PutAt.rsh = .any := rfl
theorem go_impl_PutAt {args : List PV} {σ : List AObj} {r : PV × List AObj} (hl : args.length ≤ 39) (h : rE fns fa_impl_PutAt σ.length [.code ac_impl_PutAt] (frA 0 args) σ = some r) : ev fns i_impl_PutAt args σ = some r := ev_go n_impl_PutAt hl h
@[simp] theorem nt_impl_CutMatched : fa_impl_CutMatched.nt = 25 := rfl
@[simp] theorem rs_impl_CutMatched : fa_impl_CutMatched.rs = [.tmp 4, .tmp 5] := rfl
@[simp] theorem fz_impl_CutMatched : fa_impl_CutMatched.fz = true := rfl
@[simp] theorem rsh_impl_CutMatched : fa_impl_CutMatched.rsh = .any := rfl
theorem go_impl_CutMatched {args : List PV} {σ : List AObj} {r : PV × List AObj} (hl : args.length ≤ 25) (h : rE fns fa_impl_CutMatched σ.length [.code ac_impl_CutMatched] (frA 0 args) σ = some r) : ev fns i_impl_CutMatched args σ = some r := ev_go n_impl_CutMatched hl h
@[simp] theorem nt_impl_editTree : fa_impl_editTree.nt = 121 := rfl
@[simp] theorem rs_impl_editTree : fa_impl_editTree.rs = [.tmp 4, .tmp 5] := rfl
@[simp] theorem fz_impl_editTree : fa_impl_editTree.fz = true := rfl
@[simp] theorem rsh_impl_editTree : fa_impl_editTree.rsh = .any := rfl
theorem go_impl_editTree {args : List PV} {σ : List AObj} {r : PV × List AObj} (hl : args.length ≤ 121) (h : rE fns fa_impl_editTree σ.length [.code ac_impl_editTree] (frA 0 args) σ = some r) : ev fns i_impl_editTree args σ = some r := ev_go n_impl_editTree hl h
@[simp] theorem nt_impl_EditTrees : fa_impl_EditTrees.nt = 44 := rfl
@[simp] theorem rs_impl_EditTrees : fa_impl_EditTrees.rs = [.tmp 4, .tmp 5, .tmp 6] := rfl
@[simp] theorem fz_impl_EditTrees : fa_impl_EditTrees.fz = true := rfl
@[simp] theorem rsh_impl_EditTrees : fa_impl_EditTrees.rsh = .any := rfl
theorem go_impl_EditTrees {args : List PV} {σ : List AObj} {r : PV × List AObj} (hl : args.length ≤ 44) (h : rE fns fa_impl_EditTrees σ.length [.code ac_impl_EditTrees] (frA 0 args) σ = some r) : ev fns i_impl_EditTrees args σ = some r := ev_go n_impl_EditTrees hl h
theorem l_impl_EditTrees_0 {ks : List KI} {l : Fr} {σ : List AObj} {n0 : Nat} : rE fns fa_impl_EditTrees n0 (.code lo_impl_EditTrees_0 :: ks) l σ = rE fns fa_impl_EditTrees n0 (.code lb_impl_EditTrees_0 :: .code lo_impl_EditTrees_0 :: ks) l σ := rE_loop
@[simp] theorem nt_laws_eqTreeEdit : fa_laws_eqTreeEdit.nt = 25 := rfl
@[simp] theorem rs_laws_eqTreeEdit : fa_laws_eqTreeEdit.rs = [.tmp 4] := rfl
@[simp] theorem fz_laws_eqTreeEdit : fa_laws_eqTreeEdit.fz = true := rfl
@[simp] theorem rsh_laws_eqTreeEdit : fa_laws_eqTreeEdit.rsh = .any := rfl
theorem go_laws_eqTreeEdit {args : List PV} {σ : List AObj} {r : PV × List AObj} (hl : args.length ≤ 25) (h : rE fns fa_laws_eqTreeEdit σ.length [.code ac_laws_eqTreeEdit] (frA 0 args) σ = some r) : ev fns i_laws_eqTreeEdit args σ = some r := ev_go n_laws_eqTreeEdit hl h
@[simp] theorem nt_laws_eqTreeEditS : fa_laws_eqTreeEditS.nt = 27 := rfl
@[simp] theorem rs_laws_eqTreeEditS : fa_laws_eqTreeEditS.rs = [.tmp 4] := rfl
@[simp] theorem fz_laws_eqTreeEditS : fa_laws_eqTreeEditS.fz = true := rfl
@[simp] theorem rsh_laws_eqTreeEditS : fa_laws_eqTreeEditS.rsh = .any := rfl
theorem go_laws_eqTreeEditS {args : List PV} {σ : List AObj} {r : PV × List AObj} (hl : args.length ≤ 27) (h : rE fns fa_laws_eqTreeEditS σ.length [.code ac_laws_eqTreeEditS] (frA 0 args) σ = some r) : ev fns i_laws_eqTreeEditS args σ = some r := ev_go n_laws_eqTreeEditS hl h
theorem l_laws_eqTreeEditS_0 {ks : List KI} {l : Fr} {σ : List AObj} {n0 : Nat} : rE fns fa_laws_eqTreeEditS n0 (.code lo_laws_eqTreeEditS_0 :: ks) l σ = rE fns fa_laws_eqTreeEditS n0 (.code lb_laws_eqTreeEditS_0 :: .code lo_laws_eqTreeEditS_0 :: ks) l σ := rE_loop
@[simp] theorem nt_laws_FnExactEditTrees : fa_laws_FnExactEditTrees.nt = 56 := rfl
@[simp] theorem rs_laws_FnExactEditTrees : fa_laws_FnExactEditTrees.rs = [.tmp 4] := rfl
@[simp] theorem fz_laws_FnExactEditTrees : fa_laws_FnExactEditTrees.fz = true := rfl
@[simp] theorem rsh_laws_FnExactEditTrees : fa_laws_FnExactEditTrees.rsh = .any := rfl
theorem go_laws_FnExactEditTrees {args : List PV} {σ : List AObj} {r : PV × List AObj} (hl : args.length ≤ 56) (h : rE fns fa_laws_FnExactEditTrees σ.length [.code ac_laws_FnExactEditTrees] (frA 0 args) σ = some r) : ev fns i_laws_FnExactEditTrees args σ = some r := ev_go n_laws_FnExactEditTrees hl h
@[simp] theorem nt_spec_l06Given : fa_spec_l06Given.nt = 13 := rfl
@[simp] theorem rs_spec_l06Given : fa_spec_l06Given.rs = [.tmp 4] := rfl
@[simp] theorem fz_spec_l06Given : fa_spec_l06Given.fz = true := rfl
@[simp] theorem rsh_spec_l06Given : fa_spec_l06Given.rsh = .any := rfl
theorem go_spec_l06Given {args : List PV} {σ : List AObj} {r : PV × List AObj} (hl : args.length ≤ 13) (h : rE fns fa_spec_l06Given σ.length [.code ac_spec_l06Given] (frA 0 args) σ = some r) : ev fns i_spec_l06Given args σ = some r := ev_go n_spec_l06Given hl h
@[simp] theorem nt_spec_l01Factors : fa_spec_l01Factors.nt = 34 := rfl
@[simp] theorem rs_spec_l01Factors : fa_spec_l01Factors.rs = [.tmp 2] := rfl
@[simp] theorem fz_spec_l01Factors : fa_spec_l01Factors.fz = true := rfl
@[simp] theorem rsh_spec_l01Factors : fa_spec_l01Factors.rsh = .any := rfl
theorem go_spec_l01Factors {args : List PV} {σ : List AObj} {r : PV × List AObj} (hl : args.length ≤ 34) (h : rE fns fa_spec_l01Factors σ.length [.code ac_spec_l01Factors] (frA 0 args) σ = some r) : ev fns i_spec_l01Factors args σ = some r := ev_go n_spec_l01Factors hl h
theorem l_spec_l01Factors_0 {ks : List KI} {l : Fr} {σ : List AObj} {n0 : Nat} : rE fns fa_spec_l01Factors n0 (.code lo_spec_l01Factors_0 :: ks) l σ = rE fns fa_spec_l01Factors n0 (.code lb_spec_l01Factors_0 :: .code lo_spec_l01Factors_0 :: ks) l σ := rE_loop
@[simp] theorem nt_spec_UndoTreeEdit : fa_spec_UndoTreeEdit.nt = 100 := rfl
@[simp] theorem rs_spec_UndoTreeEdit : fa_spec_UndoTreeEdit.rs = [.cell 4 4 true, .tmp 5] := rfl
@[simp] theorem fz_spec_UndoTreeEdit : fa_spec_UndoTreeEdit.fz = true := rfl
@[simp] theorem rsh_spec_UndoTreeEdit : fa_spec_UndoTreeEdit.rsh = .any := rfl
theorem go_spec_UndoTreeEdit {args : List PV} {σ : List AObj} {r : PV × List AObj} (hl : args.length ≤ 100) (h : rE fns fa_spec_UndoTreeEdit σ.length [.code ac_spec_UndoTreeEdit] (frA 0 args) σ = some r) : ev fns i_spec_UndoTreeEdit args σ = some r := ev_go n_spec_UndoTreeEdit hl h
@[simp] theorem nt_impl_EditTree : fa_impl_EditTree.nt = 19 := rfl
@[simp] theorem rs_impl_EditTree : fa_impl_EditTree.rs = [.tmp 4, .tmp 5] := rfl
@[simp] theorem fz_impl_EditTree : fa_impl_EditTree.fz = true := rfl
@[simp] theorem rsh_impl_EditTree : fa_impl_EditTree.rsh = .any := rfl
theorem go_impl_EditTree {args : List PV} {σ : List AObj} {r : PV × List AObj} (hl : args.length ≤ 19) (h : rE fns fa_impl_EditTree σ.length [.code ac_impl_EditTree] (frA 0 args) σ = some r) : ev fns i_impl_EditTree args σ = some r := ev_go n_impl_EditTree hl h
@[simp] theorem nt_impl_factors : fa_impl_factors.nt = 32 := rfl
@[simp] theorem rs_impl_factors : fa_impl_factors.rs = [.tmp 2] := rfl
@[simp] theorem fz_impl_factors : fa_impl_factors.fz = true := rfl
@[simp] theorem rsh_impl_factors : fa_impl_factors.rsh = .any := rfl
theorem go_impl_factors {args : List PV} {σ : List AObj} {r : PV × List AObj} (hl : args.length ≤ 32) (h : rE fns fa_impl_factors σ.length [.code ac_impl_factors] (frA 0 args) σ = some r) : ev fns i_impl_factors args σ = some r := ev_go n_impl_factors hl h
theorem l_impl_factors_0 {ks : List KI} {l : Fr} {σ : List AObj} {n0 : Nat} : rE fns fa_impl_factors n0 (.code lo_impl_factors_0 :: ks) l σ = rE fns fa_impl_factors n0 (.code lb_impl_factors_0 :: .code lo_impl_factors_0 :: ks) l σ := rE_loop
@[simp] theorem nt_impl_UndoTreeEdit : fa_impl_UndoTreeEdit.nt = 100 := rfl
@[simp] theorem rs_impl_UndoTreeEdit : fa_impl_UndoTreeEdit.rs = [.cell 4 4 true, .tmp 5] := rfl
@[simp] theorem fz_impl_UndoTreeEdit : fa_impl_UndoTreeEdit.fz = true := rfl
@[simp] theorem rsh_impl_UndoTreeEdit : fa_impl_UndoTreeEdit.rsh = .any := rfl
theorem go_impl_UndoTreeEdit {args : List PV} {σ : List AObj} {r : PV × List AObj} (hl : args.length ≤ 100) (h : rE fns fa_impl_UndoTreeEdit σ.length [.code ac_impl_UndoTreeEdit] (frA 0 args) σ = some r) : ev fns i_impl_UndoTreeEdit args σ = some r := ev_go n_impl_UndoTreeEdit hl h
@[simp] theorem nt_laws_FnExactUndoTreeEdit : fa_laws_FnExactUndoTreeEdit.nt = 41 := rfl
@[simp] theorem rs_laws_FnExactUndoTreeEdit : fa_laws_FnExactUndoTreeEdit.rs = [.tmp 4] := rfl
@[simp] theorem fz_laws_FnExactUndoTreeEdit : fa_laws_FnExactUndoTreeEdit.fz = true := rfl
@[simp] theorem rsh_laws_FnExactUndoTreeEdit : fa_laws_FnExactUndoTreeEdit.rsh = .any := rfl
theorem go_laws_FnExactUndoTreeEdit {args : List PV} {σ : List AObj} {r : PV × List AObj} (hl : args.length ≤ 41) (h : rE fns fa_laws_FnExactUndoTreeEdit σ.length [.code ac_laws_FnExactUndoTreeEdit] (frA 0 args) σ = some r) : ev fns i_laws_FnExactUndoTreeEdit args σ = some r := ev_go n_laws_FnExactUndoTreeEdit hl h
@[simp] theorem nt_spec_l06Has : fa_spec_l06Has.nt = 22 := rfl
@[simp] theorem rs_spec_l06Has : fa_spec_l06Has.rs = [.tmp 6] := rfl
@[simp] theorem fz_spec_l06Has : fa_spec_l06Has.fz = true := rfl
@[simp] theorem rsh_spec_l06Has : fa_spec_l06Has.rsh = .any := rfl
theorem go_spec_l06Has {args : List PV} {σ : List AObj} {r : PV × List AObj} (hl : args.length ≤ 22) (h : rE fns fa_spec_l06Has σ.length [.code ac_spec_l06Has] (frA 0 args) σ = some r) : ev fns i_spec_l06Has args σ = some r := ev_go n_spec_l06Has hl h
@[simp] theorem nt_spec_l06Structural : fa_spec_l06Structural.nt = 78 := rfl
@[simp] theorem rs_spec_l06Structural : fa_spec_l06Structural.rs = [.tmp 2] := rfl
@[simp] theorem fz_spec_l06Structural : fa_spec_l06Structural.fz = true := rfl
@[simp] theorem rsh_spec_l06Structural : fa_spec_l06Structural.rsh = .any := rfl
theorem go_spec_l06Structural {args : List PV} {σ : List AObj} {r : PV × List AObj} (hl : args.length ≤ 78) (h : rE fns fa_spec_l06Structural σ.length [.code ac_spec_l06Structural] (frA 0 args) σ = some r) : ev fns i_spec_l06Structural args σ = some r := ev_go n_spec_l06Structural hl h
theorem l_spec_l06Structural_0 {ks : List KI} {l : Fr} {σ : List AObj} {n0 : Nat} : rE fns fa_spec_l06Structural n0 (.code lo_spec_l06Structural_0 :: ks) l σ = rE fns fa_spec_l06Structural n0 (.code lb_spec_l06Structural_0 :: .code lo_spec_l06Structural_0 :: ks) l σ := rE_loop
theorem l_spec_l06Structural_1 {ks : List KI} {l : Fr} {σ : List AObj} {n0 : Nat} : rE fns fa_spec_l06Structural n0 (.code lo_spec_l06Structural_1 :: ks) l σ = rE fns fa_spec_l06Structural n0 (.code lb_spec_l06Structural_1 :: .code lo_spec_l06Structural_1 :: ks) l σ := rE_loop
theorem l_spec_l06Structural_2 {ks : List KI} {l : Fr} {σ : List AObj} {n0 : Nat} : rE fns fa_spec_l06Structural n0 (.code lo_spec_l06Structural_2 :: ks) l σ = rE fns fa_spec_l06Structural n0 (.code lb_spec_l06Structural_2 :: .code lo_spec_l06Structural_2 :: ks) l σ := rE_loop
@[simp] theorem nt_spec_IsStructural : fa_spec_IsStructural.nt = 7 := rfl
@[simp] theorem rs_spec_IsStructural : fa_spec_IsStructural.rs = [.tmp 2, .tmp 3] := rfl
@[simp] theorem fz_spec_IsStructural : fa_spec_IsStructural.fz = true := rfl
@[simp] theorem rsh_spec_IsStructural : fa_spec_IsStructural.rsh = .any := rfl
theorem go_spec_IsStructural {args : List PV} {σ : List AObj} {r : PV × List AObj} (hl : args.length ≤ 7) (h : rE fns fa_spec_IsStructural σ.length [.code ac_spec_IsStructural] (frA 0 args) σ = some r) : ev fns i_spec_IsStructural args σ = some r := ev_go n_spec_IsStructural hl h
@[simp] theorem nt_impl_isPending : fa_impl_isPending.nt = 22 := rfl
@[simp] theorem rs_impl_isPending : fa_impl_isPending.rs = [.tmp 6] := rfl
@[simp] theorem fz_impl_isPending : fa_impl_isPending.fz = true := rfl
@[simp] theorem rsh_impl_isPending : fa_impl_isPending.rsh = .any := rfl
theorem go_impl_isPending {args : List PV} {σ : List AObj} {r : PV × List AObj} (hl : args.length ≤ 22) (h : rE fns fa_impl_isPending σ.length [.code ac_impl_isPending] (frA 0 args) σ = some r) : ev fns i_impl_isPending args σ = some r := ev_go n_impl_isPending hl h
@[simp] theorem nt_impl_Rewriter_isStructural_1 : fa_impl_Rewriter_isStructural_1.nt = 7 := rfl
@[simp] theorem rs_impl_Rewriter_isStructural_1 : fa_impl_Rewriter_isStructural_1.rs = [.tmp 2] := rfl
@[simp] theorem fz_impl_Rewriter_isStructural_1 : fa_impl_Rewriter_isStructural_1.fz = true := rfl
@[simp] theorem rsh_impl_Rewriter_isStructural_1 : fa_impl_Rewriter_isStructural_1.rsh = .any := rfl
theorem go_impl_Rewriter_isStructural_1 {args : List PV} {σ : List AObj} {r : PV × List AObj} (hl : args.length ≤ 7) (h : rE fns fa_impl_Rewriter_isStructural_1 σ.length [.code ac_impl_Rewriter_isStructural_1] (frA 0 args) σ = some r) : ev fns i_impl_Rewriter_isStructural_1 args σ = some r := ev_go n_impl_Rewriter_isStructural_1 hl h
@[simp] theorem nt_impl_Rewriter_isStructural : fa_impl_Rewriter_isStructural.nt = 51 := rfl
@[simp] theorem rs_impl_Rewriter_isStructural : fa_impl_Rewriter_isStructural.rs = [.tmp 2] := rfl
@[simp] theorem fz_impl_Rewriter_isStructural : fa_impl_Rewriter_isStructural.fz = true := rfl
@[simp] theorem rsh_impl_Rewriter_isStructural : fa_impl_Rewriter_isStructural.rsh = .any := rfl
theorem go_impl_Rewriter_isStructural {args : List PV} {σ : List AObj} {r : PV × List AObj} (hl : args.length ≤ 51) (h : rE fns fa_impl_Rewriter_isStructural σ.length [.code ac_impl_Rewriter_isStructural] (frA 0 args) σ = some r) : ev fns i_impl_Rewriter_isStructural args σ = some r := ev_go n_impl_Rewriter_isStructural hl h
theorem l_impl_Rewriter_isStructural_0 {ks : List KI} {l : Fr} {σ : List AObj} {n0 : Nat} : rE fns fa_impl_Rewriter_isStructural n0 (.code lo_impl_Rewriter_isStructural_0 :: ks) l σ = rE fns fa_impl_Rewriter_isStructural n0 (.code lb_impl_Rewriter_isStructural_0 :: .code lo_impl_Rewriter_isStructural_0 :: ks) l σ := rE_loop
theorem l_impl_Rewriter_isStructural_1 {ks : List KI} {l : Fr} {σ : List AObj} {n0 : Nat} : rE fns fa_impl_Rewriter_isStructural n0 (.code lo_impl_Rewriter_isStructural_1 :: ks) l σ = rE fns fa_impl_Rewriter_isStructural n0 (.code lb_impl_Rewriter_isStructural_1 :: .code lo_impl_Rewriter_isStructural_1 :: ks) l σ := rE_loop
@[simp] theorem nt_impl_IsStructural : fa_impl_IsStructural.nt = 9 := rfl
@[simp] theorem rs_impl_IsStructural : fa_impl_IsStructural.rs = [.tmp 2, .tmp 3] := rfl
@[simp] theorem fz_impl_IsStructural : fa_impl_IsStructural.fz = true := rfl
@[simp] theorem rsh_impl_IsStructural : fa_impl_IsStructural.rsh = .any := rfl
theorem go_impl_IsStructural {args : List PV} {σ : List AObj} {r : PV × List AObj} (hl : args.length ≤ 9) (h : rE fns fa_impl_IsStructural σ.length [.code ac_impl_IsStructural] (frA 0 args) σ = some r) : ev fns i_impl_IsStructural args σ = some r := ev_go n_impl_IsStructural hl h
@[simp] theorem nt_laws_FnExactIsStructural : fa_laws_FnExactIsStructural.nt = 40 := rfl
@[simp] theorem rs_laws_FnExactIsStructural : fa_laws_FnExactIsStructural.rs = [.tmp 2] := rfl
@[simp] theorem fz_laws_FnExactIsStructural : fa_laws_FnExactIsStructural.fz = true := rfl
@[simp] theorem rsh_laws_FnExactIsStructural : fa_laws_FnExactIsStructural.rsh = .any := rfl
theorem go_laws_FnExactIsStructural {args : List PV} {σ : List AObj} {r : PV × List AObj} (hl : args.length ≤ 40) (h : rE fns fa_laws_FnExactIsStructural σ.length [.code ac_laws_FnExactIsStructural] (frA 0 args) σ = some r) : ev fns i_laws_FnExactIsStructural args σ = some r := ev_go n_laws_FnExactIsStructural hl h
@[simp] theorem nt_spec_l00Own : fa_spec_l00Own.nt = 6 := rfl
@[simp] theorem rs_spec_l00Own : fa_spec_l00Own.rs = [.tmp 2] := rfl
@[simp] theorem fz_spec_l00Own : fa_spec_l00Own.fz = true := rfl
@[simp] theorem rsh_spec_l00Own : fa_spec_l00Own.rsh = .any := rfl
theorem go_spec_l00Own {args : List PV} {σ : List AObj} {r : PV × List AObj} (hl : args.length ≤ 6) (h : rE fns fa_spec_l00Own σ.length [.code ac_spec_l00Own] (frA 0 args) σ = some r) : ev fns i_spec_l00Own args σ = some r := ev_go n_spec_l00Own hl h
@[simp] theorem nt_P_spec_l06Run_read : fa_P_spec_l06Run_read.nt = 153 := rfl
@[simp] theorem rs_P_spec_l06Run_read : fa_P_spec_l06Run_read.rs = [] := rfl
@[simp] theorem fz_P_spec_l06Run_read : fa_P_spec_l06Run_read.fz = false := rfl
@[simp] theorem rsh_P_spec_l06Run_read : fa_P_spec_l06Run_read.rsh = .any := rfl
theorem go_P_spec_l06Run_read {args : List PV} {σ : List AObj} {r : PV × List AObj} (hl : args.length ≤ 153) (h : rE fns fa_P_spec_l06Run_read σ.length [.code ac_P_spec_l06Run_read] (frA 0 args) σ = some r) : ev fns i_P_spec_l06Run_read args σ = some r := ev_go n_P_spec_l06Run_read hl h
@[simp] theorem nt_spec_l06Reads : fa_spec_l06Reads.nt = 29 := rfl
@[simp] theorem rs_spec_l06Reads : fa_spec_l06Reads.rs = [.tmp 8] := rfl
@[simp] theorem fz_spec_l06Reads : fa_spec_l06Reads.fz = false := rfl
@[simp] theorem rsh_spec_l06Reads : fa_spec_l06Reads.rsh = .any := rfl
theorem go_spec_l06Reads {args : List PV} {σ : List AObj} {r : PV × List AObj} (hl : args.length ≤ 29) (h : rE fns fa_spec_l06Reads σ.length [.code ac_spec_l06Reads] (frA 0 args) σ = some r) : ev fns i_spec_l06Reads args σ = some r := ev_go n_spec_l06Reads hl h
theorem l_spec_l06Reads_0 {ks : List KI} {l : Fr} {σ : List AObj} {n0 : Nat} : rE fns fa_spec_l06Reads n0 (.code lo_spec_l06Reads_0 :: ks) l σ = rE fns fa_spec_l06Reads n0 (.code lb_spec_l06Reads_0 :: .code lo_spec_l06Reads_0 :: ks) l σ := rE_loop
@[simp] theorem nt_spec_Rewrite : fa_spec_Rewrite.nt = 30 := rfl
@[simp] theorem rs_spec_Rewrite : fa_spec_Rewrite.rs = [.tmp 4, .tmp 5] := rfl
@[simp] theorem fz_spec_Rewrite : fa_spec_Rewrite.fz = true := rfl
@[simp] theorem rsh_spec_Rewrite : fa_spec_Rewrite.rsh = .any := rfl
theorem go_spec_Rewrite {args : List PV} {σ : List AObj} {r : PV × List AObj} (hl : args.length ≤ 30) (h : rE fns fa_spec_Rewrite σ.length [.code ac_spec_Rewrite] (frA 0 args) σ = some r) : ev fns i_spec_Rewrite args σ = some r := ev_go n_spec_Rewrite hl h
@[simp] theorem nt_slices_Clone_L_int64 : fa_slices_Clone_L_int64.nt = 8 := rfl
@[simp] theorem rs_slices_Clone_L_int64 : fa_slices_Clone_L_int64.rs = [.tmp 2] := rfl
@[simp] theorem fz_slices_Clone_L_int64 : fa_slices_Clone_L_int64.fz = false := rfl
@[simp] theorem rsh_slices_Clone_L_int64 : fa_slices_Clone_L_int64.rsh = .any := rfl
theorem go_slices_Clone_L_int64 {args : List PV} {σ : List AObj} {r : PV × List AObj} (hl : args.length ≤ 8) (h : rE fns fa_slices_Clone_L_int64 σ.length [.code ac_slices_Clone_L_int64] (frA 0 args) σ = some r) : ev fns i_slices_Clone_L_int64 args σ = some r := ev_go n_slices_Clone_L_int64 hl h
@[simp] theorem nt_impl_kindOf : fa_impl_kindOf.nt = 6 := rfl
@[simp] theorem rs_impl_kindOf : fa_impl_kindOf.rs = [.tmp 2] := rfl
@[simp] theorem fz_impl_kindOf : fa_impl_kindOf.fz = true := rfl
@[simp] theorem rsh_impl_kindOf : fa_impl_kindOf.rsh = .any := rfl
theorem go_impl_kindOf {args : List PV} {σ : List AObj} {r : PV × List AObj} (hl : args.length ≤ 6) (h : rE fns fa_impl_kindOf σ.length [.code ac_impl_kindOf] (frA 0 args) σ = some r) : ev fns i_impl_kindOf args σ = some r := ev_go n_impl_kindOf hl h
@[simp] theorem nt_impl_isInner : fa_impl_isInner.nt = 9 := rfl
@[simp] theorem rs_impl_isInner : fa_impl_isInner.rs = [.tmp 2] := rfl
@[simp] theorem fz_impl_isInner : fa_impl_isInner.fz = true := rfl
@[simp] theorem rsh_impl_isInner : fa_impl_isInner.rsh = .any := rfl
theorem go_impl_isInner {args : List PV} {σ : List AObj} {r : PV × List AObj} (hl : args.length ≤ 9) (h : rE fns fa_impl_isInner σ.length [.code ac_impl_isInner] (frA 0 args) σ = some r) : ev fns i_impl_isInner args σ = some r := ev_go n_impl_isInner hl h
@[simp] theorem nt_P_strings_Builder_WriteString : fa_P_strings_Builder_WriteString.nt = 19 := rfl
@[simp] theorem rs_P_strings_Builder_WriteString : fa_P_strings_Builder_WriteString.rs = [.tmp 4, .tmp 5] := rfl
@[simp] theorem fz_P_strings_Builder_WriteString : fa_P_strings_Builder_WriteString.fz = false := rfl
@[simp] theorem rsh_P_strings_Builder_WriteString : fa_P_strings_Builder_WriteString.rsh = .any := rfl
theorem go_P_strings_Builder_WriteString {args : List PV} {σ : List AObj} {r : PV × List AObj} (hl : args.length ≤ 19) (h : rE fns fa_P_strings_Builder_WriteString σ.length [.code ac_P_strings_Builder_WriteString] (frA 0 args) σ = some r) : ev fns i_P_strings_Builder_WriteString args σ = some r := ev_go n_P_strings_Builder_WriteString hl h
@[simp] theorem nt_impl_Rewriter_rewrite : fa_impl_Rewriter_rewrite.nt = 102 := rfl
@[simp] theorem rs_impl_Rewriter_rewrite : fa_impl_Rewriter_rewrite.rs = [.tmp 8, .tmp 9, .tmp 10] := rfl
@[simp] theorem fz_impl_Rewriter_rewrite : fa_impl_Rewriter_rewrite.fz = true := rfl
@[simp] theorem rsh_impl_Rewriter_rewrite : fa_impl_Rewriter_rewrite.rsh = .any := rfl
theorem go_impl_Rewriter_rewrite {args : List PV} {σ : List AObj} {r : PV × List AObj} (hl : args.length ≤ 102) (h : rE fns fa_impl_Rewriter_rewrite σ.length [.code ac_impl_Rewriter_rewrite] (frA 0 args) σ = some r) : ev fns i_impl_Rewriter_rewrite args σ = some r := ev_go n_impl_Rewriter_rewrite hl h
theorem l_impl_Rewriter_rewrite_0 {ks : List KI} {l : Fr} {σ : List AObj} {n0 : Nat} : rE fns fa_impl_Rewriter_rewrite n0 (.code lo_impl_Rewriter_rewrite_0 :: ks) l σ = rE fns fa_impl_Rewriter_rewrite n0 (.code lb_impl_Rewriter_rewrite_0 :: .code lo_impl_Rewriter_rewrite_0 :: ks) l σ := rE_loop
@[simp] theorem nt_impl_Rewrite : fa_impl_Rewrite.nt = 30 := rfl
@[simp] theorem rs_impl_Rewrite : fa_impl_Rewrite.rs = [.tmp 4, .tmp 5] := rfl
@[simp] theorem fz_impl_Rewrite : fa_impl_Rewrite.fz = true := rfl
@[simp] theorem rsh_impl_Rewrite : fa_impl_Rewrite.rsh = .any := rfl
theorem go_impl_Rewrite {args : List PV} {σ : List AObj} {r : PV × List AObj} (hl : args.length ≤ 30) (h : rE fns fa_impl_Rewrite σ.length [.code ac_impl_Rewrite] (frA 0 args) σ = some r) : ev fns i_impl_Rewrite args σ = some r := ev_go n_impl_Rewrite hl h
@[simp] theorem nt_laws_FnExactRewrite : fa_laws_FnExactRewrite.nt = 47 := rfl
@[simp] theorem rs_laws_FnExactRewrite : fa_laws_FnExactRewrite.rs = [.tmp 4] := rfl
@[simp] theorem fz_laws_FnExactRewrite : fa_laws_FnExactRewrite.fz = true := rfl
@[simp] theorem rsh_laws_FnExactRewrite : fa_laws_FnExactRewrite.rsh = .any := rfl
theorem go_laws_FnExactRewrite {args : List PV} {σ : List AObj} {r : PV × List AObj} (hl : args.length ≤ 47) (h : rE fns fa_laws_FnExactRewrite σ.length [.code ac_laws_FnExactRewrite] (frA 0 args) σ = some r) : ev fns i_laws_FnExactRewrite args σ = some r := ev_go n_laws_FnExactRewrite hl h
@[simp] theorem nt_laws_szBoolS : fa_laws_szBoolS.nt = 12 := rfl
@[simp] theorem rs_laws_szBoolS : fa_laws_szBoolS.rs = [.tmp 4] := rfl
@[simp] theorem fz_laws_szBoolS : fa_laws_szBoolS.fz = true := rfl
@[simp] theorem rsh_laws_szBoolS : fa_laws_szBoolS.rsh = .any := rfl
theorem go_laws_szBoolS {args : List PV} {σ : List AObj} {r : PV × List AObj} (hl : args.length ≤ 12) (h : rE fns fa_laws_szBoolS σ.length [.code ac_laws_szBoolS] (frA 0 args) σ = some r) : ev fns i_laws_szBoolS args σ = some r := ev_go n_laws_szBoolS hl h
@[simp] theorem nt_laws_szPushS : fa_laws_szPushS.nt = 12 := rfl
@[simp] theorem rs_laws_szPushS : fa_laws_szPushS.rs = [.tmp 4] := rfl
@[simp] theorem fz_laws_szPushS : fa_laws_szPushS.fz = true := rfl
@[simp] theorem rsh_laws_szPushS : fa_laws_szPushS.rsh = .any := rfl
theorem go_laws_szPushS {args : List PV} {σ : List AObj} {r : PV × List AObj} (hl : args.length ≤ 12) (h : rE fns fa_laws_szPushS σ.length [.code ac_laws_szPushS] (frA 0 args) σ = some r) : ev fns i_laws_szPushS args σ = some r := ev_go n_laws_szPushS hl h
@[simp] theorem nt_laws_szPushSS : fa_laws_szPushSS.nt = 27 := rfl
@[simp] theorem rs_laws_szPushSS : fa_laws_szPushSS.rs = [.tmp 4] := rfl
@[simp] theorem fz_laws_szPushSS : fa_laws_szPushSS.fz = true := rfl
@[simp] theorem rsh_laws_szPushSS : fa_laws_szPushSS.rsh = .any := rfl
theorem go_laws_szPushSS {args : List PV} {σ : List AObj} {r : PV × List AObj} (hl : args.length ≤ 27) (h : rE fns fa_laws_szPushSS σ.length [.code ac_laws_szPushSS] (frA 0 args) σ = some r) : ev fns i_laws_szPushSS args σ = some r := ev_go n_laws_szPushSS hl h
theorem l_laws_szPushSS_0 {ks : List KI} {l : Fr} {σ : List AObj} {n0 : Nat} : rE fns fa_laws_szPushSS n0 (.code lo_laws_szPushSS_0 :: ks) l σ = rE fns fa_laws_szPushSS n0 (.code lb_laws_szPushSS_0 :: .code lo_laws_szPushSS_0 :: ks) l σ := rE_loop
@[simp] theorem nt_laws_szInt64S : fa_laws_szInt64S.nt = 12 := rfl
@[simp] theorem rs_laws_szInt64S : fa_laws_szInt64S.rs = [.tmp 4] := rfl
@[simp] theorem fz_laws_szInt64S : fa_laws_szInt64S.fz = true := rfl
@[simp] theorem rsh_laws_szInt64S : fa_laws_szInt64S.rsh = .any := rfl
theorem go_laws_szInt64S {args : List PV} {σ : List AObj} {r : PV × List AObj} (hl : args.length ≤ 12) (h : rE fns fa_laws_szInt64S σ.length [.code ac_laws_szInt64S] (frA 0 args) σ = some r) : ev fns i_laws_szInt64S args σ = some r := ev_go n_laws_szInt64S hl h
@[simp] theorem nt_laws_szInt64SS : fa_laws_szInt64SS.nt = 27 := rfl
@[simp] theorem rs_laws_szInt64SS : fa_laws_szInt64SS.rs = [.tmp 4] := rfl
@[simp] theorem fz_laws_szInt64SS : fa_laws_szInt64SS.fz = true := rfl
@[simp] theorem rsh_laws_szInt64SS : fa_laws_szInt64SS.rsh = .any := rfl
theorem go_laws_szInt64SS {args : List PV} {σ : List AObj} {r : PV × List AObj} (hl : args.length ≤ 27) (h : rE fns fa_laws_szInt64SS σ.length [.code ac_laws_szInt64SS] (frA 0 args) σ = some r) : ev fns i_laws_szInt64SS args σ = some r := ev_go n_laws_szInt64SS hl h
theorem l_laws_szInt64SS_0 {ks : List KI} {l : Fr} {σ : List AObj} {n0 : Nat} : rE fns fa_laws_szInt64SS n0 (.code lo_laws_szInt64SS_0 :: ks) l σ = rE fns fa_laws_szInt64SS n0 (.code lb_laws_szInt64SS_0 :: .code lo_laws_szInt64SS_0 :: ks) l σ := rE_loop
@[simp] theorem nt_laws_szInt64SSS : fa_laws_szInt64SSS.nt = 27 := rfl
@[simp] theorem rs_laws_szInt64SSS : fa_laws_szInt64SSS.rs = [.tmp 4] := rfl
@[simp] theorem fz_laws_szInt64SSS : fa_laws_szInt64SSS.fz = true := rfl
@[simp] theorem rsh_laws_szInt64SSS : fa_laws_szInt64SSS.rsh = .any := rfl
theorem go_laws_szInt64SSS {args : List PV} {σ : List AObj} {r : PV × List AObj} (hl : args.length ≤ 27) (h : rE fns fa_laws_szInt64SSS σ.length [.code ac_laws_szInt64SSS] (frA 0 args) σ = some r) : ev fns i_laws_szInt64SSS args σ = some r := ev_go n_laws_szInt64SSS hl h
theorem l_laws_szInt64SSS_0 {ks : List KI} {l : Fr} {σ : List AObj} {n0 : Nat} : rE fns fa_laws_szInt64SSS n0 (.code lo_laws_szInt64SSS_0 :: ks) l σ = rE fns fa_laws_szInt64SSS n0 (.code lb_laws_szInt64SSS_0 :: .code lo_laws_szInt64SSS_0 :: ks) l σ := rE_loop
@[simp] theorem nt_laws_szChecker : fa_laws_szChecker.nt = 30 := rfl
@[simp] theorem rs_laws_szChecker : fa_laws_szChecker.rs = [.tmp 4] := rfl
@[simp] theorem fz_laws_szChecker : fa_laws_szChecker.fz = true := rfl
@[simp] theorem rsh_laws_szChecker : fa_laws_szChecker.rsh = .any := rfl
theorem go_laws_szChecker {args : List PV} {σ : List AObj} {r : PV × List AObj} (hl : args.length ≤ 30) (h : rE fns fa_laws_szChecker σ.length [.code ac_laws_szChecker] (frA 0 args) σ = some r) : ev fns i_laws_szChecker args σ = some r := ev_go n_laws_szChecker hl h
@[simp] theorem nt_spec_l02List : fa_spec_l02List.nt = 26 := rfl
@[simp] theorem rs_spec_l02List : fa_spec_l02List.rs = [.tmp 6] := rfl
@[simp] theorem fz_spec_l02List : fa_spec_l02List.fz = true := rfl
@[simp] theorem rsh_spec_l02List : fa_spec_l02List.rsh = .any := rfl
theorem go_spec_l02List {args : List PV} {σ : List AObj} {r : PV × List AObj} (hl : args.length ≤ 26) (h : rE fns fa_spec_l02List σ.length [.code ac_spec_l02List] (frA 0 args) σ = some r) : ev fns i_spec_l02List args σ = some r := ev_go n_spec_l02List hl h
theorem l_spec_l02List_0 {ks : List KI} {l : Fr} {σ : List AObj} {n0 : Nat} : rE fns fa_spec_l02List n0 (.code lo_spec_l02List_0 :: ks) l σ = rE fns fa_spec_l02List n0 (.code lb_spec_l02List_0 :: .code lo_spec_l02List_0 :: ks) l σ := rE_loop
@[simp] theorem nt_spec_l02Ok : fa_spec_l02Ok.nt = 155 := rfl
@[simp] theorem rs_spec_l02Ok : fa_spec_l02Ok.rs = [.tmp 2] := rfl
@[simp] theorem fz_spec_l02Ok : fa_spec_l02Ok.fz = true := rfl
@[simp] theorem rsh_spec_l02Ok : fa_spec_l02Ok.rsh = .any := rfl
theorem go_spec_l02Ok {args : List PV} {σ : List AObj} {r : PV × List AObj} (hl : args.length ≤ 155) (h : rE fns fa_spec_l02Ok σ.length [.code ac_spec_l02Ok] (frA 0 args) σ = some r) : ev fns i_spec_l02Ok args σ = some r := ev_go n_spec_l02Ok hl h
theorem l_spec_l02Ok_0 {ks : List KI} {l : Fr} {σ : List AObj} {n0 : Nat} : rE fns fa_spec_l02Ok n0 (.code lo_spec_l02Ok_0 :: ks) l σ = rE fns fa_spec_l02Ok n0 (.code lb_spec_l02Ok_0 :: .code lo_spec_l02Ok_0 :: ks) l σ := rE_loop
theorem l_spec_l02Ok_1 {ks : List KI} {l : Fr} {σ : List AObj} {n0 : Nat} : rE fns fa_spec_l02Ok n0 (.code lo_spec_l02Ok_1 :: ks) l σ = rE fns fa_spec_l02Ok n0 (.code lb_spec_l02Ok_1 :: .code lo_spec_l02Ok_1 :: ks) l σ := rE_loop
@[simp] theorem nt_spec_l02Given : fa_spec_l02Given.nt = 13 := rfl
@[simp] theorem rs_spec_l02Given : fa_spec_l02Given.rs = [.tmp 4] := rfl
@[simp] theorem fz_spec_l02Given : fa_spec_l02Given.fz = true := rfl
@[simp] theorem rsh_spec_l02Given : fa_spec_l02Given.rsh = .any := rfl
theorem go_spec_l02Given {args : List PV} {σ : List AObj} {r : PV × List AObj} (hl : args.length ≤ 13) (h : rE fns fa_spec_l02Given σ.length [.code ac_spec_l02Given] (frA 0 args) σ = some r) : ev fns i_spec_l02Given args σ = some r := ev_go n_spec_l02Given hl h
@[simp] theorem nt_spec_l02Step : fa_spec_l02Step.nt = 101 := rfl
@[simp] theorem rs_spec_l02Step : fa_spec_l02Step.rs = [.tmp 8, .tmp 9] := rfl
@[simp] theorem fz_spec_l02Step : fa_spec_l02Step.fz = true := rfl
@[simp] theorem rsh_spec_l02Step : fa_spec_l02Step.rsh = (.agg [.any, (.lst 1 .any)]) := rfl
theorem go_spec_l02Step {args : List PV} {σ : List AObj} {r : PV × List AObj} (hl : args.length ≤ 101) (h : rE fns fa_spec_l02Step σ.length [.code ac_spec_l02Step] (frA 0 args) σ = some r) : ev fns i_spec_l02Step args σ = some r := ev_go n_spec_l02Step hl h
@[simp] theorem nt_spec_l02Go : fa_spec_l02Go.nt = 29 := rfl
@[simp] theorem rs_spec_l02Go : fa_spec_l02Go.rs = [.tmp 8, .tmp 9] := rfl
@[simp] theorem fz_spec_l02Go : fa_spec_l02Go.fz = true := rfl
@[simp] theorem rsh_spec_l02Go : fa_spec_l02Go.rsh = (.agg [.any, (.lst 1 .any)]) := rfl
theorem go_spec_l02Go {args : List PV} {σ : List AObj} {r : PV × List AObj} (hl : args.length ≤ 29) (h : rE fns fa_spec_l02Go σ.length [.code ac_spec_l02Go] (frA 0 args) σ = some r) : ev fns i_spec_l02Go args σ = some r := ev_go n_spec_l02Go hl h
theorem l_spec_l02Go_0 {ks : List KI} {l : Fr} {σ : List AObj} {n0 : Nat} : rE fns fa_spec_l02Go n0 (.code lo_spec_l02Go_0 :: ks) l σ = rE fns fa_spec_l02Go n0 (.code lb_spec_l02Go_0 :: .code lo_spec_l02Go_0 :: ks) l σ := rE_loop
@[simp] theorem nt_spec_l02Takes : fa_spec_l02Takes.nt = 25 := rfl
@[simp] theorem rs_spec_l02Takes : fa_spec_l02Takes.rs = [.tmp 4] := rfl
@[simp] theorem fz_spec_l02Takes : fa_spec_l02Takes.fz = true := rfl
@[simp] theorem rsh_spec_l02Takes : fa_spec_l02Takes.rsh = .any := rfl
theorem go_spec_l02Takes {args : List PV} {σ : List AObj} {r : PV × List AObj} (hl : args.length ≤ 25) (h : rE fns fa_spec_l02Takes σ.length [.code ac_spec_l02Takes] (frA 0 args) σ = some r) : ev fns i_spec_l02Takes args σ = some r := ev_go n_spec_l02Takes hl h
@[simp] theorem nt_spec_Takes : fa_spec_Takes.nt = 14 := rfl
@[simp] theorem rs_spec_Takes : fa_spec_Takes.rs = [.tmp 4, .tmp 5] := rfl
@[simp] theorem fz_spec_Takes : fa_spec_Takes.fz = true := rfl
@[simp] theorem rsh_spec_Takes : fa_spec_Takes.rsh = .any := rfl
theorem go_spec_Takes {args : List PV} {σ : List AObj} {r : PV × List AObj} (hl : args.length ≤ 14) (h : rE fns fa_spec_Takes σ.length [.code ac_spec_Takes] (frA 0 args) σ = some r) : ev fns i_spec_Takes args σ = some r := ev_go n_spec_Takes hl h
@[simp] theorem nt_laws_toBoolS : fa_laws_toBoolS.nt = 22 := rfl
@[simp] theorem rs_laws_toBoolS : fa_laws_toBoolS.rs = [.tmp 2] := rfl
@[simp] theorem fz_laws_toBoolS : fa_laws_toBoolS.fz = true := rfl
@[simp] theorem rsh_laws_toBoolS : fa_laws_toBoolS.rsh = .any := rfl
theorem go_laws_toBoolS {args : List PV} {σ : List AObj} {r : PV × List AObj} (hl : args.length ≤ 22) (h : rE fns fa_laws_toBoolS σ.length [.code ac_laws_toBoolS] (frA 0 args) σ = some r) : ev fns i_laws_toBoolS args σ = some r := ev_go n_laws_toBoolS hl h
theorem l_laws_toBoolS_0 {ks : List KI} {l : Fr} {σ : List AObj} {n0 : Nat} : rE fns fa_laws_toBoolS n0 (.code lo_laws_toBoolS_0 :: ks) l σ = rE fns fa_laws_toBoolS n0 (.code lb_laws_toBoolS_0 :: .code lo_laws_toBoolS_0 :: ks) l σ := rE_loop
@[simp] theorem nt_laws_toPush : fa_laws_toPush.nt = 11 := rfl
@[simp] theorem rs_laws_toPush : fa_laws_toPush.rs = [.cell 2 2 true] := rfl
@[simp] theorem fz_laws_toPush : fa_laws_toPush.fz = true := rfl
@[simp] theorem rsh_laws_toPush : fa_laws_toPush.rsh = .any := rfl
theorem go_laws_toPush {args : List PV} {σ : List AObj} {r : PV × List AObj} (hl : args.length ≤ 11) (h : rE fns fa_laws_toPush σ.length [.code ac_laws_toPush] (frA 0 args) σ = some r) : ev fns i_laws_toPush args σ = some r := ev_go n_laws_toPush hl h
@[simp] theorem nt_laws_toPushS : fa_laws_toPushS.nt = 23 := rfl
@[simp] theorem rs_laws_toPushS : fa_laws_toPushS.rs = [.tmp 2] := rfl
@[simp] theorem fz_laws_toPushS : fa_laws_toPushS.fz = true := rfl
@[simp] theorem rsh_laws_toPushS : fa_laws_toPushS.rsh = .any := rfl
theorem go_laws_toPushS {args : List PV} {σ : List AObj} {r : PV × List AObj} (hl : args.length ≤ 23) (h : rE fns fa_laws_toPushS σ.length [.code ac_laws_toPushS] (frA 0 args) σ = some r) : ev fns i_laws_toPushS args σ = some r := ev_go n_laws_toPushS hl h
theorem l_laws_toPushS_0 {ks : List KI} {l : Fr} {σ : List AObj} {n0 : Nat} : rE fns fa_laws_toPushS n0 (.code lo_laws_toPushS_0 :: ks) l σ = rE fns fa_laws_toPushS n0 (.code lb_laws_toPushS_0 :: .code lo_laws_toPushS_0 :: ks) l σ := rE_loop
@[simp] theorem nt_laws_toPushSS : fa_laws_toPushSS.nt = 23 := rfl
@[simp] theorem rs_laws_toPushSS : fa_laws_toPushSS.rs = [.tmp 2] := rfl
@[simp] theorem fz_laws_toPushSS : fa_laws_toPushSS.fz = true := rfl
@[simp] theorem rsh_laws_toPushSS : fa_laws_toPushSS.rsh = .any := rfl
theorem go_laws_toPushSS {args : List PV} {σ : List AObj} {r : PV × List AObj} (hl : args.length ≤ 23) (h : rE fns fa_laws_toPushSS σ.length [.code ac_laws_toPushSS] (frA 0 args) σ = some r) : ev fns i_laws_toPushSS args σ = some r := ev_go n_laws_toPushSS hl h
theorem l_laws_toPushSS_0 {ks : List KI} {l : Fr} {σ : List AObj} {n0 : Nat} : rE fns fa_laws_toPushSS n0 (.code lo_laws_toPushSS_0 :: ks) l σ = rE fns fa_laws_toPushSS n0 (.code lb_laws_toPushSS_0 :: .code lo_laws_toPushSS_0 :: ks) l σ := rE_loop
@[simp] theorem nt_laws_toInt64S : fa_laws_toInt64S.nt = 22 := rfl
@[simp] theorem rs_laws_toInt64S : fa_laws_toInt64S.rs = [.tmp 2] := rfl
@[simp] theorem fz_laws_toInt64S : fa_laws_toInt64S.fz = true := rfl
@[simp] theorem rsh_laws_toInt64S : fa_laws_toInt64S.rsh = .any := rfl
theorem go_laws_toInt64S {args : List PV} {σ : List AObj} {r : PV × List AObj} (hl : args.length ≤ 22) (h : rE fns fa_laws_toInt64S σ.length [.code ac_laws_toInt64S] (frA 0 args) σ = some r) : ev fns i_laws_toInt64S args σ = some r := ev_go n_laws_toInt64S hl h
theorem l_laws_toInt64S_0 {ks : List KI} {l : Fr} {σ : List AObj} {n0 : Nat} : rE fns fa_laws_toInt64S n0 (.code lo_laws_toInt64S_0 :: ks) l σ = rE fns fa_laws_toInt64S n0 (.code lb_laws_toInt64S_0 :: .code lo_laws_toInt64S_0 :: ks) l σ := rE_loop
@[simp] theorem nt_laws_toInt64SS : fa_laws_toInt64SS.nt = 23 := rfl
@[simp] theorem rs_laws_toInt64SS : fa_laws_toInt64SS.rs = [.tmp 2] := rfl
@[simp] theorem fz_laws_toInt64SS : fa_laws_toInt64SS.fz = true := rfl
@[simp] theorem rsh_laws_toInt64SS : fa_laws_toInt64SS.rsh = .any := rfl
theorem go_laws_toInt64SS {args : List PV} {σ : List AObj} {r : PV × List AObj} (hl : args.length ≤ 23) (h : rE fns fa_laws_toInt64SS σ.length [.code ac_laws_toInt64SS] (frA 0 args) σ = some r) : ev fns i_laws_toInt64SS args σ = some r := ev_go n_laws_toInt64SS hl h
theorem l_laws_toInt64SS_0 {ks : List KI} {l : Fr} {σ : List AObj} {n0 : Nat} : rE fns fa_laws_toInt64SS n0 (.code lo_laws_toInt64SS_0 :: ks) l σ = rE fns fa_laws_toInt64SS n0 (.code lb_laws_toInt64SS_0 :: .code lo_laws_toInt64SS_0 :: ks) l σ := rE_loop
@[simp] theorem nt_laws_toInt64SSS : fa_laws_toInt64SSS.nt = 23 := rfl
@[simp] theorem rs_laws_toInt64SSS : fa_laws_toInt64SSS.rs = [.tmp 2] := rfl
@[simp] theorem fz_laws_toInt64SSS : fa_laws_toInt64SSS.fz = true := rfl
@[simp] theorem rsh_laws_toInt64SSS : fa_laws_toInt64SSS.rsh = .any := rfl
theorem go_laws_toInt64SSS {args : List PV} {σ : List AObj} {r : PV × List AObj} (hl : args.length ≤ 23) (h : rE fns fa_laws_toInt64SSS σ.length [.code ac_laws_toInt64SSS] (frA 0 args) σ = some r) : ev fns i_laws_toInt64SSS args σ = some r := ev_go n_laws_toInt64SSS hl h
theorem l_laws_toInt64SSS_0 {ks : List KI} {l : Fr} {σ : List AObj} {n0 : Nat} : rE fns fa_laws_toInt64SSS n0 (.code lo_laws_toInt64SSS_0 :: ks) l σ = rE fns fa_laws_toInt64SSS n0 (.code lb_laws_toInt64SSS_0 :: .code lo_laws_toInt64SSS_0 :: ks) l σ := rE_loop
@[simp] theorem nt_laws_toChecker : fa_laws_toChecker.nt = 27 := rfl
@[simp] theorem rs_laws_toChecker : fa_laws_toChecker.rs = [.cell 2 6 true] := rfl
@[simp] theorem fz_laws_toChecker : fa_laws_toChecker.fz = true := rfl
@[simp] theorem rsh_laws_toChecker : fa_laws_toChecker.rsh = .any := rfl
theorem go_laws_toChecker {args : List PV} {σ : List AObj} {r : PV × List AObj} (hl : args.length ≤ 27) (h : rE fns fa_laws_toChecker σ.length [.code ac_laws_toChecker] (frA 0 args) σ = some r) : ev fns i_laws_toChecker args σ = some r := ev_go n_laws_toChecker hl h
@[simp] theorem nt_impl_size_bool : fa_impl_size_bool.nt = 5 := rfl
@[simp] theorem rs_impl_size_bool : fa_impl_size_bool.rs = [.tmp 2] := rfl
@[simp] theorem fz_impl_size_bool : fa_impl_size_bool.fz = true := rfl
@[simp] theorem rsh_impl_size_bool : fa_impl_size_bool.rsh = .any := rfl
theorem go_impl_size_bool {args : List PV} {σ : List AObj} {r : PV × List AObj} (hl : args.length ≤ 5) (h : rE fns fa_impl_size_bool σ.length [.code ac_impl_size_bool] (frA 0 args) σ = some r) : ev fns i_impl_size_bool args σ = some r := ev_go n_impl_size_bool hl h
@[simp] theorem nt_impl_Checker_isState : fa_impl_Checker_isState.nt = 11 := rfl
@[simp] theorem rs_impl_Checker_isState : fa_impl_Checker_isState.rs = [.tmp 4] := rfl
@[simp] theorem fz_impl_Checker_isState : fa_impl_Checker_isState.fz = true := rfl
@[simp] theorem rsh_impl_Checker_isState : fa_impl_Checker_isState.rsh = .any := rfl
theorem go_impl_Checker_isState {args : List PV} {σ : List AObj} {r : PV × List AObj} (hl : args.length ≤ 11) (h : rE fns fa_impl_Checker_isState σ.length [.code ac_impl_Checker_isState] (frA 0 args) σ = some r) : ev fns i_impl_Checker_isState args σ = some r := ev_go n_impl_Checker_isState hl h
@[simp] theorem nt_impl_size_L_impl_Push : fa_impl_size_L_impl_Push.nt = 5 := rfl
@[simp] theorem rs_impl_size_L_impl_Push : fa_impl_size_L_impl_Push.rs = [.tmp 2] := rfl
@[simp] theorem fz_impl_size_L_impl_Push : fa_impl_size_L_impl_Push.fz = true := rfl
@[simp] theorem rsh_impl_size_L_impl_Push : fa_impl_size_L_impl_Push.rsh = .any := rfl
theorem go_impl_size_L_impl_Push {args : List PV} {σ : List AObj} {r : PV × List AObj} (hl : args.length ≤ 5) (h : rE fns fa_impl_size_L_impl_Push σ.length [.code ac_impl_size_L_impl_Push] (frA 0 args) σ = some r) : ev fns i_impl_size_L_impl_Push args σ = some r := ev_go n_impl_size_L_impl_Push hl h
@[simp] theorem nt_impl_size_L_L_int64 : fa_impl_size_L_L_int64.nt = 5 := rfl
@[simp] theorem rs_impl_size_L_L_int64 : fa_impl_size_L_L_int64.rs = [.tmp 2] := rfl
@[simp] theorem fz_impl_size_L_L_int64 : fa_impl_size_L_L_int64.fz = true := rfl
@[simp] theorem rsh_impl_size_L_L_int64 : fa_impl_size_L_L_int64.rsh = .any := rfl
theorem go_impl_size_L_L_int64 {args : List PV} {σ : List AObj} {r : PV × List AObj} (hl : args.length ≤ 5) (h : rE fns fa_impl_size_L_L_int64 σ.length [.code ac_impl_size_L_L_int64] (frA 0 args) σ = some r) : ev fns i_impl_size_L_L_int64 args σ = some r := ev_go n_impl_size_L_L_int64 hl h
@[simp] theorem nt_impl_size_L_int64 : fa_impl_size_L_int64.nt = 5 := rfl
@[simp] theorem rs_impl_size_L_int64 : fa_impl_size_L_int64.rs = [.tmp 2] := rfl
@[simp] theorem fz_impl_size_L_int64 : fa_impl_size_L_int64.fz = true := rfl
@[simp] theorem rsh_impl_size_L_int64 : fa_impl_size_L_int64.rsh = .any := rfl
theorem go_impl_size_L_int64 {args : List PV} {σ : List AObj} {r : PV × List AObj} (hl : args.length ≤ 5) (h : rE fns fa_impl_size_L_int64 σ.length [.code ac_impl_size_L_int64] (frA 0 args) σ = some r) : ev fns i_impl_size_L_int64 args σ = some r := ev_go n_impl_size_L_int64 hl h
@[simp] theorem nt_slices_IndexFunc_L_int64 : fa_slices_IndexFunc_L_int64.nt = 19 := rfl
@[simp] theorem rs_slices_IndexFunc_L_int64 : fa_slices_IndexFunc_L_int64.rs = [.tmp 4] := rfl
@[simp] theorem fz_slices_IndexFunc_L_int64 : fa_slices_IndexFunc_L_int64.fz = true := rfl
@[simp] theorem rsh_slices_IndexFunc_L_int64 : fa_slices_IndexFunc_L_int64.rsh = .any := rfl
theorem go_slices_IndexFunc_L_int64 {args : List PV} {σ : List AObj} {r : PV × List AObj} (hl : args.length ≤ 19) (h : rE fns fa_slices_IndexFunc_L_int64 σ.length [.code ac_slices_IndexFunc_L_int64] (frA 0 args) σ = some r) : ev fns i_slices_IndexFunc_L_int64 args σ = some r := ev_go n_slices_IndexFunc_L_int64 hl h
theorem l_slices_IndexFunc_L_int64_0 {ks : List KI} {l : Fr} {σ : List AObj} {n0 : Nat} : rE fns fa_slices_IndexFunc_L_int64 n0 (.code lo_slices_IndexFunc_L_int64_0 :: ks) l σ = rE fns fa_slices_IndexFunc_L_int64 n0 (.code lb_slices_IndexFunc_L_int64_0 :: .code lo_slices_IndexFunc_L_int64_0 :: ks) l σ := rE_loop
@[simp] theorem nt_slices_ContainsFunc_L_int64 : fa_slices_ContainsFunc_L_int64.nt = 9 := rfl
@[simp] theorem rs_slices_ContainsFunc_L_int64 : fa_slices_ContainsFunc_L_int64.rs = [.tmp 4] := rfl
@[simp] theorem fz_slices_ContainsFunc_L_int64 : fa_slices_ContainsFunc_L_int64.fz = true := rfl
@[simp] theorem rsh_slices_ContainsFunc_L_int64 : fa_slices_ContainsFunc_L_int64.rsh = .any := rfl
theorem go_slices_ContainsFunc_L_int64 {args : List PV} {σ : List AObj} {r : PV × List AObj} (hl : args.length ≤ 9) (h : rE fns fa_slices_ContainsFunc_L_int64 σ.length [.code ac_slices_ContainsFunc_L_int64] (frA 0 args) σ = some r) : ev fns i_slices_ContainsFunc_L_int64 args σ = some r := ev_go n_slices_ContainsFunc_L_int64 hl h
@[simp] theorem nt_impl_ValidChecker_1_1 : fa_impl_ValidChecker_1_1.nt = 8 := rfl
@[simp] theorem rs_impl_ValidChecker_1_1 : fa_impl_ValidChecker_1_1.rs = [.tmp 3] := rfl
@[simp] theorem fz_impl_ValidChecker_1_1 : fa_impl_ValidChecker_1_1.fz = true := rfl
@[simp] theorem rsh_impl_ValidChecker_1_1 : fa_impl_ValidChecker_1_1.rsh = .any := rfl
theorem go_impl_ValidChecker_1_1 {args : List PV} {σ : List AObj} {r : PV × List AObj} (hl : args.length ≤ 8) (h : rE fns fa_impl_ValidChecker_1_1 σ.length [.code ac_impl_ValidChecker_1_1] (frA 0 args) σ = some r) : ev fns i_impl_ValidChecker_1_1 args σ = some r := ev_go n_impl_ValidChecker_1_1 hl h
@[simp] theorem nt_impl_ValidChecker_1 : fa_impl_ValidChecker_1.nt = 16 := rfl
@[simp] theorem rs_impl_ValidChecker_1 : fa_impl_ValidChecker_1.rs = [.tmp 5] := rfl
@[simp] theorem fz_impl_ValidChecker_1 : fa_impl_ValidChecker_1.fz = true := rfl
@[simp] theorem rsh_impl_ValidChecker_1 : fa_impl_ValidChecker_1.rsh = .any := rfl
theorem go_impl_ValidChecker_1 {args : List PV} {σ : List AObj} {r : PV × List AObj} (hl : args.length ≤ 16) (h : rE fns fa_impl_ValidChecker_1 σ.length [.code ac_impl_ValidChecker_1] (frA 0 args) σ = some r) : ev fns i_impl_ValidChecker_1 args σ = some r := ev_go n_impl_ValidChecker_1 hl h
@[simp] theorem nt_impl_Checker_isMark : fa_impl_Checker_isMark.nt = 10 := rfl
@[simp] theorem rs_impl_Checker_isMark : fa_impl_Checker_isMark.rs = [.tmp 4] := rfl
@[simp] theorem fz_impl_Checker_isMark : fa_impl_Checker_isMark.fz = true := rfl
@[simp] theorem rsh_impl_Checker_isMark : fa_impl_Checker_isMark.rsh = .any := rfl
theorem go_impl_Checker_isMark {args : List PV} {σ : List AObj} {r : PV × List AObj} (hl : args.length ≤ 10) (h : rE fns fa_impl_Checker_isMark σ.length [.code ac_impl_Checker_isMark] (frA 0 args) σ = some r) : ev fns i_impl_Checker_isMark args σ = some r := ev_go n_impl_Checker_isMark hl h
@[simp] theorem nt_impl_ValidChecker : fa_impl_ValidChecker.nt = 120 := rfl
@[simp] theorem rs_impl_ValidChecker : fa_impl_ValidChecker.rs = [.tmp 2] := rfl
@[simp] theorem fz_impl_ValidChecker : fa_impl_ValidChecker.fz = true := rfl
@[simp] theorem rsh_impl_ValidChecker : fa_impl_ValidChecker.rsh = .any := rfl
theorem go_impl_ValidChecker {args : List PV} {σ : List AObj} {r : PV × List AObj} (hl : args.length ≤ 120) (h : rE fns fa_impl_ValidChecker σ.length [.code ac_impl_ValidChecker] (frA 0 args) σ = some r) : ev fns i_impl_ValidChecker args σ = some r := ev_go n_impl_ValidChecker hl h
theorem l_impl_ValidChecker_0 {ks : List KI} {l : Fr} {σ : List AObj} {n0 : Nat} : rE fns fa_impl_ValidChecker n0 (.code lo_impl_ValidChecker_0 :: ks) l σ = rE fns fa_impl_ValidChecker n0 (.code lb_impl_ValidChecker_0 :: .code lo_impl_ValidChecker_0 :: ks) l σ := rE_loop
theorem l_impl_ValidChecker_1 {ks : List KI} {l : Fr} {σ : List AObj} {n0 : Nat} : rE fns fa_impl_ValidChecker n0 (.code lo_impl_ValidChecker_1 :: ks) l σ = rE fns fa_impl_ValidChecker n0 (.code lb_impl_ValidChecker_1 :: .code lo_impl_ValidChecker_1 :: ks) l σ := rE_loop
@[simp] theorem nt_impl_Checker_step : fa_impl_Checker_step.nt = 74 := rfl
@[simp] theorem rs_impl_Checker_step : fa_impl_Checker_step.rs = [.tmp 8, .tmp 9] := rfl
@[simp] theorem fz_impl_Checker_step : fa_impl_Checker_step.fz = true := rfl
@[simp] theorem rsh_impl_Checker_step : fa_impl_Checker_step.rsh = (.agg [.any, (.lst 1 .any)]) := rfl
theorem go_impl_Checker_step {args : List PV} {σ : List AObj} {r : PV × List AObj} (hl : args.length ≤ 74) (h : rE fns fa_impl_Checker_step σ.length [.code ac_impl_Checker_step] (frA 0 args) σ = some r) : ev fns i_impl_Checker_step args σ = some r := ev_go n_impl_Checker_step hl h
@[simp] theorem nt_impl_Checker_run : fa_impl_Checker_run.nt = 35 := rfl
@[simp] theorem rs_impl_Checker_run : fa_impl_Checker_run.rs = [] := rfl
@[simp] theorem fz_impl_Checker_run : fa_impl_Checker_run.fz = false := rfl
@[simp] theorem rsh_impl_Checker_run : fa_impl_Checker_run.rsh = .any := rfl
theorem go_impl_Checker_run {args : List PV} {σ : List AObj} {r : PV × List AObj} (hl : args.length ≤ 35) (h : rE fns fa_impl_Checker_run σ.length [.code ac_impl_Checker_run] (frA 0 args) σ = some r) : ev fns i_impl_Checker_run args σ = some r := ev_go n_impl_Checker_run hl h
theorem l_impl_Checker_run_0 {ks : List KI} {l : Fr} {σ : List AObj} {n0 : Nat} : rE fns fa_impl_Checker_run n0 (.code lo_impl_Checker_run_0 :: ks) l σ = rE fns fa_impl_Checker_run n0 (.code lb_impl_Checker_run_0 :: .code lo_impl_Checker_run_0 :: ks) l σ := rE_loop
@[simp] theorem nt_impl_Checker_end_1 : fa_impl_Checker_end_1.nt = 8 := rfl
@[simp] theorem rs_impl_Checker_end_1 : fa_impl_Checker_end_1.rs = [] := rfl
@[simp] theorem fz_impl_Checker_end_1 : fa_impl_Checker_end_1.fz = false := rfl
@[simp] theorem rsh_impl_Checker_end_1 : fa_impl_Checker_end_1.rsh = .any := rfl
theorem go_impl_Checker_end_1 {args : List PV} {σ : List AObj} {r : PV × List AObj} (hl : args.length ≤ 8) (h : rE fns fa_impl_Checker_end_1 σ.length [.code ac_impl_Checker_end_1] (frA 0 args) σ = some r) : ev fns i_impl_Checker_end_1 args σ = some r := ev_go n_impl_Checker_end_1 hl h
@[simp] theorem nt_impl_Checker_end : fa_impl_Checker_end.nt = 18 := rfl
@[simp] theorem rs_impl_Checker_end : fa_impl_Checker_end.rs = [.tmp 8, .tmp 9] := rfl
@[simp] theorem fz_impl_Checker_end : fa_impl_Checker_end.fz = true := rfl
@[simp] theorem rsh_impl_Checker_end : fa_impl_Checker_end.rsh = (.agg [.any, (.lst 1 .any)]) := rfl
theorem go_impl_Checker_end {args : List PV} {σ : List AObj} {r : PV × List AObj} (hl : args.length ≤ 18) (h : rE fns fa_impl_Checker_end σ.length [.code ac_impl_Checker_end] (frA 0 args) σ = some r) : ev fns i_impl_Checker_end args σ = some r := ev_go n_impl_Checker_end hl h
@[simp] theorem nt_impl_Checker_takes : fa_impl_Checker_takes.nt = 20 := rfl
@[simp] theorem rs_impl_Checker_takes : fa_impl_Checker_takes.rs = [.tmp 4] := rfl
@[simp] theorem fz_impl_Checker_takes : fa_impl_Checker_takes.fz = true := rfl
@[simp] theorem rsh_impl_Checker_takes : fa_impl_Checker_takes.rsh = .any := rfl
theorem go_impl_Checker_takes {args : List PV} {σ : List AObj} {r : PV × List AObj} (hl : args.length ≤ 20) (h : rE fns fa_impl_Checker_takes σ.length [.code ac_impl_Checker_takes] (frA 0 args) σ = some r) : ev fns i_impl_Checker_takes args σ = some r := ev_go n_impl_Checker_takes hl h
@[simp] theorem nt_impl_Takes : fa_impl_Takes.nt = 17 := rfl
@[simp] theorem rs_impl_Takes : fa_impl_Takes.rs = [.tmp 4, .tmp 5] := rfl
@[simp] theorem fz_impl_Takes : fa_impl_Takes.fz = true := rfl
@[simp] theorem rsh_impl_Takes : fa_impl_Takes.rsh = .any := rfl
theorem go_impl_Takes {args : List PV} {σ : List AObj} {r : PV × List AObj} (hl : args.length ≤ 17) (h : rE fns fa_impl_Takes σ.length [.code ac_impl_Takes] (frA 0 args) σ = some r) : ev fns i_impl_Takes args σ = some r := ev_go n_impl_Takes hl h
@[simp] theorem nt_laws_eqInt64S : fa_laws_eqInt64S.nt = 26 := rfl
@[simp] theorem rs_laws_eqInt64S : fa_laws_eqInt64S.rs = [.tmp 4] := rfl
@[simp] theorem fz_laws_eqInt64S : fa_laws_eqInt64S.fz = true := rfl
@[simp] theorem rsh_laws_eqInt64S : fa_laws_eqInt64S.rsh = .any := rfl
theorem go_laws_eqInt64S {args : List PV} {σ : List AObj} {r : PV × List AObj} (hl : args.length ≤ 26) (h : rE fns fa_laws_eqInt64S σ.length [.code ac_laws_eqInt64S] (frA 0 args) σ = some r) : ev fns i_laws_eqInt64S args σ = some r := ev_go n_laws_eqInt64S hl h
theorem l_laws_eqInt64S_0 {ks : List KI} {l : Fr} {σ : List AObj} {n0 : Nat} : rE fns fa_laws_eqInt64S n0 (.code lo_laws_eqInt64S_0 :: ks) l σ = rE fns fa_laws_eqInt64S n0 (.code lb_laws_eqInt64S_0 :: .code lo_laws_eqInt64S_0 :: ks) l σ := rE_loop
@[simp] theorem nt_laws_eqInt64SS : fa_laws_eqInt64SS.nt = 27 := rfl
@[simp] theorem rs_laws_eqInt64SS : fa_laws_eqInt64SS.rs = [.tmp 4] := rfl
@[simp] theorem fz_laws_eqInt64SS : fa_laws_eqInt64SS.fz = true := rfl
@[simp] theorem rsh_laws_eqInt64SS : fa_laws_eqInt64SS.rsh = .any := rfl
theorem go_laws_eqInt64SS {args : List PV} {σ : List AObj} {r : PV × List AObj} (hl : args.length ≤ 27) (h : rE fns fa_laws_eqInt64SS σ.length [.code ac_laws_eqInt64SS] (frA 0 args) σ = some r) : ev fns i_laws_eqInt64SS args σ = some r := ev_go n_laws_eqInt64SS hl h
theorem l_laws_eqInt64SS_0 {ks : List KI} {l : Fr} {σ : List AObj} {n0 : Nat} : rE fns fa_laws_eqInt64SS n0 (.code lo_laws_eqInt64SS_0 :: ks) l σ = rE fns fa_laws_eqInt64SS n0 (.code lb_laws_eqInt64SS_0 :: .code lo_laws_eqInt64SS_0 :: ks) l σ := rE_loop
@[simp] theorem nt_laws_eqBoolS : fa_laws_eqBoolS.nt = 26 := rfl
@[simp] theorem rs_laws_eqBoolS : fa_laws_eqBoolS.rs = [.tmp 4] := rfl
@[simp] theorem fz_laws_eqBoolS : fa_laws_eqBoolS.fz = true := rfl
@[simp] theorem rsh_laws_eqBoolS : fa_laws_eqBoolS.rsh = .any := rfl
theorem go_laws_eqBoolS {args : List PV} {σ : List AObj} {r : PV × List AObj} (hl : args.length ≤ 26) (h : rE fns fa_laws_eqBoolS σ.length [.code ac_laws_eqBoolS] (frA 0 args) σ = some r) : ev fns i_laws_eqBoolS args σ = some r := ev_go n_laws_eqBoolS hl h
theorem l_laws_eqBoolS_0 {ks : List KI} {l : Fr} {σ : List AObj} {n0 : Nat} : rE fns fa_laws_eqBoolS n0 (.code lo_laws_eqBoolS_0 :: ks) l σ = rE fns fa_laws_eqBoolS n0 (.code lb_laws_eqBoolS_0 :: .code lo_laws_eqBoolS_0 :: ks) l σ := rE_loop
@[simp] theorem nt_laws_eqPush : fa_laws_eqPush.nt = 15 := rfl
@[simp] theorem rs_laws_eqPush : fa_laws_eqPush.rs = [.tmp 4] := rfl
@[simp] theorem fz_laws_eqPush : fa_laws_eqPush.fz = true := rfl
@[simp] theorem rsh_laws_eqPush : fa_laws_eqPush.rsh = .any := rfl
theorem go_laws_eqPush {args : List PV} {σ : List AObj} {r : PV × List AObj} (hl : args.length ≤ 15) (h : rE fns fa_laws_eqPush σ.length [.code ac_laws_eqPush] (frA 0 args) σ = some r) : ev fns i_laws_eqPush args σ = some r := ev_go n_laws_eqPush hl h
@[simp] theorem nt_laws_eqPushS : fa_laws_eqPushS.nt = 27 := rfl
@[simp] theorem rs_laws_eqPushS : fa_laws_eqPushS.rs = [.tmp 4] := rfl
@[simp] theorem fz_laws_eqPushS : fa_laws_eqPushS.fz = true := rfl
@[simp] theorem rsh_laws_eqPushS : fa_laws_eqPushS.rsh = .any := rfl
theorem go_laws_eqPushS {args : List PV} {σ : List AObj} {r : PV × List AObj} (hl : args.length ≤ 27) (h : rE fns fa_laws_eqPushS σ.length [.code ac_laws_eqPushS] (frA 0 args) σ = some r) : ev fns i_laws_eqPushS args σ = some r := ev_go n_laws_eqPushS hl h
theorem l_laws_eqPushS_0 {ks : List KI} {l : Fr} {σ : List AObj} {n0 : Nat} : rE fns fa_laws_eqPushS n0 (.code lo_laws_eqPushS_0 :: ks) l σ = rE fns fa_laws_eqPushS n0 (.code lb_laws_eqPushS_0 :: .code lo_laws_eqPushS_0 :: ks) l σ := rE_loop
@[simp] theorem nt_laws_eqPushSS : fa_laws_eqPushSS.nt = 27 := rfl
@[simp] theorem rs_laws_eqPushSS : fa_laws_eqPushSS.rs = [.tmp 4] := rfl
@[simp] theorem fz_laws_eqPushSS : fa_laws_eqPushSS.fz = true := rfl
@[simp] theorem rsh_laws_eqPushSS : fa_laws_eqPushSS.rsh = .any := rfl
theorem go_laws_eqPushSS {args : List PV} {σ : List AObj} {r : PV × List AObj} (hl : args.length ≤ 27) (h : rE fns fa_laws_eqPushSS σ.length [.code ac_laws_eqPushSS] (frA 0 args) σ = some r) : ev fns i_laws_eqPushSS args σ = some r := ev_go n_laws_eqPushSS hl h
theorem l_laws_eqPushSS_0 {ks : List KI} {l : Fr} {σ : List AObj} {n0 : Nat} : rE fns fa_laws_eqPushSS n0 (.code lo_laws_eqPushSS_0 :: ks) l σ = rE fns fa_laws_eqPushSS n0 (.code lb_laws_eqPushSS_0 :: .code lo_laws_eqPushSS_0 :: ks) l σ := rE_loop
@[simp] theorem nt_laws_eqInt64SSS : fa_laws_eqInt64SSS.nt = 27 := rfl
@[simp] theorem rs_laws_eqInt64SSS : fa_laws_eqInt64SSS.rs = [.tmp 4] := rfl
@[simp] theorem fz_laws_eqInt64SSS : fa_laws_eqInt64SSS.fz = true := rfl
@[simp] theorem rsh_laws_eqInt64SSS : fa_laws_eqInt64SSS.rsh = .any := rfl
theorem go_laws_eqInt64SSS {args : List PV} {σ : List AObj} {r : PV × List AObj} (hl : args.length ≤ 27) (h : rE fns fa_laws_eqInt64SSS σ.length [.code ac_laws_eqInt64SSS] (frA 0 args) σ = some r) : ev fns i_laws_eqInt64SSS args σ = some r := ev_go n_laws_eqInt64SSS hl h
theorem l_laws_eqInt64SSS_0 {ks : List KI} {l : Fr} {σ : List AObj} {n0 : Nat} : rE fns fa_laws_eqInt64SSS n0 (.code lo_laws_eqInt64SSS_0 :: ks) l σ = rE fns fa_laws_eqInt64SSS n0 (.code lb_laws_eqInt64SSS_0 :: .code lo_laws_eqInt64SSS_0 :: ks) l σ := rE_loop
@[simp] theorem nt_laws_eqChecker : fa_laws_eqChecker.nt = 39 := rfl
@[simp] theorem rs_laws_eqChecker : fa_laws_eqChecker.rs = [.tmp 4] := rfl
@[simp] theorem fz_laws_eqChecker : fa_laws_eqChecker.fz = true := rfl
@[simp] theorem rsh_laws_eqChecker : fa_laws_eqChecker.rsh = .any := rfl
theorem go_laws_eqChecker {args : List PV} {σ : List AObj} {r : PV × List AObj} (hl : args.length ≤ 39) (h : rE fns fa_laws_eqChecker σ.length [.code ac_laws_eqChecker] (frA 0 args) σ = some r) : ev fns i_laws_eqChecker args σ = some r := ev_go n_laws_eqChecker hl h
@[simp] theorem nt_laws_FnExactTakes : fa_laws_FnExactTakes.nt = 47 := rfl
@[simp] theorem rs_laws_FnExactTakes : fa_laws_FnExactTakes.rs = [.tmp 4] := rfl
@[simp] theorem fz_laws_FnExactTakes : fa_laws_FnExactTakes.fz = true := rfl
@[simp] theorem rsh_laws_FnExactTakes : fa_laws_FnExactTakes.rsh = .any := rfl
theorem go_laws_FnExactTakes {args : List PV} {σ : List AObj} {r : PV × List AObj} (hl : args.length ≤ 47) (h : rE fns fa_laws_FnExactTakes σ.length [.code ac_laws_FnExactTakes] (frA 0 args) σ = some r) : ev fns i_laws_FnExactTakes args σ = some r := ev_go n_laws_FnExactTakes hl h
end Go.Proofs.Ytlahdcofclkjjaa
