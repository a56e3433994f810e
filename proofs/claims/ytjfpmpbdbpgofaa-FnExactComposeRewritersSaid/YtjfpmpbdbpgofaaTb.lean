/- The table of all functions; printed by a program (gen2.py). -/
import Derived.Test.YtjfpmpbdbpgofaaAw30
import Derived.Test.YtjfpmpbdbpgofaaG0
import Derived.Test.YtjfpmpbdbpgofaaG1
import Derived.Test.YtjfpmpbdbpgofaaSp
set_option linter.unusedVariables false
set_option maxRecDepth 100000
namespace Go.Proofs.Ytjfpmpbdbpgofaa
open Aw
def tbl : List (FnE Try.prog) := [⟨i_laws_szOutPush, fa_laws_szOutPush, cf_laws_szOutPush⟩,
  ⟨i_laws_szOutPushS, fa_laws_szOutPushS, cf_laws_szOutPushS⟩,
  ⟨i_laws_szOutPushSS, fa_laws_szOutPushSS, cf_laws_szOutPushSS⟩,
  ⟨i_laws_szOutMove, fa_laws_szOutMove, cf_laws_szOutMove⟩,
  ⟨i_laws_szOutMoveS, fa_laws_szOutMoveS, cf_laws_szOutMoveS⟩,
  ⟨i_laws_szOutMoveSS, fa_laws_szOutMoveSS, cf_laws_szOutMoveSS⟩,
  ⟨i_laws_szOutMoveSSS, fa_laws_szOutMoveSSS, cf_laws_szOutMoveSSS⟩,
  ⟨i_laws_szRewriter, fa_laws_szRewriter, cf_laws_szRewriter⟩,
  ⟨i_laws_toOutPush, fa_laws_toOutPush, cf_laws_toOutPush⟩,
  ⟨i_laws_toOutPushS, fa_laws_toOutPushS, cf_laws_toOutPushS⟩,
  ⟨i_laws_toOutPushSS, fa_laws_toOutPushSS, cf_laws_toOutPushSS⟩,
  ⟨i_laws_toOutMove, fa_laws_toOutMove, cf_laws_toOutMove⟩,
  ⟨i_laws_toOutMoveS, fa_laws_toOutMoveS, cf_laws_toOutMoveS⟩,
  ⟨i_laws_toOutMoveSS, fa_laws_toOutMoveSS, cf_laws_toOutMoveSS⟩,
  ⟨i_laws_toOutMoveSSS, fa_laws_toOutMoveSSS, cf_laws_toOutMoveSSS⟩,
  ⟨i_laws_toRewriter, fa_laws_toRewriter, cf_laws_toRewriter⟩,
  ⟨i_laws_eqOutPush, fa_laws_eqOutPush, cf_laws_eqOutPush⟩,
  ⟨i_laws_eqOutPushS, fa_laws_eqOutPushS, cf_laws_eqOutPushS⟩,
  ⟨i_laws_eqOutPushSS, fa_laws_eqOutPushSS, cf_laws_eqOutPushSS⟩,
  ⟨i_laws_eqOutMove, fa_laws_eqOutMove, cf_laws_eqOutMove⟩,
  ⟨i_laws_eqOutMoveS, fa_laws_eqOutMoveS, cf_laws_eqOutMoveS⟩,
  ⟨i_laws_eqOutMoveSS, fa_laws_eqOutMoveSS, cf_laws_eqOutMoveSS⟩,
  ⟨i_laws_eqOutMoveSSS, fa_laws_eqOutMoveSSS, cf_laws_eqOutMoveSSS⟩,
  ⟨i_laws_eqRewriter, fa_laws_eqRewriter, cf_laws_eqRewriter⟩,
  ⟨i_laws_markText, fa_laws_markText, cf_laws_markText⟩,
  ⟨i_laws_markOutPushS, fa_laws_markOutPushS, cf_laws_markOutPushS⟩,
  ⟨i_laws_markOutPushSS, fa_laws_markOutPushSS, cf_laws_markOutPushSS⟩,
  ⟨i_laws_markOutMoveS, fa_laws_markOutMoveS, cf_laws_markOutMoveS⟩,
  ⟨i_laws_markOutMoveSS, fa_laws_markOutMoveSS, cf_laws_markOutMoveSS⟩,
  ⟨i_laws_markOutMoveSSS, fa_laws_markOutMoveSSS, cf_laws_markOutMoveSSS⟩,
  ⟨i_laws_markRewriter, fa_laws_markRewriter, cf_laws_markRewriter⟩,
  ⟨i_spec_l00In, fa_spec_l00In, cf_spec_l00In⟩,
  ⟨i_spec_l01Symbol, fa_spec_l01Symbol, cf_spec_l01Symbol⟩,
  ⟨i_spec_l01Ok, fa_spec_l01Ok, cf_spec_l01Ok⟩,
  ⟨i_spec_l06Out, fa_spec_l06Out, cf_spec_l06Out⟩,
  ⟨i_spec_l06Moves, fa_spec_l06Moves, cf_spec_l06Moves⟩,
  ⟨i_spec_l06Ok, fa_spec_l06Ok, cf_spec_l06Ok⟩,
  ⟨i_spec_l00Own, fa_spec_l00Own, cf_spec_l00Own⟩,
  ⟨i_spec_l01Return, fa_spec_l01Return, cf_spec_l01Return⟩,
  ⟨i_spec_l01Call, fa_spec_l01Call, cf_spec_l01Call⟩,
  ⟨i_P_spec_l06Run_read, fa_P_spec_l06Run_read, cf_P_spec_l06Run_read⟩,
  ⟨i_spec_l06Reads, fa_spec_l06Reads, cf_spec_l06Reads⟩,
  ⟨i_spec_l01Partners, fa_spec_l01Partners, cf_spec_l01Partners⟩,
  ⟨i_spec_l01Pending, fa_spec_l01Pending, cf_spec_l01Pending⟩,
  ⟨i_spec_l06Has, fa_spec_l06Has, cf_spec_l06Has⟩,
  ⟨i_spec_l06Structural, fa_spec_l06Structural, cf_spec_l06Structural⟩,
  ⟨i_spec_ComposeRewriters, fa_spec_ComposeRewriters, cf_spec_ComposeRewriters⟩,
  ⟨i_impl_within, fa_impl_within, cf_impl_within⟩,
  ⟨i_impl_size_L_impl_OutPush, fa_impl_size_L_impl_OutPush, cf_impl_size_L_impl_OutPush⟩,
  ⟨i_internal_stringslite_IndexByte, fa_internal_stringslite_IndexByte, cf_internal_stringslite_IndexByte⟩,
  ⟨i_strings_IndexByte, fa_strings_IndexByte, cf_strings_IndexByte⟩,
  ⟨i_impl_ValidWord, fa_impl_ValidWord, cf_impl_ValidWord⟩,
  ⟨i_impl_isOut, fa_impl_isOut, cf_impl_isOut⟩,
  ⟨i_impl_ValidRewriter_1, fa_impl_ValidRewriter_1, cf_impl_ValidRewriter_1⟩,
  ⟨i_impl_size_impl_OutMove, fa_impl_size_impl_OutMove, cf_impl_size_impl_OutMove⟩,
  ⟨i_slices_IndexFunc_L_impl_OutMove, fa_slices_IndexFunc_L_impl_OutMove, cf_slices_IndexFunc_L_impl_OutMove⟩,
  ⟨i_slices_ContainsFunc_L_impl_OutMove, fa_slices_ContainsFunc_L_impl_OutMove, cf_slices_ContainsFunc_L_impl_OutMove⟩,
  ⟨i_impl_ValidRewriter_2_1, fa_impl_ValidRewriter_2_1, cf_impl_ValidRewriter_2_1⟩,
  ⟨i_impl_ValidRewriter_2, fa_impl_ValidRewriter_2, cf_impl_ValidRewriter_2⟩,
  ⟨i_impl_size_L_L_impl_OutMove, fa_impl_size_L_L_impl_OutMove, cf_impl_size_L_L_impl_OutMove⟩,
  ⟨i_impl_size_L_impl_OutMove, fa_impl_size_L_impl_OutMove, cf_impl_size_L_impl_OutMove⟩,
  ⟨i_impl_ValidRewriter, fa_impl_ValidRewriter, cf_impl_ValidRewriter⟩,
  ⟨i_impl_size_int64, fa_impl_size_int64, cf_impl_size_int64⟩,
  ⟨i_impl_isReturn, fa_impl_isReturn, cf_impl_isReturn⟩,
  ⟨i_impl_isCall, fa_impl_isCall, cf_impl_isCall⟩,
  ⟨i_impl_match, fa_impl_match, cf_impl_match⟩,
  ⟨i_impl_isPending, fa_impl_isPending, cf_impl_isPending⟩,
  ⟨i_impl_Rewriter_isStructural_1, fa_impl_Rewriter_isStructural_1, cf_impl_Rewriter_isStructural_1⟩,
  ⟨i_impl_Rewriter_isStructural, fa_impl_Rewriter_isStructural, cf_impl_Rewriter_isStructural⟩,
  ⟨i_impl_builtRewriter, fa_impl_builtRewriter, cf_impl_builtRewriter⟩,
  ⟨i_slices_Clone_L_int64, fs_slices_Clone_L_int64, ok_slices_Clone_L_int64⟩,
  ⟨i_impl_kindOf, fa_impl_kindOf, cf_impl_kindOf⟩,
  ⟨i_impl_isInner, fa_impl_isInner, cf_impl_isInner⟩,
  ⟨i_P_strings_Builder_copyCheck, fa_P_strings_Builder_copyCheck, cf_P_strings_Builder_copyCheck⟩,
  ⟨i_P_strings_Builder_WriteString, fa_P_strings_Builder_WriteString, cf_P_strings_Builder_WriteString⟩,
  ⟨i_P_strings_Builder_String, fa_P_strings_Builder_String, cf_P_strings_Builder_String⟩,
  ⟨i_impl_Rewriter_rewrite, fa_impl_Rewriter_rewrite, cf_impl_Rewriter_rewrite⟩,
  ⟨i_impl_ComposeRewriters_1, fa_impl_ComposeRewriters_1, cf_impl_ComposeRewriters_1⟩,
  ⟨i_impl_marksOf, fa_impl_marksOf, cf_impl_marksOf⟩,
  ⟨i_impl_ComposeRewriters_2, fa_impl_ComposeRewriters_2, cf_impl_ComposeRewriters_2⟩,
  ⟨i_impl_ComposeRewriters_3, fa_impl_ComposeRewriters_3, cf_impl_ComposeRewriters_3⟩,
  ⟨i_impl_ComposeRewriters, fa_impl_ComposeRewriters, cf_impl_ComposeRewriters⟩,
  ⟨i_laws_heldOutPushS, fa_laws_heldOutPushS, cf_laws_heldOutPushS⟩,
  ⟨i_laws_heldOutPushSS, fa_laws_heldOutPushSS, cf_laws_heldOutPushSS⟩,
  ⟨i_laws_heldOutMoveS, fa_laws_heldOutMoveS, cf_laws_heldOutMoveS⟩,
  ⟨i_laws_heldOutMoveSS, fa_laws_heldOutMoveSS, cf_laws_heldOutMoveSS⟩,
  ⟨i_laws_heldOutMoveSSS, fa_laws_heldOutMoveSSS, cf_laws_heldOutMoveSSS⟩,
  ⟨i_laws_heldRewriter, fa_laws_heldRewriter, cf_laws_heldRewriter⟩,
  ⟨i_laws_FnExactComposeRewriters, fa_laws_FnExactComposeRewriters, cf_laws_FnExactComposeRewriters⟩]
def fns : Fns := fnsOf tbl
theorem fnsOk : FnsOk Try.prog fns := fnsOf_ok tbl
theorem n_laws_szOutPush : fns i_laws_szOutPush = some fa_laws_szOutPush := rfl
@[simp] theorem c_laws_szOutPush (args : List PV) (σ : List AObj) : callM fns (ev fns) i_laws_szOutPush args σ = callN fns i_laws_szOutPush args σ := callM_np n_laws_szOutPush rfl rfl
theorem n_laws_szOutPushS : fns i_laws_szOutPushS = some fa_laws_szOutPushS := rfl
@[simp] theorem c_laws_szOutPushS (args : List PV) (σ : List AObj) : callM fns (ev fns) i_laws_szOutPushS args σ = callN fns i_laws_szOutPushS args σ := callM_np n_laws_szOutPushS rfl rfl
theorem n_laws_szOutPushSS : fns i_laws_szOutPushSS = some fa_laws_szOutPushSS := rfl
@[simp] theorem c_laws_szOutPushSS (args : List PV) (σ : List AObj) : callM fns (ev fns) i_laws_szOutPushSS args σ = callN fns i_laws_szOutPushSS args σ := callM_np n_laws_szOutPushSS rfl rfl
theorem n_laws_szOutMove : fns i_laws_szOutMove = some fa_laws_szOutMove := rfl
@[simp] theorem c_laws_szOutMove (args : List PV) (σ : List AObj) : callM fns (ev fns) i_laws_szOutMove args σ = callN fns i_laws_szOutMove args σ := callM_np n_laws_szOutMove rfl rfl
theorem n_laws_szOutMoveS : fns i_laws_szOutMoveS = some fa_laws_szOutMoveS := rfl
@[simp] theorem c_laws_szOutMoveS (args : List PV) (σ : List AObj) : callM fns (ev fns) i_laws_szOutMoveS args σ = callN fns i_laws_szOutMoveS args σ := callM_np n_laws_szOutMoveS rfl rfl
theorem n_laws_szOutMoveSS : fns i_laws_szOutMoveSS = some fa_laws_szOutMoveSS := rfl
@[simp] theorem c_laws_szOutMoveSS (args : List PV) (σ : List AObj) : callM fns (ev fns) i_laws_szOutMoveSS args σ = callN fns i_laws_szOutMoveSS args σ := callM_np n_laws_szOutMoveSS rfl rfl
theorem n_laws_szOutMoveSSS : fns i_laws_szOutMoveSSS = some fa_laws_szOutMoveSSS := rfl
@[simp] theorem c_laws_szOutMoveSSS (args : List PV) (σ : List AObj) : callM fns (ev fns) i_laws_szOutMoveSSS args σ = callN fns i_laws_szOutMoveSSS args σ := callM_np n_laws_szOutMoveSSS rfl rfl
theorem n_laws_szRewriter : fns i_laws_szRewriter = some fa_laws_szRewriter := rfl
@[simp] theorem c_laws_szRewriter (args : List PV) (σ : List AObj) : callM fns (ev fns) i_laws_szRewriter args σ = callN fns i_laws_szRewriter args σ := callM_np n_laws_szRewriter rfl rfl
theorem n_laws_toOutPush : fns i_laws_toOutPush = some fa_laws_toOutPush := rfl
@[simp] theorem c_laws_toOutPush (args : List PV) (σ : List AObj) : callM fns (ev fns) i_laws_toOutPush args σ = callN fns i_laws_toOutPush args σ := callM_np n_laws_toOutPush rfl rfl
theorem n_laws_toOutPushS : fns i_laws_toOutPushS = some fa_laws_toOutPushS := rfl
@[simp] theorem c_laws_toOutPushS (args : List PV) (σ : List AObj) : callM fns (ev fns) i_laws_toOutPushS args σ = callN fns i_laws_toOutPushS args σ := callM_np n_laws_toOutPushS rfl rfl
theorem n_laws_toOutPushSS : fns i_laws_toOutPushSS = some fa_laws_toOutPushSS := rfl
@[simp] theorem c_laws_toOutPushSS (args : List PV) (σ : List AObj) : callM fns (ev fns) i_laws_toOutPushSS args σ = callN fns i_laws_toOutPushSS args σ := callM_np n_laws_toOutPushSS rfl rfl
theorem n_laws_toOutMove : fns i_laws_toOutMove = some fa_laws_toOutMove := rfl
@[simp] theorem c_laws_toOutMove (args : List PV) (σ : List AObj) : callM fns (ev fns) i_laws_toOutMove args σ = callN fns i_laws_toOutMove args σ := callM_np n_laws_toOutMove rfl rfl
theorem n_laws_toOutMoveS : fns i_laws_toOutMoveS = some fa_laws_toOutMoveS := rfl
@[simp] theorem c_laws_toOutMoveS (args : List PV) (σ : List AObj) : callM fns (ev fns) i_laws_toOutMoveS args σ = callN fns i_laws_toOutMoveS args σ := callM_np n_laws_toOutMoveS rfl rfl
theorem n_laws_toOutMoveSS : fns i_laws_toOutMoveSS = some fa_laws_toOutMoveSS := rfl
@[simp] theorem c_laws_toOutMoveSS (args : List PV) (σ : List AObj) : callM fns (ev fns) i_laws_toOutMoveSS args σ = callN fns i_laws_toOutMoveSS args σ := callM_np n_laws_toOutMoveSS rfl rfl
theorem n_laws_toOutMoveSSS : fns i_laws_toOutMoveSSS = some fa_laws_toOutMoveSSS := rfl
@[simp] theorem c_laws_toOutMoveSSS (args : List PV) (σ : List AObj) : callM fns (ev fns) i_laws_toOutMoveSSS args σ = callN fns i_laws_toOutMoveSSS args σ := callM_np n_laws_toOutMoveSSS rfl rfl
theorem n_laws_toRewriter : fns i_laws_toRewriter = some fa_laws_toRewriter := rfl
@[simp] theorem c_laws_toRewriter (args : List PV) (σ : List AObj) : callM fns (ev fns) i_laws_toRewriter args σ = callN fns i_laws_toRewriter args σ := callM_np n_laws_toRewriter rfl rfl
theorem n_laws_eqOutPush : fns i_laws_eqOutPush = some fa_laws_eqOutPush := rfl
@[simp] theorem c_laws_eqOutPush (args : List PV) (σ : List AObj) : callM fns (ev fns) i_laws_eqOutPush args σ = callN fns i_laws_eqOutPush args σ := callM_np n_laws_eqOutPush rfl rfl
theorem n_laws_eqOutPushS : fns i_laws_eqOutPushS = some fa_laws_eqOutPushS := rfl
@[simp] theorem c_laws_eqOutPushS (args : List PV) (σ : List AObj) : callM fns (ev fns) i_laws_eqOutPushS args σ = callN fns i_laws_eqOutPushS args σ := callM_np n_laws_eqOutPushS rfl rfl
theorem n_laws_eqOutPushSS : fns i_laws_eqOutPushSS = some fa_laws_eqOutPushSS := rfl
@[simp] theorem c_laws_eqOutPushSS (args : List PV) (σ : List AObj) : callM fns (ev fns) i_laws_eqOutPushSS args σ = callN fns i_laws_eqOutPushSS args σ := callM_np n_laws_eqOutPushSS rfl rfl
theorem n_laws_eqOutMove : fns i_laws_eqOutMove = some fa_laws_eqOutMove := rfl
@[simp] theorem c_laws_eqOutMove (args : List PV) (σ : List AObj) : callM fns (ev fns) i_laws_eqOutMove args σ = callN fns i_laws_eqOutMove args σ := callM_np n_laws_eqOutMove rfl rfl
theorem n_laws_eqOutMoveS : fns i_laws_eqOutMoveS = some fa_laws_eqOutMoveS := rfl
@[simp] theorem c_laws_eqOutMoveS (args : List PV) (σ : List AObj) : callM fns (ev fns) i_laws_eqOutMoveS args σ = callN fns i_laws_eqOutMoveS args σ := callM_np n_laws_eqOutMoveS rfl rfl
theorem n_laws_eqOutMoveSS : fns i_laws_eqOutMoveSS = some fa_laws_eqOutMoveSS := rfl
@[simp] theorem c_laws_eqOutMoveSS (args : List PV) (σ : List AObj) : callM fns (ev fns) i_laws_eqOutMoveSS args σ = callN fns i_laws_eqOutMoveSS args σ := callM_np n_laws_eqOutMoveSS rfl rfl
theorem n_laws_eqOutMoveSSS : fns i_laws_eqOutMoveSSS = some fa_laws_eqOutMoveSSS := rfl
@[simp] theorem c_laws_eqOutMoveSSS (args : List PV) (σ : List AObj) : callM fns (ev fns) i_laws_eqOutMoveSSS args σ = callN fns i_laws_eqOutMoveSSS args σ := callM_np n_laws_eqOutMoveSSS rfl rfl
theorem n_laws_eqRewriter : fns i_laws_eqRewriter = some fa_laws_eqRewriter := rfl
@[simp] theorem c_laws_eqRewriter (args : List PV) (σ : List AObj) : callM fns (ev fns) i_laws_eqRewriter args σ = callT fns [(.agg [.any, .any, (.lst 1 (.lst 3 .any)), (.lst 1 (.lst 1 (.lst 2 .any))), (.lst 1 (.lst 2 .any))]), (.agg [.any, .any, (.lst 1 (.lst 3 .any)), (.lst 1 (.lst 1 (.lst 2 .any))), (.lst 1 (.lst 2 .any))])] i_laws_eqRewriter args σ := callM_ty n_laws_eqRewriter rfl
theorem n_laws_markText : fns i_laws_markText = some fa_laws_markText := rfl
@[simp] theorem c_laws_markText (args : List PV) (σ : List AObj) : callM fns (ev fns) i_laws_markText args σ = callN fns i_laws_markText args σ := callM_np n_laws_markText rfl rfl
theorem n_laws_markOutPushS : fns i_laws_markOutPushS = some fa_laws_markOutPushS := rfl
@[simp] theorem c_laws_markOutPushS (args : List PV) (σ : List AObj) : callM fns (ev fns) i_laws_markOutPushS args σ = ev fns i_laws_markOutPushS args σ := by simp [callM, n_laws_markOutPushS, fa_laws_markOutPushS]
theorem n_laws_markOutPushSS : fns i_laws_markOutPushSS = some fa_laws_markOutPushSS := rfl
@[simp] theorem c_laws_markOutPushSS (args : List PV) (σ : List AObj) : callM fns (ev fns) i_laws_markOutPushSS args σ = ev fns i_laws_markOutPushSS args σ := by simp [callM, n_laws_markOutPushSS, fa_laws_markOutPushSS]
theorem n_laws_markOutMoveS : fns i_laws_markOutMoveS = some fa_laws_markOutMoveS := rfl
@[simp] theorem c_laws_markOutMoveS (args : List PV) (σ : List AObj) : callM fns (ev fns) i_laws_markOutMoveS args σ = ev fns i_laws_markOutMoveS args σ := by simp [callM, n_laws_markOutMoveS, fa_laws_markOutMoveS]
theorem n_laws_markOutMoveSS : fns i_laws_markOutMoveSS = some fa_laws_markOutMoveSS := rfl
@[simp] theorem c_laws_markOutMoveSS (args : List PV) (σ : List AObj) : callM fns (ev fns) i_laws_markOutMoveSS args σ = ev fns i_laws_markOutMoveSS args σ := by simp [callM, n_laws_markOutMoveSS, fa_laws_markOutMoveSS]
theorem n_laws_markOutMoveSSS : fns i_laws_markOutMoveSSS = some fa_laws_markOutMoveSSS := rfl
@[simp] theorem c_laws_markOutMoveSSS (args : List PV) (σ : List AObj) : callM fns (ev fns) i_laws_markOutMoveSSS args σ = ev fns i_laws_markOutMoveSSS args σ := by simp [callM, n_laws_markOutMoveSSS, fa_laws_markOutMoveSSS]
theorem n_laws_markRewriter : fns i_laws_markRewriter = some fa_laws_markRewriter := rfl
@[simp] theorem c_laws_markRewriter (args : List PV) (σ : List AObj) : callM fns (ev fns) i_laws_markRewriter args σ = ev fns i_laws_markRewriter args σ := by simp [callM, n_laws_markRewriter, fa_laws_markRewriter]
theorem n_spec_l00In : fns i_spec_l00In = some fa_spec_l00In := rfl
@[simp] theorem c_spec_l00In (args : List PV) (σ : List AObj) : callM fns (ev fns) i_spec_l00In args σ = callN fns i_spec_l00In args σ := callM_np n_spec_l00In rfl rfl
theorem n_spec_l01Symbol : fns i_spec_l01Symbol = some fa_spec_l01Symbol := rfl
@[simp] theorem c_spec_l01Symbol (args : List PV) (σ : List AObj) : callM fns (ev fns) i_spec_l01Symbol args σ = callN fns i_spec_l01Symbol args σ := callM_np n_spec_l01Symbol rfl rfl
theorem n_spec_l01Ok : fns i_spec_l01Ok = some fa_spec_l01Ok := rfl
@[simp] theorem c_spec_l01Ok (args : List PV) (σ : List AObj) : callM fns (ev fns) i_spec_l01Ok args σ = callN fns i_spec_l01Ok args σ := callM_np n_spec_l01Ok rfl rfl
theorem n_spec_l06Out : fns i_spec_l06Out = some fa_spec_l06Out := rfl
@[simp] theorem c_spec_l06Out (args : List PV) (σ : List AObj) : callM fns (ev fns) i_spec_l06Out args σ = callN fns i_spec_l06Out args σ := callM_np n_spec_l06Out rfl rfl
theorem n_spec_l06Moves : fns i_spec_l06Moves = some fa_spec_l06Moves := rfl
@[simp] theorem c_spec_l06Moves (args : List PV) (σ : List AObj) : callM fns (ev fns) i_spec_l06Moves args σ = callN fns i_spec_l06Moves args σ := callM_np n_spec_l06Moves rfl rfl
theorem n_spec_l06Ok : fns i_spec_l06Ok = some fa_spec_l06Ok := rfl
@[simp] theorem c_spec_l06Ok (args : List PV) (σ : List AObj) : callM fns (ev fns) i_spec_l06Ok args σ = callN fns i_spec_l06Ok args σ := callM_np n_spec_l06Ok rfl rfl
theorem n_spec_l00Own : fns i_spec_l00Own = some fa_spec_l00Own := rfl
@[simp] theorem c_spec_l00Own (args : List PV) (σ : List AObj) : callM fns (ev fns) i_spec_l00Own args σ = callN fns i_spec_l00Own args σ := callM_np n_spec_l00Own rfl rfl
theorem n_spec_l01Return : fns i_spec_l01Return = some fa_spec_l01Return := rfl
@[simp] theorem c_spec_l01Return (args : List PV) (σ : List AObj) : callM fns (ev fns) i_spec_l01Return args σ = callN fns i_spec_l01Return args σ := callM_np n_spec_l01Return rfl rfl
theorem n_spec_l01Call : fns i_spec_l01Call = some fa_spec_l01Call := rfl
@[simp] theorem c_spec_l01Call (args : List PV) (σ : List AObj) : callM fns (ev fns) i_spec_l01Call args σ = callN fns i_spec_l01Call args σ := callM_np n_spec_l01Call rfl rfl
theorem n_P_spec_l06Run_read : fns i_P_spec_l06Run_read = some fa_P_spec_l06Run_read := rfl
@[simp] theorem c_P_spec_l06Run_read (args : List PV) (σ : List AObj) : callM fns (ev fns) i_P_spec_l06Run_read args σ = ev fns i_P_spec_l06Run_read args σ := by simp [callM, n_P_spec_l06Run_read, fa_P_spec_l06Run_read]
theorem n_spec_l06Reads : fns i_spec_l06Reads = some fa_spec_l06Reads := rfl
@[simp] theorem c_spec_l06Reads (args : List PV) (σ : List AObj) : callM fns (ev fns) i_spec_l06Reads args σ = callN fns i_spec_l06Reads args σ := callM_np n_spec_l06Reads rfl rfl
theorem n_spec_l01Partners : fns i_spec_l01Partners = some fa_spec_l01Partners := rfl
@[simp] theorem c_spec_l01Partners (args : List PV) (σ : List AObj) : callM fns (ev fns) i_spec_l01Partners args σ = callN fns i_spec_l01Partners args σ := callM_np n_spec_l01Partners rfl rfl
theorem n_spec_l01Pending : fns i_spec_l01Pending = some fa_spec_l01Pending := rfl
@[simp] theorem c_spec_l01Pending (args : List PV) (σ : List AObj) : callM fns (ev fns) i_spec_l01Pending args σ = callN fns i_spec_l01Pending args σ := callM_np n_spec_l01Pending rfl rfl
theorem n_spec_l06Has : fns i_spec_l06Has = some fa_spec_l06Has := rfl
@[simp] theorem c_spec_l06Has (args : List PV) (σ : List AObj) : callM fns (ev fns) i_spec_l06Has args σ = callN fns i_spec_l06Has args σ := callM_np n_spec_l06Has rfl rfl
theorem n_spec_l06Structural : fns i_spec_l06Structural = some fa_spec_l06Structural := rfl
@[simp] theorem c_spec_l06Structural (args : List PV) (σ : List AObj) : callM fns (ev fns) i_spec_l06Structural args σ = callN fns i_spec_l06Structural args σ := callM_np n_spec_l06Structural rfl rfl
theorem n_spec_ComposeRewriters : fns i_spec_ComposeRewriters = some fa_spec_ComposeRewriters := rfl
@[simp] theorem c_spec_ComposeRewriters (args : List PV) (σ : List AObj) : callM fns (ev fns) i_spec_ComposeRewriters args σ = callT fns [(.agg [.any, .any, (.lst 1 (.lst 3 .any)), (.lst 1 (.lst 1 (.lst 2 .any))), (.lst 1 (.lst 2 .any))]), (.agg [.any, .any, (.lst 1 (.lst 3 .any)), (.lst 1 (.lst 1 (.lst 2 .any))), (.lst 1 (.lst 2 .any))])] i_spec_ComposeRewriters args σ := callM_ty n_spec_ComposeRewriters rfl
theorem n_impl_within : fns i_impl_within = some fa_impl_within := rfl
@[simp] theorem c_impl_within (args : List PV) (σ : List AObj) : callM fns (ev fns) i_impl_within args σ = callN fns i_impl_within args σ := callM_np n_impl_within rfl rfl
theorem n_impl_size_L_impl_OutPush : fns i_impl_size_L_impl_OutPush = some fa_impl_size_L_impl_OutPush := rfl
@[simp] theorem c_impl_size_L_impl_OutPush (args : List PV) (σ : List AObj) : callM fns (ev fns) i_impl_size_L_impl_OutPush args σ = callN fns i_impl_size_L_impl_OutPush args σ := callM_np n_impl_size_L_impl_OutPush rfl rfl
theorem n_internal_stringslite_IndexByte : fns i_internal_stringslite_IndexByte = some fa_internal_stringslite_IndexByte := rfl
@[simp] theorem c_internal_stringslite_IndexByte (args : List PV) (σ : List AObj) : callM fns (ev fns) i_internal_stringslite_IndexByte args σ = callN fns i_internal_stringslite_IndexByte args σ := callM_np n_internal_stringslite_IndexByte rfl rfl
theorem n_strings_IndexByte : fns i_strings_IndexByte = some fa_strings_IndexByte := rfl
@[simp] theorem c_strings_IndexByte (args : List PV) (σ : List AObj) : callM fns (ev fns) i_strings_IndexByte args σ = callN fns i_strings_IndexByte args σ := callM_np n_strings_IndexByte rfl rfl
theorem n_impl_ValidWord : fns i_impl_ValidWord = some fa_impl_ValidWord := rfl
@[simp] theorem c_impl_ValidWord (args : List PV) (σ : List AObj) : callM fns (ev fns) i_impl_ValidWord args σ = callN fns i_impl_ValidWord args σ := callM_np n_impl_ValidWord rfl rfl
theorem n_impl_isOut : fns i_impl_isOut = some fa_impl_isOut := rfl
@[simp] theorem c_impl_isOut (args : List PV) (σ : List AObj) : callM fns (ev fns) i_impl_isOut args σ = callN fns i_impl_isOut args σ := callM_np n_impl_isOut rfl rfl
theorem n_impl_ValidRewriter_1 : fns i_impl_ValidRewriter_1 = some fa_impl_ValidRewriter_1 := rfl
@[simp] theorem c_impl_ValidRewriter_1 (args : List PV) (σ : List AObj) : callM fns (ev fns) i_impl_ValidRewriter_1 args σ = callN fns i_impl_ValidRewriter_1 args σ := callM_np n_impl_ValidRewriter_1 rfl rfl
theorem n_impl_size_impl_OutMove : fns i_impl_size_impl_OutMove = some fa_impl_size_impl_OutMove := rfl
@[simp] theorem c_impl_size_impl_OutMove (args : List PV) (σ : List AObj) : callM fns (ev fns) i_impl_size_impl_OutMove args σ = callN fns i_impl_size_impl_OutMove args σ := callM_np n_impl_size_impl_OutMove rfl rfl
theorem n_slices_IndexFunc_L_impl_OutMove : fns i_slices_IndexFunc_L_impl_OutMove = some fa_slices_IndexFunc_L_impl_OutMove := rfl
@[simp] theorem c_slices_IndexFunc_L_impl_OutMove (args : List PV) (σ : List AObj) : callM fns (ev fns) i_slices_IndexFunc_L_impl_OutMove args σ = callN fns i_slices_IndexFunc_L_impl_OutMove args σ := callM_np n_slices_IndexFunc_L_impl_OutMove rfl rfl
theorem n_slices_ContainsFunc_L_impl_OutMove : fns i_slices_ContainsFunc_L_impl_OutMove = some fa_slices_ContainsFunc_L_impl_OutMove := rfl
@[simp] theorem c_slices_ContainsFunc_L_impl_OutMove (args : List PV) (σ : List AObj) : callM fns (ev fns) i_slices_ContainsFunc_L_impl_OutMove args σ = callN fns i_slices_ContainsFunc_L_impl_OutMove args σ := callM_np n_slices_ContainsFunc_L_impl_OutMove rfl rfl
theorem n_impl_ValidRewriter_2_1 : fns i_impl_ValidRewriter_2_1 = some fa_impl_ValidRewriter_2_1 := rfl
@[simp] theorem c_impl_ValidRewriter_2_1 (args : List PV) (σ : List AObj) : callM fns (ev fns) i_impl_ValidRewriter_2_1 args σ = callN fns i_impl_ValidRewriter_2_1 args σ := callM_np n_impl_ValidRewriter_2_1 rfl rfl
theorem n_impl_ValidRewriter_2 : fns i_impl_ValidRewriter_2 = some fa_impl_ValidRewriter_2 := rfl
@[simp] theorem c_impl_ValidRewriter_2 (args : List PV) (σ : List AObj) : callM fns (ev fns) i_impl_ValidRewriter_2 args σ = callN fns i_impl_ValidRewriter_2 args σ := callM_np n_impl_ValidRewriter_2 rfl rfl
theorem n_impl_size_L_L_impl_OutMove : fns i_impl_size_L_L_impl_OutMove = some fa_impl_size_L_L_impl_OutMove := rfl
@[simp] theorem c_impl_size_L_L_impl_OutMove (args : List PV) (σ : List AObj) : callM fns (ev fns) i_impl_size_L_L_impl_OutMove args σ = callN fns i_impl_size_L_L_impl_OutMove args σ := callM_np n_impl_size_L_L_impl_OutMove rfl rfl
theorem n_impl_size_L_impl_OutMove : fns i_impl_size_L_impl_OutMove = some fa_impl_size_L_impl_OutMove := rfl
@[simp] theorem c_impl_size_L_impl_OutMove (args : List PV) (σ : List AObj) : callM fns (ev fns) i_impl_size_L_impl_OutMove args σ = callN fns i_impl_size_L_impl_OutMove args σ := callM_np n_impl_size_L_impl_OutMove rfl rfl
theorem n_impl_ValidRewriter : fns i_impl_ValidRewriter = some fa_impl_ValidRewriter := rfl
@[simp] theorem c_impl_ValidRewriter (args : List PV) (σ : List AObj) : callM fns (ev fns) i_impl_ValidRewriter args σ = callN fns i_impl_ValidRewriter args σ := callM_np n_impl_ValidRewriter rfl rfl
theorem n_impl_size_int64 : fns i_impl_size_int64 = some fa_impl_size_int64 := rfl
@[simp] theorem c_impl_size_int64 (args : List PV) (σ : List AObj) : callM fns (ev fns) i_impl_size_int64 args σ = callN fns i_impl_size_int64 args σ := callM_np n_impl_size_int64 rfl rfl
theorem n_impl_isReturn : fns i_impl_isReturn = some fa_impl_isReturn := rfl
@[simp] theorem c_impl_isReturn (args : List PV) (σ : List AObj) : callM fns (ev fns) i_impl_isReturn args σ = callN fns i_impl_isReturn args σ := callM_np n_impl_isReturn rfl rfl
theorem n_impl_isCall : fns i_impl_isCall = some fa_impl_isCall := rfl
@[simp] theorem c_impl_isCall (args : List PV) (σ : List AObj) : callM fns (ev fns) i_impl_isCall args σ = callN fns i_impl_isCall args σ := callM_np n_impl_isCall rfl rfl
theorem n_impl_match : fns i_impl_match = some fa_impl_match := rfl
@[simp] theorem c_impl_match (args : List PV) (σ : List AObj) : callM fns (ev fns) i_impl_match args σ = callN fns i_impl_match args σ := callM_np n_impl_match rfl rfl
theorem n_impl_isPending : fns i_impl_isPending = some fa_impl_isPending := rfl
@[simp] theorem c_impl_isPending (args : List PV) (σ : List AObj) : callM fns (ev fns) i_impl_isPending args σ = callN fns i_impl_isPending args σ := callM_np n_impl_isPending rfl rfl
theorem n_impl_Rewriter_isStructural_1 : fns i_impl_Rewriter_isStructural_1 = some fa_impl_Rewriter_isStructural_1 := rfl
@[simp] theorem c_impl_Rewriter_isStructural_1 (args : List PV) (σ : List AObj) : callM fns (ev fns) i_impl_Rewriter_isStructural_1 args σ = callN fns i_impl_Rewriter_isStructural_1 args σ := callM_np n_impl_Rewriter_isStructural_1 rfl rfl
theorem n_impl_Rewriter_isStructural : fns i_impl_Rewriter_isStructural = some fa_impl_Rewriter_isStructural := rfl
@[simp] theorem c_impl_Rewriter_isStructural (args : List PV) (σ : List AObj) : callM fns (ev fns) i_impl_Rewriter_isStructural args σ = callN fns i_impl_Rewriter_isStructural args σ := callM_np n_impl_Rewriter_isStructural rfl rfl
theorem n_impl_builtRewriter : fns i_impl_builtRewriter = some fa_impl_builtRewriter := rfl
@[simp] theorem c_impl_builtRewriter (args : List PV) (σ : List AObj) : callM fns (ev fns) i_impl_builtRewriter args σ = callN fns i_impl_builtRewriter args σ := callM_np n_impl_builtRewriter rfl rfl
theorem n_slices_Clone_L_int64 : fns i_slices_Clone_L_int64 = some fs_slices_Clone_L_int64 := rfl
@[simp] theorem c_slices_Clone_L_int64 (args : List PV) (σ : List AObj) : callM fns (ev fns) i_slices_Clone_L_int64 args σ = callN fns i_slices_Clone_L_int64 args σ := callM_np n_slices_Clone_L_int64 rfl rfl
theorem sp_slices_Clone_L_int64 (args : List PV) (σ : List AObj) : ev fns i_slices_Clone_L_int64 args σ = spClone 1 8 args σ := ev_sp n_slices_Clone_L_int64 rfl args σ
theorem n_impl_kindOf : fns i_impl_kindOf = some fa_impl_kindOf := rfl
@[simp] theorem c_impl_kindOf (args : List PV) (σ : List AObj) : callM fns (ev fns) i_impl_kindOf args σ = callN fns i_impl_kindOf args σ := callM_np n_impl_kindOf rfl rfl
theorem n_impl_isInner : fns i_impl_isInner = some fa_impl_isInner := rfl
@[simp] theorem c_impl_isInner (args : List PV) (σ : List AObj) : callM fns (ev fns) i_impl_isInner args σ = callN fns i_impl_isInner args σ := callM_np n_impl_isInner rfl rfl
theorem n_P_strings_Builder_copyCheck : fns i_P_strings_Builder_copyCheck = some fa_P_strings_Builder_copyCheck := rfl
@[simp] theorem c_P_strings_Builder_copyCheck (args : List PV) (σ : List AObj) : callM fns (ev fns) i_P_strings_Builder_copyCheck args σ = ev fns i_P_strings_Builder_copyCheck args σ := by simp [callM, n_P_strings_Builder_copyCheck, fa_P_strings_Builder_copyCheck]
theorem n_P_strings_Builder_WriteString : fns i_P_strings_Builder_WriteString = some fa_P_strings_Builder_WriteString := rfl
@[simp] theorem c_P_strings_Builder_WriteString (args : List PV) (σ : List AObj) : callM fns (ev fns) i_P_strings_Builder_WriteString args σ = ev fns i_P_strings_Builder_WriteString args σ := by simp [callM, n_P_strings_Builder_WriteString, fa_P_strings_Builder_WriteString]
theorem n_P_strings_Builder_String : fns i_P_strings_Builder_String = some fa_P_strings_Builder_String := rfl
@[simp] theorem c_P_strings_Builder_String (args : List PV) (σ : List AObj) : callM fns (ev fns) i_P_strings_Builder_String args σ = ev fns i_P_strings_Builder_String args σ := by simp [callM, n_P_strings_Builder_String, fa_P_strings_Builder_String]
theorem n_impl_Rewriter_rewrite : fns i_impl_Rewriter_rewrite = some fa_impl_Rewriter_rewrite := rfl
@[simp] theorem c_impl_Rewriter_rewrite (args : List PV) (σ : List AObj) : callM fns (ev fns) i_impl_Rewriter_rewrite args σ = callN fns i_impl_Rewriter_rewrite args σ := callM_np n_impl_Rewriter_rewrite rfl rfl
theorem n_impl_ComposeRewriters_1 : fns i_impl_ComposeRewriters_1 = some fa_impl_ComposeRewriters_1 := rfl
@[simp] theorem c_impl_ComposeRewriters_1 (args : List PV) (σ : List AObj) : callM fns (ev fns) i_impl_ComposeRewriters_1 args σ = callN fns i_impl_ComposeRewriters_1 args σ := callM_np n_impl_ComposeRewriters_1 rfl rfl
theorem n_impl_marksOf : fns i_impl_marksOf = some fa_impl_marksOf := rfl
@[simp] theorem c_impl_marksOf (args : List PV) (σ : List AObj) : callM fns (ev fns) i_impl_marksOf args σ = callN fns i_impl_marksOf args σ := callM_np n_impl_marksOf rfl rfl
theorem n_impl_ComposeRewriters_2 : fns i_impl_ComposeRewriters_2 = some fa_impl_ComposeRewriters_2 := rfl
@[simp] theorem c_impl_ComposeRewriters_2 (args : List PV) (σ : List AObj) : callM fns (ev fns) i_impl_ComposeRewriters_2 args σ = callN fns i_impl_ComposeRewriters_2 args σ := callM_np n_impl_ComposeRewriters_2 rfl rfl
theorem n_impl_ComposeRewriters_3 : fns i_impl_ComposeRewriters_3 = some fa_impl_ComposeRewriters_3 := rfl
@[simp] theorem c_impl_ComposeRewriters_3 (args : List PV) (σ : List AObj) : callM fns (ev fns) i_impl_ComposeRewriters_3 args σ = callN fns i_impl_ComposeRewriters_3 args σ := callM_np n_impl_ComposeRewriters_3 rfl rfl
theorem n_impl_ComposeRewriters : fns i_impl_ComposeRewriters = some fa_impl_ComposeRewriters := rfl
@[simp] theorem c_impl_ComposeRewriters (args : List PV) (σ : List AObj) : callM fns (ev fns) i_impl_ComposeRewriters args σ = callT fns [(.agg [.any, .any, (.lst 1 (.lst 3 .any)), (.lst 1 (.lst 1 (.lst 2 .any))), (.lst 1 (.lst 2 .any))]), (.agg [.any, .any, (.lst 1 (.lst 3 .any)), (.lst 1 (.lst 1 (.lst 2 .any))), (.lst 1 (.lst 2 .any))])] i_impl_ComposeRewriters args σ := callM_ty n_impl_ComposeRewriters rfl
theorem n_laws_heldOutPushS : fns i_laws_heldOutPushS = some fa_laws_heldOutPushS := rfl
@[simp] theorem c_laws_heldOutPushS (args : List PV) (σ : List AObj) : callM fns (ev fns) i_laws_heldOutPushS args σ = callN fns i_laws_heldOutPushS args σ := callM_np n_laws_heldOutPushS rfl rfl
theorem n_laws_heldOutPushSS : fns i_laws_heldOutPushSS = some fa_laws_heldOutPushSS := rfl
@[simp] theorem c_laws_heldOutPushSS (args : List PV) (σ : List AObj) : callM fns (ev fns) i_laws_heldOutPushSS args σ = callN fns i_laws_heldOutPushSS args σ := callM_np n_laws_heldOutPushSS rfl rfl
theorem n_laws_heldOutMoveS : fns i_laws_heldOutMoveS = some fa_laws_heldOutMoveS := rfl
@[simp] theorem c_laws_heldOutMoveS (args : List PV) (σ : List AObj) : callM fns (ev fns) i_laws_heldOutMoveS args σ = callN fns i_laws_heldOutMoveS args σ := callM_np n_laws_heldOutMoveS rfl rfl
theorem n_laws_heldOutMoveSS : fns i_laws_heldOutMoveSS = some fa_laws_heldOutMoveSS := rfl
@[simp] theorem c_laws_heldOutMoveSS (args : List PV) (σ : List AObj) : callM fns (ev fns) i_laws_heldOutMoveSS args σ = callN fns i_laws_heldOutMoveSS args σ := callM_np n_laws_heldOutMoveSS rfl rfl
theorem n_laws_heldOutMoveSSS : fns i_laws_heldOutMoveSSS = some fa_laws_heldOutMoveSSS := rfl
@[simp] theorem c_laws_heldOutMoveSSS (args : List PV) (σ : List AObj) : callM fns (ev fns) i_laws_heldOutMoveSSS args σ = callN fns i_laws_heldOutMoveSSS args σ := callM_np n_laws_heldOutMoveSSS rfl rfl
theorem n_laws_heldRewriter : fns i_laws_heldRewriter = some fa_laws_heldRewriter := rfl
@[simp] theorem c_laws_heldRewriter (args : List PV) (σ : List AObj) : callM fns (ev fns) i_laws_heldRewriter args σ = callT fns [(.agg [.any, .any, (.lst 1 (.lst 3 .any)), (.lst 1 (.lst 1 (.lst 2 .any))), (.lst 1 (.lst 2 .any))]), .any] i_laws_heldRewriter args σ := callM_ty n_laws_heldRewriter rfl
theorem n_laws_FnExactComposeRewriters : fns i_laws_FnExactComposeRewriters = some fa_laws_FnExactComposeRewriters := rfl
@[simp] theorem c_laws_FnExactComposeRewriters (args : List PV) (σ : List AObj) : callM fns (ev fns) i_laws_FnExactComposeRewriters args σ = callN fns i_laws_FnExactComposeRewriters args σ := callM_np n_laws_FnExactComposeRewriters rfl rfl
@[simp] theorem nt_laws_szOutPush : fa_laws_szOutPush.nt = 13 := rfl
@[simp] theorem rs_laws_szOutPush : fa_laws_szOutPush.rs = [.tmp 4] := rfl
@[simp] theorem fz_laws_szOutPush : fa_laws_szOutPush.fz = true := rfl
@[simp] theorem rsh_laws_szOutPush : fa_laws_szOutPush.rsh = .any := rfl
theorem go_laws_szOutPush {args : List PV} {σ : List AObj} {r : PV × List AObj} (hl : args.length ≤ 13) (h : rE fns fa_laws_szOutPush σ.length [.code ac_laws_szOutPush] (frA 0 args) σ = some r) : ev fns i_laws_szOutPush args σ = some r := ev_go n_laws_szOutPush rfl hl h
@[simp] theorem nt_laws_szOutPushS : fa_laws_szOutPushS.nt = 27 := rfl
@[simp] theorem rs_laws_szOutPushS : fa_laws_szOutPushS.rs = [.tmp 4] := rfl
@[simp] theorem fz_laws_szOutPushS : fa_laws_szOutPushS.fz = true := rfl
@[simp] theorem rsh_laws_szOutPushS : fa_laws_szOutPushS.rsh = .any := rfl
theorem go_laws_szOutPushS {args : List PV} {σ : List AObj} {r : PV × List AObj} (hl : args.length ≤ 27) (h : rE fns fa_laws_szOutPushS σ.length [.code ac_laws_szOutPushS] (frA 0 args) σ = some r) : ev fns i_laws_szOutPushS args σ = some r := ev_go n_laws_szOutPushS rfl hl h
theorem l_laws_szOutPushS_0 {ks : List KI} {l : Fr} {σ : List AObj} {n0 : Nat} : rE fns fa_laws_szOutPushS n0 (.code lo_laws_szOutPushS_0 :: ks) l σ = rE fns fa_laws_szOutPushS n0 (.code lb_laws_szOutPushS_0 :: .code lo_laws_szOutPushS_0 :: ks) l σ := rE_loop
@[simp] theorem nt_laws_szOutPushSS : fa_laws_szOutPushSS.nt = 27 := rfl
@[simp] theorem rs_laws_szOutPushSS : fa_laws_szOutPushSS.rs = [.tmp 4] := rfl
@[simp] theorem fz_laws_szOutPushSS : fa_laws_szOutPushSS.fz = true := rfl
@[simp] theorem rsh_laws_szOutPushSS : fa_laws_szOutPushSS.rsh = .any := rfl
theorem go_laws_szOutPushSS {args : List PV} {σ : List AObj} {r : PV × List AObj} (hl : args.length ≤ 27) (h : rE fns fa_laws_szOutPushSS σ.length [.code ac_laws_szOutPushSS] (frA 0 args) σ = some r) : ev fns i_laws_szOutPushSS args σ = some r := ev_go n_laws_szOutPushSS rfl hl h
theorem l_laws_szOutPushSS_0 {ks : List KI} {l : Fr} {σ : List AObj} {n0 : Nat} : rE fns fa_laws_szOutPushSS n0 (.code lo_laws_szOutPushSS_0 :: ks) l σ = rE fns fa_laws_szOutPushSS n0 (.code lb_laws_szOutPushSS_0 :: .code lo_laws_szOutPushSS_0 :: ks) l σ := rE_loop
@[simp] theorem nt_laws_szOutMove : fa_laws_szOutMove.nt = 13 := rfl
@[simp] theorem rs_laws_szOutMove : fa_laws_szOutMove.rs = [.tmp 4] := rfl
@[simp] theorem fz_laws_szOutMove : fa_laws_szOutMove.fz = true := rfl
@[simp] theorem rsh_laws_szOutMove : fa_laws_szOutMove.rsh = .any := rfl
theorem go_laws_szOutMove {args : List PV} {σ : List AObj} {r : PV × List AObj} (hl : args.length ≤ 13) (h : rE fns fa_laws_szOutMove σ.length [.code ac_laws_szOutMove] (frA 0 args) σ = some r) : ev fns i_laws_szOutMove args σ = some r := ev_go n_laws_szOutMove rfl hl h
@[simp] theorem nt_laws_szOutMoveS : fa_laws_szOutMoveS.nt = 27 := rfl
@[simp] theorem rs_laws_szOutMoveS : fa_laws_szOutMoveS.rs = [.tmp 4] := rfl
@[simp] theorem fz_laws_szOutMoveS : fa_laws_szOutMoveS.fz = true := rfl
@[simp] theorem rsh_laws_szOutMoveS : fa_laws_szOutMoveS.rsh = .any := rfl
theorem go_laws_szOutMoveS {args : List PV} {σ : List AObj} {r : PV × List AObj} (hl : args.length ≤ 27) (h : rE fns fa_laws_szOutMoveS σ.length [.code ac_laws_szOutMoveS] (frA 0 args) σ = some r) : ev fns i_laws_szOutMoveS args σ = some r := ev_go n_laws_szOutMoveS rfl hl h
theorem l_laws_szOutMoveS_0 {ks : List KI} {l : Fr} {σ : List AObj} {n0 : Nat} : rE fns fa_laws_szOutMoveS n0 (.code lo_laws_szOutMoveS_0 :: ks) l σ = rE fns fa_laws_szOutMoveS n0 (.code lb_laws_szOutMoveS_0 :: .code lo_laws_szOutMoveS_0 :: ks) l σ := rE_loop
@[simp] theorem nt_laws_szOutMoveSS : fa_laws_szOutMoveSS.nt = 27 := rfl
@[simp] theorem rs_laws_szOutMoveSS : fa_laws_szOutMoveSS.rs = [.tmp 4] := rfl
@[simp] theorem fz_laws_szOutMoveSS : fa_laws_szOutMoveSS.fz = true := rfl
@[simp] theorem rsh_laws_szOutMoveSS : fa_laws_szOutMoveSS.rsh = .any := rfl
theorem go_laws_szOutMoveSS {args : List PV} {σ : List AObj} {r : PV × List AObj} (hl : args.length ≤ 27) (h : rE fns fa_laws_szOutMoveSS σ.length [.code ac_laws_szOutMoveSS] (frA 0 args) σ = some r) : ev fns i_laws_szOutMoveSS args σ = some r := ev_go n_laws_szOutMoveSS rfl hl h
theorem l_laws_szOutMoveSS_0 {ks : List KI} {l : Fr} {σ : List AObj} {n0 : Nat} : rE fns fa_laws_szOutMoveSS n0 (.code lo_laws_szOutMoveSS_0 :: ks) l σ = rE fns fa_laws_szOutMoveSS n0 (.code lb_laws_szOutMoveSS_0 :: .code lo_laws_szOutMoveSS_0 :: ks) l σ := rE_loop
@[simp] theorem nt_laws_szOutMoveSSS : fa_laws_szOutMoveSSS.nt = 27 := rfl
@[simp] theorem rs_laws_szOutMoveSSS : fa_laws_szOutMoveSSS.rs = [.tmp 4] := rfl
@[simp] theorem fz_laws_szOutMoveSSS : fa_laws_szOutMoveSSS.fz = true := rfl
@[simp] theorem rsh_laws_szOutMoveSSS : fa_laws_szOutMoveSSS.rsh = .any := rfl
theorem go_laws_szOutMoveSSS {args : List PV} {σ : List AObj} {r : PV × List AObj} (hl : args.length ≤ 27) (h : rE fns fa_laws_szOutMoveSSS σ.length [.code ac_laws_szOutMoveSSS] (frA 0 args) σ = some r) : ev fns i_laws_szOutMoveSSS args σ = some r := ev_go n_laws_szOutMoveSSS rfl hl h
theorem l_laws_szOutMoveSSS_0 {ks : List KI} {l : Fr} {σ : List AObj} {n0 : Nat} : rE fns fa_laws_szOutMoveSSS n0 (.code lo_laws_szOutMoveSSS_0 :: ks) l σ = rE fns fa_laws_szOutMoveSSS n0 (.code lb_laws_szOutMoveSSS_0 :: .code lo_laws_szOutMoveSSS_0 :: ks) l σ := rE_loop
@[simp] theorem nt_laws_szRewriter : fa_laws_szRewriter.nt = 24 := rfl
@[simp] theorem rs_laws_szRewriter : fa_laws_szRewriter.rs = [.tmp 4] := rfl
@[simp] theorem fz_laws_szRewriter : fa_laws_szRewriter.fz = true := rfl
@[simp] theorem rsh_laws_szRewriter : fa_laws_szRewriter.rsh = .any := rfl
theorem go_laws_szRewriter {args : List PV} {σ : List AObj} {r : PV × List AObj} (hl : args.length ≤ 24) (h : rE fns fa_laws_szRewriter σ.length [.code ac_laws_szRewriter] (frA 0 args) σ = some r) : ev fns i_laws_szRewriter args σ = some r := ev_go n_laws_szRewriter rfl hl h
@[simp] theorem nt_laws_toOutPush : fa_laws_toOutPush.nt = 14 := rfl
@[simp] theorem rs_laws_toOutPush : fa_laws_toOutPush.rs = [.cell 2 3 true] := rfl
@[simp] theorem fz_laws_toOutPush : fa_laws_toOutPush.fz = false := rfl
@[simp] theorem rsh_laws_toOutPush : fa_laws_toOutPush.rsh = .any := rfl
theorem go_laws_toOutPush {args : List PV} {σ : List AObj} {r : PV × List AObj} (hl : args.length ≤ 14) (h : rE fns fa_laws_toOutPush σ.length [.code ac_laws_toOutPush] (frA 0 args) σ = some r) : ev fns i_laws_toOutPush args σ = some r := ev_go n_laws_toOutPush rfl hl h
@[simp] theorem nt_laws_toOutPushS : fa_laws_toOutPushS.nt = 23 := rfl
@[simp] theorem rs_laws_toOutPushS : fa_laws_toOutPushS.rs = [.tmp 2] := rfl
@[simp] theorem fz_laws_toOutPushS : fa_laws_toOutPushS.fz = false := rfl
@[simp] theorem rsh_laws_toOutPushS : fa_laws_toOutPushS.rsh = .any := rfl
theorem go_laws_toOutPushS {args : List PV} {σ : List AObj} {r : PV × List AObj} (hl : args.length ≤ 23) (h : rE fns fa_laws_toOutPushS σ.length [.code ac_laws_toOutPushS] (frA 0 args) σ = some r) : ev fns i_laws_toOutPushS args σ = some r := ev_go n_laws_toOutPushS rfl hl h
theorem l_laws_toOutPushS_0 {ks : List KI} {l : Fr} {σ : List AObj} {n0 : Nat} : rE fns fa_laws_toOutPushS n0 (.code lo_laws_toOutPushS_0 :: ks) l σ = rE fns fa_laws_toOutPushS n0 (.code lb_laws_toOutPushS_0 :: .code lo_laws_toOutPushS_0 :: ks) l σ := rE_loop
@[simp] theorem nt_laws_toOutPushSS : fa_laws_toOutPushSS.nt = 23 := rfl
@[simp] theorem rs_laws_toOutPushSS : fa_laws_toOutPushSS.rs = [.tmp 2] := rfl
@[simp] theorem fz_laws_toOutPushSS : fa_laws_toOutPushSS.fz = false := rfl
@[simp] theorem rsh_laws_toOutPushSS : fa_laws_toOutPushSS.rsh = .any := rfl
theorem go_laws_toOutPushSS {args : List PV} {σ : List AObj} {r : PV × List AObj} (hl : args.length ≤ 23) (h : rE fns fa_laws_toOutPushSS σ.length [.code ac_laws_toOutPushSS] (frA 0 args) σ = some r) : ev fns i_laws_toOutPushSS args σ = some r := ev_go n_laws_toOutPushSS rfl hl h
theorem l_laws_toOutPushSS_0 {ks : List KI} {l : Fr} {σ : List AObj} {n0 : Nat} : rE fns fa_laws_toOutPushSS n0 (.code lo_laws_toOutPushSS_0 :: ks) l σ = rE fns fa_laws_toOutPushSS n0 (.code lb_laws_toOutPushSS_0 :: .code lo_laws_toOutPushSS_0 :: ks) l σ := rE_loop
@[simp] theorem nt_laws_toOutMove : fa_laws_toOutMove.nt = 11 := rfl
@[simp] theorem rs_laws_toOutMove : fa_laws_toOutMove.rs = [.cell 2 2 true] := rfl
@[simp] theorem fz_laws_toOutMove : fa_laws_toOutMove.fz = false := rfl
@[simp] theorem rsh_laws_toOutMove : fa_laws_toOutMove.rsh = .any := rfl
theorem go_laws_toOutMove {args : List PV} {σ : List AObj} {r : PV × List AObj} (hl : args.length ≤ 11) (h : rE fns fa_laws_toOutMove σ.length [.code ac_laws_toOutMove] (frA 0 args) σ = some r) : ev fns i_laws_toOutMove args σ = some r := ev_go n_laws_toOutMove rfl hl h
@[simp] theorem nt_laws_toOutMoveS : fa_laws_toOutMoveS.nt = 23 := rfl
@[simp] theorem rs_laws_toOutMoveS : fa_laws_toOutMoveS.rs = [.tmp 2] := rfl
@[simp] theorem fz_laws_toOutMoveS : fa_laws_toOutMoveS.fz = false := rfl
@[simp] theorem rsh_laws_toOutMoveS : fa_laws_toOutMoveS.rsh = .any := rfl
theorem go_laws_toOutMoveS {args : List PV} {σ : List AObj} {r : PV × List AObj} (hl : args.length ≤ 23) (h : rE fns fa_laws_toOutMoveS σ.length [.code ac_laws_toOutMoveS] (frA 0 args) σ = some r) : ev fns i_laws_toOutMoveS args σ = some r := ev_go n_laws_toOutMoveS rfl hl h
theorem l_laws_toOutMoveS_0 {ks : List KI} {l : Fr} {σ : List AObj} {n0 : Nat} : rE fns fa_laws_toOutMoveS n0 (.code lo_laws_toOutMoveS_0 :: ks) l σ = rE fns fa_laws_toOutMoveS n0 (.code lb_laws_toOutMoveS_0 :: .code lo_laws_toOutMoveS_0 :: ks) l σ := rE_loop
@[simp] theorem nt_laws_toOutMoveSS : fa_laws_toOutMoveSS.nt = 23 := rfl
@[simp] theorem rs_laws_toOutMoveSS : fa_laws_toOutMoveSS.rs = [.tmp 2] := rfl
@[simp] theorem fz_laws_toOutMoveSS : fa_laws_toOutMoveSS.fz = false := rfl
@[simp] theorem rsh_laws_toOutMoveSS : fa_laws_toOutMoveSS.rsh = .any := rfl
theorem go_laws_toOutMoveSS {args : List PV} {σ : List AObj} {r : PV × List AObj} (hl : args.length ≤ 23) (h : rE fns fa_laws_toOutMoveSS σ.length [.code ac_laws_toOutMoveSS] (frA 0 args) σ = some r) : ev fns i_laws_toOutMoveSS args σ = some r := ev_go n_laws_toOutMoveSS rfl hl h
theorem l_laws_toOutMoveSS_0 {ks : List KI} {l : Fr} {σ : List AObj} {n0 : Nat} : rE fns fa_laws_toOutMoveSS n0 (.code lo_laws_toOutMoveSS_0 :: ks) l σ = rE fns fa_laws_toOutMoveSS n0 (.code lb_laws_toOutMoveSS_0 :: .code lo_laws_toOutMoveSS_0 :: ks) l σ := rE_loop
@[simp] theorem nt_laws_toOutMoveSSS : fa_laws_toOutMoveSSS.nt = 23 := rfl
@[simp] theorem rs_laws_toOutMoveSSS : fa_laws_toOutMoveSSS.rs = [.tmp 2] := rfl
@[simp] theorem fz_laws_toOutMoveSSS : fa_laws_toOutMoveSSS.fz = false := rfl
@[simp] theorem rsh_laws_toOutMoveSSS : fa_laws_toOutMoveSSS.rsh = .any := rfl
theorem go_laws_toOutMoveSSS {args : List PV} {σ : List AObj} {r : PV × List AObj} (hl : args.length ≤ 23) (h : rE fns fa_laws_toOutMoveSSS σ.length [.code ac_laws_toOutMoveSSS] (frA 0 args) σ = some r) : ev fns i_laws_toOutMoveSSS args σ = some r := ev_go n_laws_toOutMoveSSS rfl hl h
theorem l_laws_toOutMoveSSS_0 {ks : List KI} {l : Fr} {σ : List AObj} {n0 : Nat} : rE fns fa_laws_toOutMoveSSS n0 (.code lo_laws_toOutMoveSSS_0 :: ks) l σ = rE fns fa_laws_toOutMoveSSS n0 (.code lb_laws_toOutMoveSSS_0 :: .code lo_laws_toOutMoveSSS_0 :: ks) l σ := rE_loop
@[simp] theorem nt_laws_toRewriter : fa_laws_toRewriter.nt = 23 := rfl
@[simp] theorem rs_laws_toRewriter : fa_laws_toRewriter.rs = [.cell 2 5 true] := rfl
@[simp] theorem fz_laws_toRewriter : fa_laws_toRewriter.fz = false := rfl
@[simp] theorem rsh_laws_toRewriter : fa_laws_toRewriter.rsh = .any := rfl
theorem go_laws_toRewriter {args : List PV} {σ : List AObj} {r : PV × List AObj} (hl : args.length ≤ 23) (h : rE fns fa_laws_toRewriter σ.length [.code ac_laws_toRewriter] (frA 0 args) σ = some r) : ev fns i_laws_toRewriter args σ = some r := ev_go n_laws_toRewriter rfl hl h
@[simp] theorem nt_laws_eqOutPush : fa_laws_eqOutPush.nt = 20 := rfl
@[simp] theorem rs_laws_eqOutPush : fa_laws_eqOutPush.rs = [.tmp 4] := rfl
@[simp] theorem fz_laws_eqOutPush : fa_laws_eqOutPush.fz = true := rfl
@[simp] theorem rsh_laws_eqOutPush : fa_laws_eqOutPush.rsh = .any := rfl
theorem go_laws_eqOutPush {args : List PV} {σ : List AObj} {r : PV × List AObj} (hl : args.length ≤ 20) (h : rE fns fa_laws_eqOutPush σ.length [.code ac_laws_eqOutPush] (frA 0 args) σ = some r) : ev fns i_laws_eqOutPush args σ = some r := ev_go n_laws_eqOutPush rfl hl h
@[simp] theorem nt_laws_eqOutPushS : fa_laws_eqOutPushS.nt = 27 := rfl
@[simp] theorem rs_laws_eqOutPushS : fa_laws_eqOutPushS.rs = [.tmp 4] := rfl
@[simp] theorem fz_laws_eqOutPushS : fa_laws_eqOutPushS.fz = true := rfl
@[simp] theorem rsh_laws_eqOutPushS : fa_laws_eqOutPushS.rsh = .any := rfl
theorem go_laws_eqOutPushS {args : List PV} {σ : List AObj} {r : PV × List AObj} (hl : args.length ≤ 27) (h : rE fns fa_laws_eqOutPushS σ.length [.code ac_laws_eqOutPushS] (frA 0 args) σ = some r) : ev fns i_laws_eqOutPushS args σ = some r := ev_go n_laws_eqOutPushS rfl hl h
theorem l_laws_eqOutPushS_0 {ks : List KI} {l : Fr} {σ : List AObj} {n0 : Nat} : rE fns fa_laws_eqOutPushS n0 (.code lo_laws_eqOutPushS_0 :: ks) l σ = rE fns fa_laws_eqOutPushS n0 (.code lb_laws_eqOutPushS_0 :: .code lo_laws_eqOutPushS_0 :: ks) l σ := rE_loop
@[simp] theorem nt_laws_eqOutPushSS : fa_laws_eqOutPushSS.nt = 27 := rfl
@[simp] theorem rs_laws_eqOutPushSS : fa_laws_eqOutPushSS.rs = [.tmp 4] := rfl
@[simp] theorem fz_laws_eqOutPushSS : fa_laws_eqOutPushSS.fz = true := rfl
@[simp] theorem rsh_laws_eqOutPushSS : fa_laws_eqOutPushSS.rsh = .any := rfl
theorem go_laws_eqOutPushSS {args : List PV} {σ : List AObj} {r : PV × List AObj} (hl : args.length ≤ 27) (h : rE fns fa_laws_eqOutPushSS σ.length [.code ac_laws_eqOutPushSS] (frA 0 args) σ = some r) : ev fns i_laws_eqOutPushSS args σ = some r := ev_go n_laws_eqOutPushSS rfl hl h
theorem l_laws_eqOutPushSS_0 {ks : List KI} {l : Fr} {σ : List AObj} {n0 : Nat} : rE fns fa_laws_eqOutPushSS n0 (.code lo_laws_eqOutPushSS_0 :: ks) l σ = rE fns fa_laws_eqOutPushSS n0 (.code lb_laws_eqOutPushSS_0 :: .code lo_laws_eqOutPushSS_0 :: ks) l σ := rE_loop
@[simp] theorem nt_laws_eqOutMove : fa_laws_eqOutMove.nt = 15 := rfl
@[simp] theorem rs_laws_eqOutMove : fa_laws_eqOutMove.rs = [.tmp 4] := rfl
@[simp] theorem fz_laws_eqOutMove : fa_laws_eqOutMove.fz = true := rfl
@[simp] theorem rsh_laws_eqOutMove : fa_laws_eqOutMove.rsh = .any := rfl
theorem go_laws_eqOutMove {args : List PV} {σ : List AObj} {r : PV × List AObj} (hl : args.length ≤ 15) (h : rE fns fa_laws_eqOutMove σ.length [.code ac_laws_eqOutMove] (frA 0 args) σ = some r) : ev fns i_laws_eqOutMove args σ = some r := ev_go n_laws_eqOutMove rfl hl h
@[simp] theorem nt_laws_eqOutMoveS : fa_laws_eqOutMoveS.nt = 27 := rfl
@[simp] theorem rs_laws_eqOutMoveS : fa_laws_eqOutMoveS.rs = [.tmp 4] := rfl
@[simp] theorem fz_laws_eqOutMoveS : fa_laws_eqOutMoveS.fz = true := rfl
@[simp] theorem rsh_laws_eqOutMoveS : fa_laws_eqOutMoveS.rsh = .any := rfl
theorem go_laws_eqOutMoveS {args : List PV} {σ : List AObj} {r : PV × List AObj} (hl : args.length ≤ 27) (h : rE fns fa_laws_eqOutMoveS σ.length [.code ac_laws_eqOutMoveS] (frA 0 args) σ = some r) : ev fns i_laws_eqOutMoveS args σ = some r := ev_go n_laws_eqOutMoveS rfl hl h
theorem l_laws_eqOutMoveS_0 {ks : List KI} {l : Fr} {σ : List AObj} {n0 : Nat} : rE fns fa_laws_eqOutMoveS n0 (.code lo_laws_eqOutMoveS_0 :: ks) l σ = rE fns fa_laws_eqOutMoveS n0 (.code lb_laws_eqOutMoveS_0 :: .code lo_laws_eqOutMoveS_0 :: ks) l σ := rE_loop
@[simp] theorem nt_laws_eqOutMoveSS : fa_laws_eqOutMoveSS.nt = 27 := rfl
@[simp] theorem rs_laws_eqOutMoveSS : fa_laws_eqOutMoveSS.rs = [.tmp 4] := rfl
@[simp] theorem fz_laws_eqOutMoveSS : fa_laws_eqOutMoveSS.fz = true := rfl
@[simp] theorem rsh_laws_eqOutMoveSS : fa_laws_eqOutMoveSS.rsh = .any := rfl
theorem go_laws_eqOutMoveSS {args : List PV} {σ : List AObj} {r : PV × List AObj} (hl : args.length ≤ 27) (h : rE fns fa_laws_eqOutMoveSS σ.length [.code ac_laws_eqOutMoveSS] (frA 0 args) σ = some r) : ev fns i_laws_eqOutMoveSS args σ = some r := ev_go n_laws_eqOutMoveSS rfl hl h
theorem l_laws_eqOutMoveSS_0 {ks : List KI} {l : Fr} {σ : List AObj} {n0 : Nat} : rE fns fa_laws_eqOutMoveSS n0 (.code lo_laws_eqOutMoveSS_0 :: ks) l σ = rE fns fa_laws_eqOutMoveSS n0 (.code lb_laws_eqOutMoveSS_0 :: .code lo_laws_eqOutMoveSS_0 :: ks) l σ := rE_loop
@[simp] theorem nt_laws_eqOutMoveSSS : fa_laws_eqOutMoveSSS.nt = 27 := rfl
@[simp] theorem rs_laws_eqOutMoveSSS : fa_laws_eqOutMoveSSS.rs = [.tmp 4] := rfl
@[simp] theorem fz_laws_eqOutMoveSSS : fa_laws_eqOutMoveSSS.fz = true := rfl
@[simp] theorem rsh_laws_eqOutMoveSSS : fa_laws_eqOutMoveSSS.rsh = .any := rfl
theorem go_laws_eqOutMoveSSS {args : List PV} {σ : List AObj} {r : PV × List AObj} (hl : args.length ≤ 27) (h : rE fns fa_laws_eqOutMoveSSS σ.length [.code ac_laws_eqOutMoveSSS] (frA 0 args) σ = some r) : ev fns i_laws_eqOutMoveSSS args σ = some r := ev_go n_laws_eqOutMoveSSS rfl hl h
theorem l_laws_eqOutMoveSSS_0 {ks : List KI} {l : Fr} {σ : List AObj} {n0 : Nat} : rE fns fa_laws_eqOutMoveSSS n0 (.code lo_laws_eqOutMoveSSS_0 :: ks) l σ = rE fns fa_laws_eqOutMoveSSS n0 (.code lb_laws_eqOutMoveSSS_0 :: .code lo_laws_eqOutMoveSSS_0 :: ks) l σ := rE_loop
@[simp] theorem nt_laws_eqRewriter : fa_laws_eqRewriter.nt = 33 := rfl
@[simp] theorem rs_laws_eqRewriter : fa_laws_eqRewriter.rs = [.tmp 4] := rfl
@[simp] theorem fz_laws_eqRewriter : fa_laws_eqRewriter.fz = true := rfl
@[simp] theorem rsh_laws_eqRewriter : fa_laws_eqRewriter.rsh = .any := rfl
theorem go_laws_eqRewriter {args : List PV} {σ : List AObj} {r : PV × List AObj} (hl : args.length ≤ 33) (h : rE fns fa_laws_eqRewriter σ.length [.code ac_laws_eqRewriter] (frA 0 args) σ = some r) : ev fns i_laws_eqRewriter args σ = some r := ev_go n_laws_eqRewriter rfl hl h
@[simp] theorem nt_laws_markText : fa_laws_markText.nt = 20 := rfl
@[simp] theorem rs_laws_markText : fa_laws_markText.rs = [.tmp 2] := rfl
@[simp] theorem fz_laws_markText : fa_laws_markText.fz = true := rfl
@[simp] theorem rsh_laws_markText : fa_laws_markText.rsh = .any := rfl
theorem go_laws_markText {args : List PV} {σ : List AObj} {r : PV × List AObj} (hl : args.length ≤ 20) (h : rE fns fa_laws_markText σ.length [.code ac_laws_markText] (frA 0 args) σ = some r) : ev fns i_laws_markText args σ = some r := ev_go n_laws_markText rfl hl h
theorem l_laws_markText_0 {ks : List KI} {l : Fr} {σ : List AObj} {n0 : Nat} : rE fns fa_laws_markText n0 (.code lo_laws_markText_0 :: ks) l σ = rE fns fa_laws_markText n0 (.code lb_laws_markText_0 :: .code lo_laws_markText_0 :: ks) l σ := rE_loop
@[simp] theorem nt_laws_markOutPushS : fa_laws_markOutPushS.nt = 35 := rfl
@[simp] theorem rs_laws_markOutPushS : fa_laws_markOutPushS.rs = [.tmp 4] := rfl
@[simp] theorem fz_laws_markOutPushS : fa_laws_markOutPushS.fz = false := rfl
@[simp] theorem rsh_laws_markOutPushS : fa_laws_markOutPushS.rsh = .any := rfl
theorem go_laws_markOutPushS {args : List PV} {σ : List AObj} {r : PV × List AObj} (hl : args.length ≤ 35) (h : rE fns fa_laws_markOutPushS σ.length [.code ac_laws_markOutPushS] (frA 0 args) σ = some r) : ev fns i_laws_markOutPushS args σ = some r := ev_go n_laws_markOutPushS rfl hl h
theorem l_laws_markOutPushS_0 {ks : List KI} {l : Fr} {σ : List AObj} {n0 : Nat} : rE fns fa_laws_markOutPushS n0 (.code lo_laws_markOutPushS_0 :: ks) l σ = rE fns fa_laws_markOutPushS n0 (.code lb_laws_markOutPushS_0 :: .code lo_laws_markOutPushS_0 :: ks) l σ := rE_loop
@[simp] theorem nt_laws_markOutPushSS : fa_laws_markOutPushSS.nt = 19 := rfl
@[simp] theorem rs_laws_markOutPushSS : fa_laws_markOutPushSS.rs = [.tmp 4] := rfl
@[simp] theorem fz_laws_markOutPushSS : fa_laws_markOutPushSS.fz = false := rfl
@[simp] theorem rsh_laws_markOutPushSS : fa_laws_markOutPushSS.rsh = .any := rfl
theorem go_laws_markOutPushSS {args : List PV} {σ : List AObj} {r : PV × List AObj} (hl : args.length ≤ 19) (h : rE fns fa_laws_markOutPushSS σ.length [.code ac_laws_markOutPushSS] (frA 0 args) σ = some r) : ev fns i_laws_markOutPushSS args σ = some r := ev_go n_laws_markOutPushSS rfl hl h
theorem l_laws_markOutPushSS_0 {ks : List KI} {l : Fr} {σ : List AObj} {n0 : Nat} : rE fns fa_laws_markOutPushSS n0 (.code lo_laws_markOutPushSS_0 :: ks) l σ = rE fns fa_laws_markOutPushSS n0 (.code lb_laws_markOutPushSS_0 :: .code lo_laws_markOutPushSS_0 :: ks) l σ := rE_loop
@[simp] theorem nt_laws_markOutMoveS : fa_laws_markOutMoveS.nt = 28 := rfl
@[simp] theorem rs_laws_markOutMoveS : fa_laws_markOutMoveS.rs = [.tmp 4] := rfl
@[simp] theorem fz_laws_markOutMoveS : fa_laws_markOutMoveS.fz = false := rfl
@[simp] theorem rsh_laws_markOutMoveS : fa_laws_markOutMoveS.rsh = .any := rfl
theorem go_laws_markOutMoveS {args : List PV} {σ : List AObj} {r : PV × List AObj} (hl : args.length ≤ 28) (h : rE fns fa_laws_markOutMoveS σ.length [.code ac_laws_markOutMoveS] (frA 0 args) σ = some r) : ev fns i_laws_markOutMoveS args σ = some r := ev_go n_laws_markOutMoveS rfl hl h
theorem l_laws_markOutMoveS_0 {ks : List KI} {l : Fr} {σ : List AObj} {n0 : Nat} : rE fns fa_laws_markOutMoveS n0 (.code lo_laws_markOutMoveS_0 :: ks) l σ = rE fns fa_laws_markOutMoveS n0 (.code lb_laws_markOutMoveS_0 :: .code lo_laws_markOutMoveS_0 :: ks) l σ := rE_loop
@[simp] theorem nt_laws_markOutMoveSS : fa_laws_markOutMoveSS.nt = 19 := rfl
@[simp] theorem rs_laws_markOutMoveSS : fa_laws_markOutMoveSS.rs = [.tmp 4] := rfl
@[simp] theorem fz_laws_markOutMoveSS : fa_laws_markOutMoveSS.fz = false := rfl
@[simp] theorem rsh_laws_markOutMoveSS : fa_laws_markOutMoveSS.rsh = .any := rfl
theorem go_laws_markOutMoveSS {args : List PV} {σ : List AObj} {r : PV × List AObj} (hl : args.length ≤ 19) (h : rE fns fa_laws_markOutMoveSS σ.length [.code ac_laws_markOutMoveSS] (frA 0 args) σ = some r) : ev fns i_laws_markOutMoveSS args σ = some r := ev_go n_laws_markOutMoveSS rfl hl h
theorem l_laws_markOutMoveSS_0 {ks : List KI} {l : Fr} {σ : List AObj} {n0 : Nat} : rE fns fa_laws_markOutMoveSS n0 (.code lo_laws_markOutMoveSS_0 :: ks) l σ = rE fns fa_laws_markOutMoveSS n0 (.code lb_laws_markOutMoveSS_0 :: .code lo_laws_markOutMoveSS_0 :: ks) l σ := rE_loop
@[simp] theorem nt_laws_markOutMoveSSS : fa_laws_markOutMoveSSS.nt = 19 := rfl
@[simp] theorem rs_laws_markOutMoveSSS : fa_laws_markOutMoveSSS.rs = [.tmp 4] := rfl
@[simp] theorem fz_laws_markOutMoveSSS : fa_laws_markOutMoveSSS.fz = false := rfl
@[simp] theorem rsh_laws_markOutMoveSSS : fa_laws_markOutMoveSSS.rsh = .any := rfl
theorem go_laws_markOutMoveSSS {args : List PV} {σ : List AObj} {r : PV × List AObj} (hl : args.length ≤ 19) (h : rE fns fa_laws_markOutMoveSSS σ.length [.code ac_laws_markOutMoveSSS] (frA 0 args) σ = some r) : ev fns i_laws_markOutMoveSSS args σ = some r := ev_go n_laws_markOutMoveSSS rfl hl h
theorem l_laws_markOutMoveSSS_0 {ks : List KI} {l : Fr} {σ : List AObj} {n0 : Nat} : rE fns fa_laws_markOutMoveSSS n0 (.code lo_laws_markOutMoveSSS_0 :: ks) l σ = rE fns fa_laws_markOutMoveSSS n0 (.code lb_laws_markOutMoveSSS_0 :: .code lo_laws_markOutMoveSSS_0 :: ks) l σ := rE_loop
@[simp] theorem nt_laws_markRewriter : fa_laws_markRewriter.nt = 18 := rfl
@[simp] theorem rs_laws_markRewriter : fa_laws_markRewriter.rs = [.tmp 4] := rfl
@[simp] theorem fz_laws_markRewriter : fa_laws_markRewriter.fz = false := rfl
@[simp] theorem rsh_laws_markRewriter : fa_laws_markRewriter.rsh = .any := rfl
theorem go_laws_markRewriter {args : List PV} {σ : List AObj} {r : PV × List AObj} (hl : args.length ≤ 18) (h : rE fns fa_laws_markRewriter σ.length [.code ac_laws_markRewriter] (frA 0 args) σ = some r) : ev fns i_laws_markRewriter args σ = some r := ev_go n_laws_markRewriter rfl hl h
@[simp] theorem nt_spec_l00In : fa_spec_l00In.nt = 15 := rfl
@[simp] theorem rs_spec_l00In : fa_spec_l00In.rs = [.tmp 6] := rfl
@[simp] theorem fz_spec_l00In : fa_spec_l00In.fz = true := rfl
@[simp] theorem rsh_spec_l00In : fa_spec_l00In.rsh = .any := rfl
theorem go_spec_l00In {args : List PV} {σ : List AObj} {r : PV × List AObj} (hl : args.length ≤ 15) (h : rE fns fa_spec_l00In σ.length [.code ac_spec_l00In] (frA 0 args) σ = some r) : ev fns i_spec_l00In args σ = some r := ev_go n_spec_l00In rfl hl h
@[simp] theorem nt_spec_l01Symbol : fa_spec_l01Symbol.nt = 13 := rfl
@[simp] theorem rs_spec_l01Symbol : fa_spec_l01Symbol.rs = [.tmp 2] := rfl
@[simp] theorem fz_spec_l01Symbol : fa_spec_l01Symbol.fz = true := rfl
@[simp] theorem rsh_spec_l01Symbol : fa_spec_l01Symbol.rsh = .any := rfl
theorem go_spec_l01Symbol {args : List PV} {σ : List AObj} {r : PV × List AObj} (hl : args.length ≤ 13) (h : rE fns fa_spec_l01Symbol σ.length [.code ac_spec_l01Symbol] (frA 0 args) σ = some r) : ev fns i_spec_l01Symbol args σ = some r := ev_go n_spec_l01Symbol rfl hl h
theorem l_spec_l01Symbol_0 {ks : List KI} {l : Fr} {σ : List AObj} {n0 : Nat} : rE fns fa_spec_l01Symbol n0 (.code lo_spec_l01Symbol_0 :: ks) l σ = rE fns fa_spec_l01Symbol n0 (.code lb_spec_l01Symbol_0 :: .code lo_spec_l01Symbol_0 :: ks) l σ := rE_loop
@[simp] theorem nt_spec_l01Ok : fa_spec_l01Ok.nt = 18 := rfl
@[simp] theorem rs_spec_l01Ok : fa_spec_l01Ok.rs = [.tmp 2] := rfl
@[simp] theorem fz_spec_l01Ok : fa_spec_l01Ok.fz = true := rfl
@[simp] theorem rsh_spec_l01Ok : fa_spec_l01Ok.rsh = .any := rfl
theorem go_spec_l01Ok {args : List PV} {σ : List AObj} {r : PV × List AObj} (hl : args.length ≤ 18) (h : rE fns fa_spec_l01Ok σ.length [.code ac_spec_l01Ok] (frA 0 args) σ = some r) : ev fns i_spec_l01Ok args σ = some r := ev_go n_spec_l01Ok rfl hl h
theorem l_spec_l01Ok_0 {ks : List KI} {l : Fr} {σ : List AObj} {n0 : Nat} : rE fns fa_spec_l01Ok n0 (.code lo_spec_l01Ok_0 :: ks) l σ = rE fns fa_spec_l01Ok n0 (.code lb_spec_l01Ok_0 :: .code lo_spec_l01Ok_0 :: ks) l σ := rE_loop
@[simp] theorem nt_spec_l06Out : fa_spec_l06Out.nt = 10 := rfl
@[simp] theorem rs_spec_l06Out : fa_spec_l06Out.rs = [.tmp 2] := rfl
@[simp] theorem fz_spec_l06Out : fa_spec_l06Out.fz = true := rfl
@[simp] theorem rsh_spec_l06Out : fa_spec_l06Out.rsh = .any := rfl
theorem go_spec_l06Out {args : List PV} {σ : List AObj} {r : PV × List AObj} (hl : args.length ≤ 10) (h : rE fns fa_spec_l06Out σ.length [.code ac_spec_l06Out] (frA 0 args) σ = some r) : ev fns i_spec_l06Out args σ = some r := ev_go n_spec_l06Out rfl hl h
@[simp] theorem nt_spec_l06Moves : fa_spec_l06Moves.nt = 36 := rfl
@[simp] theorem rs_spec_l06Moves : fa_spec_l06Moves.rs = [.tmp 6] := rfl
@[simp] theorem fz_spec_l06Moves : fa_spec_l06Moves.fz = true := rfl
@[simp] theorem rsh_spec_l06Moves : fa_spec_l06Moves.rsh = .any := rfl
theorem go_spec_l06Moves {args : List PV} {σ : List AObj} {r : PV × List AObj} (hl : args.length ≤ 36) (h : rE fns fa_spec_l06Moves σ.length [.code ac_spec_l06Moves] (frA 0 args) σ = some r) : ev fns i_spec_l06Moves args σ = some r := ev_go n_spec_l06Moves rfl hl h
theorem l_spec_l06Moves_0 {ks : List KI} {l : Fr} {σ : List AObj} {n0 : Nat} : rE fns fa_spec_l06Moves n0 (.code lo_spec_l06Moves_0 :: ks) l σ = rE fns fa_spec_l06Moves n0 (.code lb_spec_l06Moves_0 :: .code lo_spec_l06Moves_0 :: ks) l σ := rE_loop
@[simp] theorem nt_spec_l06Ok : fa_spec_l06Ok.nt = 145 := rfl
@[simp] theorem rs_spec_l06Ok : fa_spec_l06Ok.rs = [.tmp 2] := rfl
@[simp] theorem fz_spec_l06Ok : fa_spec_l06Ok.fz = true := rfl
@[simp] theorem rsh_spec_l06Ok : fa_spec_l06Ok.rsh = .any := rfl
theorem go_spec_l06Ok {args : List PV} {σ : List AObj} {r : PV × List AObj} (hl : args.length ≤ 145) (h : rE fns fa_spec_l06Ok σ.length [.code ac_spec_l06Ok] (frA 0 args) σ = some r) : ev fns i_spec_l06Ok args σ = some r := ev_go n_spec_l06Ok rfl hl h
theorem l_spec_l06Ok_0 {ks : List KI} {l : Fr} {σ : List AObj} {n0 : Nat} : rE fns fa_spec_l06Ok n0 (.code lo_spec_l06Ok_0 :: ks) l σ = rE fns fa_spec_l06Ok n0 (.code lb_spec_l06Ok_0 :: .code lo_spec_l06Ok_0 :: ks) l σ := rE_loop
theorem l_spec_l06Ok_1 {ks : List KI} {l : Fr} {σ : List AObj} {n0 : Nat} : rE fns fa_spec_l06Ok n0 (.code lo_spec_l06Ok_1 :: ks) l σ = rE fns fa_spec_l06Ok n0 (.code lb_spec_l06Ok_1 :: .code lo_spec_l06Ok_1 :: ks) l σ := rE_loop
@[simp] theorem nt_spec_l00Own : fa_spec_l00Own.nt = 6 := rfl
@[simp] theorem rs_spec_l00Own : fa_spec_l00Own.rs = [.tmp 2] := rfl
@[simp] theorem fz_spec_l00Own : fa_spec_l00Own.fz = false := rfl
@[simp] theorem rsh_spec_l00Own : fa_spec_l00Own.rsh = .any := rfl
theorem go_spec_l00Own {args : List PV} {σ : List AObj} {r : PV × List AObj} (hl : args.length ≤ 6) (h : rE fns fa_spec_l00Own σ.length [.code ac_spec_l00Own] (frA 0 args) σ = some r) : ev fns i_spec_l00Own args σ = some r := ev_go n_spec_l00Own rfl hl h
@[simp] theorem nt_spec_l01Return : fa_spec_l01Return.nt = 9 := rfl
@[simp] theorem rs_spec_l01Return : fa_spec_l01Return.rs = [.tmp 2] := rfl
@[simp] theorem fz_spec_l01Return : fa_spec_l01Return.fz = true := rfl
@[simp] theorem rsh_spec_l01Return : fa_spec_l01Return.rsh = .any := rfl
theorem go_spec_l01Return {args : List PV} {σ : List AObj} {r : PV × List AObj} (hl : args.length ≤ 9) (h : rE fns fa_spec_l01Return σ.length [.code ac_spec_l01Return] (frA 0 args) σ = some r) : ev fns i_spec_l01Return args σ = some r := ev_go n_spec_l01Return rfl hl h
@[simp] theorem nt_spec_l01Call : fa_spec_l01Call.nt = 9 := rfl
@[simp] theorem rs_spec_l01Call : fa_spec_l01Call.rs = [.tmp 2] := rfl
@[simp] theorem fz_spec_l01Call : fa_spec_l01Call.fz = true := rfl
@[simp] theorem rsh_spec_l01Call : fa_spec_l01Call.rsh = .any := rfl
theorem go_spec_l01Call {args : List PV} {σ : List AObj} {r : PV × List AObj} (hl : args.length ≤ 9) (h : rE fns fa_spec_l01Call σ.length [.code ac_spec_l01Call] (frA 0 args) σ = some r) : ev fns i_spec_l01Call args σ = some r := ev_go n_spec_l01Call rfl hl h
@[simp] theorem nt_P_spec_l06Run_read : fa_P_spec_l06Run_read.nt = 153 := rfl
@[simp] theorem rs_P_spec_l06Run_read : fa_P_spec_l06Run_read.rs = [] := rfl
@[simp] theorem fz_P_spec_l06Run_read : fa_P_spec_l06Run_read.fz = false := rfl
@[simp] theorem rsh_P_spec_l06Run_read : fa_P_spec_l06Run_read.rsh = .any := rfl
theorem go_P_spec_l06Run_read {args : List PV} {σ : List AObj} {r : PV × List AObj} (hl : args.length ≤ 153) (h : rE fns fa_P_spec_l06Run_read σ.length [.code ac_P_spec_l06Run_read] (frA 0 args) σ = some r) : ev fns i_P_spec_l06Run_read args σ = some r := ev_go n_P_spec_l06Run_read rfl hl h
@[simp] theorem nt_spec_l06Reads : fa_spec_l06Reads.nt = 29 := rfl
@[simp] theorem rs_spec_l06Reads : fa_spec_l06Reads.rs = [.tmp 8] := rfl
@[simp] theorem fz_spec_l06Reads : fa_spec_l06Reads.fz = false := rfl
@[simp] theorem rsh_spec_l06Reads : fa_spec_l06Reads.rsh = .any := rfl
theorem go_spec_l06Reads {args : List PV} {σ : List AObj} {r : PV × List AObj} (hl : args.length ≤ 29) (h : rE fns fa_spec_l06Reads σ.length [.code ac_spec_l06Reads] (frA 0 args) σ = some r) : ev fns i_spec_l06Reads args σ = some r := ev_go n_spec_l06Reads rfl hl h
theorem l_spec_l06Reads_0 {ks : List KI} {l : Fr} {σ : List AObj} {n0 : Nat} : rE fns fa_spec_l06Reads n0 (.code lo_spec_l06Reads_0 :: ks) l σ = rE fns fa_spec_l06Reads n0 (.code lb_spec_l06Reads_0 :: .code lo_spec_l06Reads_0 :: ks) l σ := rE_loop
@[simp] theorem nt_spec_l01Partners : fa_spec_l01Partners.nt = 68 := rfl
@[simp] theorem rs_spec_l01Partners : fa_spec_l01Partners.rs = [.tmp 2] := rfl
@[simp] theorem fz_spec_l01Partners : fa_spec_l01Partners.fz = true := rfl
@[simp] theorem rsh_spec_l01Partners : fa_spec_l01Partners.rsh = .any := rfl
theorem go_spec_l01Partners {args : List PV} {σ : List AObj} {r : PV × List AObj} (hl : args.length ≤ 68) (h : rE fns fa_spec_l01Partners σ.length [.code ac_spec_l01Partners] (frA 0 args) σ = some r) : ev fns i_spec_l01Partners args σ = some r := ev_go n_spec_l01Partners rfl hl h
theorem l_spec_l01Partners_0 {ks : List KI} {l : Fr} {σ : List AObj} {n0 : Nat} : rE fns fa_spec_l01Partners n0 (.code lo_spec_l01Partners_0 :: ks) l σ = rE fns fa_spec_l01Partners n0 (.code lb_spec_l01Partners_0 :: .code lo_spec_l01Partners_0 :: ks) l σ := rE_loop
@[simp] theorem nt_spec_l01Pending : fa_spec_l01Pending.nt = 44 := rfl
@[simp] theorem rs_spec_l01Pending : fa_spec_l01Pending.rs = [.tmp 2, .tmp 3] := rfl
@[simp] theorem fz_spec_l01Pending : fa_spec_l01Pending.fz = true := rfl
@[simp] theorem rsh_spec_l01Pending : fa_spec_l01Pending.rsh = .any := rfl
theorem go_spec_l01Pending {args : List PV} {σ : List AObj} {r : PV × List AObj} (hl : args.length ≤ 44) (h : rE fns fa_spec_l01Pending σ.length [.code ac_spec_l01Pending] (frA 0 args) σ = some r) : ev fns i_spec_l01Pending args σ = some r := ev_go n_spec_l01Pending rfl hl h
theorem l_spec_l01Pending_0 {ks : List KI} {l : Fr} {σ : List AObj} {n0 : Nat} : rE fns fa_spec_l01Pending n0 (.code lo_spec_l01Pending_0 :: ks) l σ = rE fns fa_spec_l01Pending n0 (.code lb_spec_l01Pending_0 :: .code lo_spec_l01Pending_0 :: ks) l σ := rE_loop
@[simp] theorem nt_spec_l06Has : fa_spec_l06Has.nt = 22 := rfl
@[simp] theorem rs_spec_l06Has : fa_spec_l06Has.rs = [.tmp 6] := rfl
@[simp] theorem fz_spec_l06Has : fa_spec_l06Has.fz = true := rfl
@[simp] theorem rsh_spec_l06Has : fa_spec_l06Has.rsh = .any := rfl
theorem go_spec_l06Has {args : List PV} {σ : List AObj} {r : PV × List AObj} (hl : args.length ≤ 22) (h : rE fns fa_spec_l06Has σ.length [.code ac_spec_l06Has] (frA 0 args) σ = some r) : ev fns i_spec_l06Has args σ = some r := ev_go n_spec_l06Has rfl hl h
@[simp] theorem nt_spec_l06Structural : fa_spec_l06Structural.nt = 78 := rfl
@[simp] theorem rs_spec_l06Structural : fa_spec_l06Structural.rs = [.tmp 2] := rfl
@[simp] theorem fz_spec_l06Structural : fa_spec_l06Structural.fz = true := rfl
@[simp] theorem rsh_spec_l06Structural : fa_spec_l06Structural.rsh = .any := rfl
theorem go_spec_l06Structural {args : List PV} {σ : List AObj} {r : PV × List AObj} (hl : args.length ≤ 78) (h : rE fns fa_spec_l06Structural σ.length [.code ac_spec_l06Structural] (frA 0 args) σ = some r) : ev fns i_spec_l06Structural args σ = some r := ev_go n_spec_l06Structural rfl hl h
theorem l_spec_l06Structural_0 {ks : List KI} {l : Fr} {σ : List AObj} {n0 : Nat} : rE fns fa_spec_l06Structural n0 (.code lo_spec_l06Structural_0 :: ks) l σ = rE fns fa_spec_l06Structural n0 (.code lb_spec_l06Structural_0 :: .code lo_spec_l06Structural_0 :: ks) l σ := rE_loop
theorem l_spec_l06Structural_1 {ks : List KI} {l : Fr} {σ : List AObj} {n0 : Nat} : rE fns fa_spec_l06Structural n0 (.code lo_spec_l06Structural_1 :: ks) l σ = rE fns fa_spec_l06Structural n0 (.code lb_spec_l06Structural_1 :: .code lo_spec_l06Structural_1 :: ks) l σ := rE_loop
theorem l_spec_l06Structural_2 {ks : List KI} {l : Fr} {σ : List AObj} {n0 : Nat} : rE fns fa_spec_l06Structural n0 (.code lo_spec_l06Structural_2 :: ks) l σ = rE fns fa_spec_l06Structural n0 (.code lb_spec_l06Structural_2 :: .code lo_spec_l06Structural_2 :: ks) l σ := rE_loop
@[simp] theorem nt_spec_ComposeRewriters : fa_spec_ComposeRewriters.nt = 229 := rfl
@[simp] theorem rs_spec_ComposeRewriters : fa_spec_ComposeRewriters.rs = [.cell 4 5 true, .tmp 5] := rfl
@[simp] theorem fz_spec_ComposeRewriters : fa_spec_ComposeRewriters.fz = true := rfl
@[simp] theorem rsh_spec_ComposeRewriters : fa_spec_ComposeRewriters.rsh = .any := rfl
theorem go_spec_ComposeRewriters {args : List PV} {σ : List AObj} {r : PV × List AObj} (hl : args.length ≤ 229) (h : rE fns fa_spec_ComposeRewriters σ.length [.code ac_spec_ComposeRewriters] (frA 0 args) σ = some r) : ev fns i_spec_ComposeRewriters args σ = some r := ev_go n_spec_ComposeRewriters rfl hl h
theorem l_spec_ComposeRewriters_0 {ks : List KI} {l : Fr} {σ : List AObj} {n0 : Nat} : rE fns fa_spec_ComposeRewriters n0 (.code lo_spec_ComposeRewriters_0 :: ks) l σ = rE fns fa_spec_ComposeRewriters n0 (.code lb_spec_ComposeRewriters_0 :: .code lo_spec_ComposeRewriters_0 :: ks) l σ := rE_loop
theorem l_spec_ComposeRewriters_1 {ks : List KI} {l : Fr} {σ : List AObj} {n0 : Nat} : rE fns fa_spec_ComposeRewriters n0 (.code lo_spec_ComposeRewriters_1 :: ks) l σ = rE fns fa_spec_ComposeRewriters n0 (.code lb_spec_ComposeRewriters_1 :: .code lo_spec_ComposeRewriters_1 :: ks) l σ := rE_loop
theorem l_spec_ComposeRewriters_2 {ks : List KI} {l : Fr} {σ : List AObj} {n0 : Nat} : rE fns fa_spec_ComposeRewriters n0 (.code lo_spec_ComposeRewriters_2 :: ks) l σ = rE fns fa_spec_ComposeRewriters n0 (.code lb_spec_ComposeRewriters_2 :: .code lo_spec_ComposeRewriters_2 :: ks) l σ := rE_loop
@[simp] theorem nt_impl_within : fa_impl_within.nt = 15 := rfl
@[simp] theorem rs_impl_within : fa_impl_within.rs = [.tmp 6] := rfl
@[simp] theorem fz_impl_within : fa_impl_within.fz = true := rfl
@[simp] theorem rsh_impl_within : fa_impl_within.rsh = .any := rfl
theorem go_impl_within {args : List PV} {σ : List AObj} {r : PV × List AObj} (hl : args.length ≤ 15) (h : rE fns fa_impl_within σ.length [.code ac_impl_within] (frA 0 args) σ = some r) : ev fns i_impl_within args σ = some r := ev_go n_impl_within rfl hl h
@[simp] theorem nt_impl_size_L_impl_OutPush : fa_impl_size_L_impl_OutPush.nt = 5 := rfl
@[simp] theorem rs_impl_size_L_impl_OutPush : fa_impl_size_L_impl_OutPush.rs = [.tmp 2] := rfl
@[simp] theorem fz_impl_size_L_impl_OutPush : fa_impl_size_L_impl_OutPush.fz = true := rfl
@[simp] theorem rsh_impl_size_L_impl_OutPush : fa_impl_size_L_impl_OutPush.rsh = .any := rfl
theorem go_impl_size_L_impl_OutPush {args : List PV} {σ : List AObj} {r : PV × List AObj} (hl : args.length ≤ 5) (h : rE fns fa_impl_size_L_impl_OutPush σ.length [.code ac_impl_size_L_impl_OutPush] (frA 0 args) σ = some r) : ev fns i_impl_size_L_impl_OutPush args σ = some r := ev_go n_impl_size_L_impl_OutPush rfl hl h
@[simp] theorem nt_internal_stringslite_IndexByte : fa_internal_stringslite_IndexByte.nt = 8 := rfl
@[simp] theorem rs_internal_stringslite_IndexByte : fa_internal_stringslite_IndexByte.rs = [.tmp 4] := rfl
@[simp] theorem fz_internal_stringslite_IndexByte : fa_internal_stringslite_IndexByte.fz = true := rfl
@[simp] theorem rsh_internal_stringslite_IndexByte : fa_internal_stringslite_IndexByte.rsh = .any := rfl
theorem go_internal_stringslite_IndexByte {args : List PV} {σ : List AObj} {r : PV × List AObj} (hl : args.length ≤ 8) (h : rE fns fa_internal_stringslite_IndexByte σ.length [.code ac_internal_stringslite_IndexByte] (frA 0 args) σ = some r) : ev fns i_internal_stringslite_IndexByte args σ = some r := ev_go n_internal_stringslite_IndexByte rfl hl h
@[simp] theorem nt_strings_IndexByte : fa_strings_IndexByte.nt = 8 := rfl
@[simp] theorem rs_strings_IndexByte : fa_strings_IndexByte.rs = [.tmp 4] := rfl
@[simp] theorem fz_strings_IndexByte : fa_strings_IndexByte.fz = true := rfl
@[simp] theorem rsh_strings_IndexByte : fa_strings_IndexByte.rsh = .any := rfl
theorem go_strings_IndexByte {args : List PV} {σ : List AObj} {r : PV × List AObj} (hl : args.length ≤ 8) (h : rE fns fa_strings_IndexByte σ.length [.code ac_strings_IndexByte] (frA 0 args) σ = some r) : ev fns i_strings_IndexByte args σ = some r := ev_go n_strings_IndexByte rfl hl h
@[simp] theorem nt_impl_ValidWord : fa_impl_ValidWord.nt = 18 := rfl
@[simp] theorem rs_impl_ValidWord : fa_impl_ValidWord.rs = [.tmp 2] := rfl
@[simp] theorem fz_impl_ValidWord : fa_impl_ValidWord.fz = true := rfl
@[simp] theorem rsh_impl_ValidWord : fa_impl_ValidWord.rsh = .any := rfl
theorem go_impl_ValidWord {args : List PV} {σ : List AObj} {r : PV × List AObj} (hl : args.length ≤ 18) (h : rE fns fa_impl_ValidWord σ.length [.code ac_impl_ValidWord] (frA 0 args) σ = some r) : ev fns i_impl_ValidWord args σ = some r := ev_go n_impl_ValidWord rfl hl h
theorem l_impl_ValidWord_0 {ks : List KI} {l : Fr} {σ : List AObj} {n0 : Nat} : rE fns fa_impl_ValidWord n0 (.code lo_impl_ValidWord_0 :: ks) l σ = rE fns fa_impl_ValidWord n0 (.code lb_impl_ValidWord_0 :: .code lo_impl_ValidWord_0 :: ks) l σ := rE_loop
@[simp] theorem nt_impl_isOut : fa_impl_isOut.nt = 10 := rfl
@[simp] theorem rs_impl_isOut : fa_impl_isOut.rs = [.tmp 2] := rfl
@[simp] theorem fz_impl_isOut : fa_impl_isOut.fz = true := rfl
@[simp] theorem rsh_impl_isOut : fa_impl_isOut.rsh = .any := rfl
theorem go_impl_isOut {args : List PV} {σ : List AObj} {r : PV × List AObj} (hl : args.length ≤ 10) (h : rE fns fa_impl_isOut σ.length [.code ac_impl_isOut] (frA 0 args) σ = some r) : ev fns i_impl_isOut args σ = some r := ev_go n_impl_isOut rfl hl h
@[simp] theorem nt_impl_ValidRewriter_1 : fa_impl_ValidRewriter_1.nt = 14 := rfl
@[simp] theorem rs_impl_ValidRewriter_1 : fa_impl_ValidRewriter_1.rs = [.tmp 3] := rfl
@[simp] theorem fz_impl_ValidRewriter_1 : fa_impl_ValidRewriter_1.fz = true := rfl
@[simp] theorem rsh_impl_ValidRewriter_1 : fa_impl_ValidRewriter_1.rsh = .any := rfl
theorem go_impl_ValidRewriter_1 {args : List PV} {σ : List AObj} {r : PV × List AObj} (hl : args.length ≤ 14) (h : rE fns fa_impl_ValidRewriter_1 σ.length [.code ac_impl_ValidRewriter_1] (frA 0 args) σ = some r) : ev fns i_impl_ValidRewriter_1 args σ = some r := ev_go n_impl_ValidRewriter_1 rfl hl h
@[simp] theorem nt_impl_size_impl_OutMove : fa_impl_size_impl_OutMove.nt = 5 := rfl
@[simp] theorem rs_impl_size_impl_OutMove : fa_impl_size_impl_OutMove.rs = [.tmp 2] := rfl
@[simp] theorem fz_impl_size_impl_OutMove : fa_impl_size_impl_OutMove.fz = true := rfl
@[simp] theorem rsh_impl_size_impl_OutMove : fa_impl_size_impl_OutMove.rsh = .any := rfl
theorem go_impl_size_impl_OutMove {args : List PV} {σ : List AObj} {r : PV × List AObj} (hl : args.length ≤ 5) (h : rE fns fa_impl_size_impl_OutMove σ.length [.code ac_impl_size_impl_OutMove] (frA 0 args) σ = some r) : ev fns i_impl_size_impl_OutMove args σ = some r := ev_go n_impl_size_impl_OutMove rfl hl h
@[simp] theorem nt_slices_IndexFunc_L_impl_OutMove : fa_slices_IndexFunc_L_impl_OutMove.nt = 19 := rfl
@[simp] theorem rs_slices_IndexFunc_L_impl_OutMove : fa_slices_IndexFunc_L_impl_OutMove.rs = [.tmp 4] := rfl
@[simp] theorem fz_slices_IndexFunc_L_impl_OutMove : fa_slices_IndexFunc_L_impl_OutMove.fz = true := rfl
@[simp] theorem rsh_slices_IndexFunc_L_impl_OutMove : fa_slices_IndexFunc_L_impl_OutMove.rsh = .any := rfl
theorem go_slices_IndexFunc_L_impl_OutMove {args : List PV} {σ : List AObj} {r : PV × List AObj} (hl : args.length ≤ 19) (h : rE fns fa_slices_IndexFunc_L_impl_OutMove σ.length [.code ac_slices_IndexFunc_L_impl_OutMove] (frA 0 args) σ = some r) : ev fns i_slices_IndexFunc_L_impl_OutMove args σ = some r := ev_go n_slices_IndexFunc_L_impl_OutMove rfl hl h
theorem l_slices_IndexFunc_L_impl_OutMove_0 {ks : List KI} {l : Fr} {σ : List AObj} {n0 : Nat} : rE fns fa_slices_IndexFunc_L_impl_OutMove n0 (.code lo_slices_IndexFunc_L_impl_OutMove_0 :: ks) l σ = rE fns fa_slices_IndexFunc_L_impl_OutMove n0 (.code lb_slices_IndexFunc_L_impl_OutMove_0 :: .code lo_slices_IndexFunc_L_impl_OutMove_0 :: ks) l σ := rE_loop
@[simp] theorem nt_slices_ContainsFunc_L_impl_OutMove : fa_slices_ContainsFunc_L_impl_OutMove.nt = 9 := rfl
@[simp] theorem rs_slices_ContainsFunc_L_impl_OutMove : fa_slices_ContainsFunc_L_impl_OutMove.rs = [.tmp 4] := rfl
@[simp] theorem fz_slices_ContainsFunc_L_impl_OutMove : fa_slices_ContainsFunc_L_impl_OutMove.fz = true := rfl
@[simp] theorem rsh_slices_ContainsFunc_L_impl_OutMove : fa_slices_ContainsFunc_L_impl_OutMove.rsh = .any := rfl
theorem go_slices_ContainsFunc_L_impl_OutMove {args : List PV} {σ : List AObj} {r : PV × List AObj} (hl : args.length ≤ 9) (h : rE fns fa_slices_ContainsFunc_L_impl_OutMove σ.length [.code ac_slices_ContainsFunc_L_impl_OutMove] (frA 0 args) σ = some r) : ev fns i_slices_ContainsFunc_L_impl_OutMove args σ = some r := ev_go n_slices_ContainsFunc_L_impl_OutMove rfl hl h
@[simp] theorem nt_impl_ValidRewriter_2_1 : fa_impl_ValidRewriter_2_1.nt = 8 := rfl
@[simp] theorem rs_impl_ValidRewriter_2_1 : fa_impl_ValidRewriter_2_1.rs = [.tmp 3] := rfl
@[simp] theorem fz_impl_ValidRewriter_2_1 : fa_impl_ValidRewriter_2_1.fz = true := rfl
@[simp] theorem rsh_impl_ValidRewriter_2_1 : fa_impl_ValidRewriter_2_1.rsh = .any := rfl
theorem go_impl_ValidRewriter_2_1 {args : List PV} {σ : List AObj} {r : PV × List AObj} (hl : args.length ≤ 8) (h : rE fns fa_impl_ValidRewriter_2_1 σ.length [.code ac_impl_ValidRewriter_2_1] (frA 0 args) σ = some r) : ev fns i_impl_ValidRewriter_2_1 args σ = some r := ev_go n_impl_ValidRewriter_2_1 rfl hl h
@[simp] theorem nt_impl_ValidRewriter_2 : fa_impl_ValidRewriter_2.nt = 16 := rfl
@[simp] theorem rs_impl_ValidRewriter_2 : fa_impl_ValidRewriter_2.rs = [.tmp 5] := rfl
@[simp] theorem fz_impl_ValidRewriter_2 : fa_impl_ValidRewriter_2.fz = true := rfl
@[simp] theorem rsh_impl_ValidRewriter_2 : fa_impl_ValidRewriter_2.rsh = .any := rfl
theorem go_impl_ValidRewriter_2 {args : List PV} {σ : List AObj} {r : PV × List AObj} (hl : args.length ≤ 16) (h : rE fns fa_impl_ValidRewriter_2 σ.length [.code ac_impl_ValidRewriter_2] (frA 0 args) σ = some r) : ev fns i_impl_ValidRewriter_2 args σ = some r := ev_go n_impl_ValidRewriter_2 rfl hl h
@[simp] theorem nt_impl_size_L_L_impl_OutMove : fa_impl_size_L_L_impl_OutMove.nt = 5 := rfl
@[simp] theorem rs_impl_size_L_L_impl_OutMove : fa_impl_size_L_L_impl_OutMove.rs = [.tmp 2] := rfl
@[simp] theorem fz_impl_size_L_L_impl_OutMove : fa_impl_size_L_L_impl_OutMove.fz = true := rfl
@[simp] theorem rsh_impl_size_L_L_impl_OutMove : fa_impl_size_L_L_impl_OutMove.rsh = .any := rfl
theorem go_impl_size_L_L_impl_OutMove {args : List PV} {σ : List AObj} {r : PV × List AObj} (hl : args.length ≤ 5) (h : rE fns fa_impl_size_L_L_impl_OutMove σ.length [.code ac_impl_size_L_L_impl_OutMove] (frA 0 args) σ = some r) : ev fns i_impl_size_L_L_impl_OutMove args σ = some r := ev_go n_impl_size_L_L_impl_OutMove rfl hl h
@[simp] theorem nt_impl_size_L_impl_OutMove : fa_impl_size_L_impl_OutMove.nt = 5 := rfl
@[simp] theorem rs_impl_size_L_impl_OutMove : fa_impl_size_L_impl_OutMove.rs = [.tmp 2] := rfl
@[simp] theorem fz_impl_size_L_impl_OutMove : fa_impl_size_L_impl_OutMove.fz = true := rfl
@[simp] theorem rsh_impl_size_L_impl_OutMove : fa_impl_size_L_impl_OutMove.rsh = .any := rfl
theorem go_impl_size_L_impl_OutMove {args : List PV} {σ : List AObj} {r : PV × List AObj} (hl : args.length ≤ 5) (h : rE fns fa_impl_size_L_impl_OutMove σ.length [.code ac_impl_size_L_impl_OutMove] (frA 0 args) σ = some r) : ev fns i_impl_size_L_impl_OutMove args σ = some r := ev_go n_impl_size_L_impl_OutMove rfl hl h
@[simp] theorem nt_impl_ValidRewriter : fa_impl_ValidRewriter.nt = 121 := rfl
@[simp] theorem rs_impl_ValidRewriter : fa_impl_ValidRewriter.rs = [.tmp 2] := rfl
@[simp] theorem fz_impl_ValidRewriter : fa_impl_ValidRewriter.fz = true := rfl
@[simp] theorem rsh_impl_ValidRewriter : fa_impl_ValidRewriter.rsh = .any := rfl
theorem go_impl_ValidRewriter {args : List PV} {σ : List AObj} {r : PV × List AObj} (hl : args.length ≤ 121) (h : rE fns fa_impl_ValidRewriter σ.length [.code ac_impl_ValidRewriter] (frA 0 args) σ = some r) : ev fns i_impl_ValidRewriter args σ = some r := ev_go n_impl_ValidRewriter rfl hl h
theorem l_impl_ValidRewriter_0 {ks : List KI} {l : Fr} {σ : List AObj} {n0 : Nat} : rE fns fa_impl_ValidRewriter n0 (.code lo_impl_ValidRewriter_0 :: ks) l σ = rE fns fa_impl_ValidRewriter n0 (.code lb_impl_ValidRewriter_0 :: .code lo_impl_ValidRewriter_0 :: ks) l σ := rE_loop
theorem l_impl_ValidRewriter_1 {ks : List KI} {l : Fr} {σ : List AObj} {n0 : Nat} : rE fns fa_impl_ValidRewriter n0 (.code lo_impl_ValidRewriter_1 :: ks) l σ = rE fns fa_impl_ValidRewriter n0 (.code lb_impl_ValidRewriter_1 :: .code lo_impl_ValidRewriter_1 :: ks) l σ := rE_loop
@[simp] theorem nt_impl_size_int64 : fa_impl_size_int64.nt = 5 := rfl
@[simp] theorem rs_impl_size_int64 : fa_impl_size_int64.rs = [.tmp 2] := rfl
@[simp] theorem fz_impl_size_int64 : fa_impl_size_int64.fz = true := rfl
@[simp] theorem rsh_impl_size_int64 : fa_impl_size_int64.rsh = .any := rfl
theorem go_impl_size_int64 {args : List PV} {σ : List AObj} {r : PV × List AObj} (hl : args.length ≤ 5) (h : rE fns fa_impl_size_int64 σ.length [.code ac_impl_size_int64] (frA 0 args) σ = some r) : ev fns i_impl_size_int64 args σ = some r := ev_go n_impl_size_int64 rfl hl h
@[simp] theorem nt_impl_isReturn : fa_impl_isReturn.nt = 9 := rfl
@[simp] theorem rs_impl_isReturn : fa_impl_isReturn.rs = [.tmp 2] := rfl
@[simp] theorem fz_impl_isReturn : fa_impl_isReturn.fz = true := rfl
@[simp] theorem rsh_impl_isReturn : fa_impl_isReturn.rsh = .any := rfl
theorem go_impl_isReturn {args : List PV} {σ : List AObj} {r : PV × List AObj} (hl : args.length ≤ 9) (h : rE fns fa_impl_isReturn σ.length [.code ac_impl_isReturn] (frA 0 args) σ = some r) : ev fns i_impl_isReturn args σ = some r := ev_go n_impl_isReturn rfl hl h
@[simp] theorem nt_impl_isCall : fa_impl_isCall.nt = 9 := rfl
@[simp] theorem rs_impl_isCall : fa_impl_isCall.rs = [.tmp 2] := rfl
@[simp] theorem fz_impl_isCall : fa_impl_isCall.fz = true := rfl
@[simp] theorem rsh_impl_isCall : fa_impl_isCall.rsh = .any := rfl
theorem go_impl_isCall {args : List PV} {σ : List AObj} {r : PV × List AObj} (hl : args.length ≤ 9) (h : rE fns fa_impl_isCall σ.length [.code ac_impl_isCall] (frA 0 args) σ = some r) : ev fns i_impl_isCall args σ = some r := ev_go n_impl_isCall rfl hl h
@[simp] theorem nt_impl_match : fa_impl_match.nt = 101 := rfl
@[simp] theorem rs_impl_match : fa_impl_match.rs = [.cell 2 5 true] := rfl
@[simp] theorem fz_impl_match : fa_impl_match.fz = true := rfl
@[simp] theorem rsh_impl_match : fa_impl_match.rsh = .any := rfl
theorem go_impl_match {args : List PV} {σ : List AObj} {r : PV × List AObj} (hl : args.length ≤ 101) (h : rE fns fa_impl_match σ.length [.code ac_impl_match] (frA 0 args) σ = some r) : ev fns i_impl_match args σ = some r := ev_go n_impl_match rfl hl h
theorem l_impl_match_0 {ks : List KI} {l : Fr} {σ : List AObj} {n0 : Nat} : rE fns fa_impl_match n0 (.code lo_impl_match_0 :: ks) l σ = rE fns fa_impl_match n0 (.code lb_impl_match_0 :: .code lo_impl_match_0 :: ks) l σ := rE_loop
@[simp] theorem nt_impl_isPending : fa_impl_isPending.nt = 22 := rfl
@[simp] theorem rs_impl_isPending : fa_impl_isPending.rs = [.tmp 6] := rfl
@[simp] theorem fz_impl_isPending : fa_impl_isPending.fz = true := rfl
@[simp] theorem rsh_impl_isPending : fa_impl_isPending.rsh = .any := rfl
theorem go_impl_isPending {args : List PV} {σ : List AObj} {r : PV × List AObj} (hl : args.length ≤ 22) (h : rE fns fa_impl_isPending σ.length [.code ac_impl_isPending] (frA 0 args) σ = some r) : ev fns i_impl_isPending args σ = some r := ev_go n_impl_isPending rfl hl h
@[simp] theorem nt_impl_Rewriter_isStructural_1 : fa_impl_Rewriter_isStructural_1.nt = 7 := rfl
@[simp] theorem rs_impl_Rewriter_isStructural_1 : fa_impl_Rewriter_isStructural_1.rs = [.tmp 2] := rfl
@[simp] theorem fz_impl_Rewriter_isStructural_1 : fa_impl_Rewriter_isStructural_1.fz = true := rfl
@[simp] theorem rsh_impl_Rewriter_isStructural_1 : fa_impl_Rewriter_isStructural_1.rsh = .any := rfl
theorem go_impl_Rewriter_isStructural_1 {args : List PV} {σ : List AObj} {r : PV × List AObj} (hl : args.length ≤ 7) (h : rE fns fa_impl_Rewriter_isStructural_1 σ.length [.code ac_impl_Rewriter_isStructural_1] (frA 0 args) σ = some r) : ev fns i_impl_Rewriter_isStructural_1 args σ = some r := ev_go n_impl_Rewriter_isStructural_1 rfl hl h
@[simp] theorem nt_impl_Rewriter_isStructural : fa_impl_Rewriter_isStructural.nt = 51 := rfl
@[simp] theorem rs_impl_Rewriter_isStructural : fa_impl_Rewriter_isStructural.rs = [.tmp 2] := rfl
@[simp] theorem fz_impl_Rewriter_isStructural : fa_impl_Rewriter_isStructural.fz = true := rfl
@[simp] theorem rsh_impl_Rewriter_isStructural : fa_impl_Rewriter_isStructural.rsh = .any := rfl
theorem go_impl_Rewriter_isStructural {args : List PV} {σ : List AObj} {r : PV × List AObj} (hl : args.length ≤ 51) (h : rE fns fa_impl_Rewriter_isStructural σ.length [.code ac_impl_Rewriter_isStructural] (frA 0 args) σ = some r) : ev fns i_impl_Rewriter_isStructural args σ = some r := ev_go n_impl_Rewriter_isStructural rfl hl h
theorem l_impl_Rewriter_isStructural_0 {ks : List KI} {l : Fr} {σ : List AObj} {n0 : Nat} : rE fns fa_impl_Rewriter_isStructural n0 (.code lo_impl_Rewriter_isStructural_0 :: ks) l σ = rE fns fa_impl_Rewriter_isStructural n0 (.code lb_impl_Rewriter_isStructural_0 :: .code lo_impl_Rewriter_isStructural_0 :: ks) l σ := rE_loop
theorem l_impl_Rewriter_isStructural_1 {ks : List KI} {l : Fr} {σ : List AObj} {n0 : Nat} : rE fns fa_impl_Rewriter_isStructural n0 (.code lo_impl_Rewriter_isStructural_1 :: ks) l σ = rE fns fa_impl_Rewriter_isStructural n0 (.code lb_impl_Rewriter_isStructural_1 :: .code lo_impl_Rewriter_isStructural_1 :: ks) l σ := rE_loop
@[simp] theorem nt_impl_builtRewriter : fa_impl_builtRewriter.nt = 88 := rfl
@[simp] theorem rs_impl_builtRewriter : fa_impl_builtRewriter.rs = [.cell 12 5 true] := rfl
@[simp] theorem fz_impl_builtRewriter : fa_impl_builtRewriter.fz = false := rfl
@[simp] theorem rsh_impl_builtRewriter : fa_impl_builtRewriter.rsh = .any := rfl
theorem go_impl_builtRewriter {args : List PV} {σ : List AObj} {r : PV × List AObj} (hl : args.length ≤ 88) (h : rE fns fa_impl_builtRewriter σ.length [.code ac_impl_builtRewriter] (frA 0 args) σ = some r) : ev fns i_impl_builtRewriter args σ = some r := ev_go n_impl_builtRewriter rfl hl h
theorem l_impl_builtRewriter_0 {ks : List KI} {l : Fr} {σ : List AObj} {n0 : Nat} : rE fns fa_impl_builtRewriter n0 (.code lo_impl_builtRewriter_0 :: ks) l σ = rE fns fa_impl_builtRewriter n0 (.code lb_impl_builtRewriter_0 :: .code lo_impl_builtRewriter_0 :: ks) l σ := rE_loop
theorem l_impl_builtRewriter_1 {ks : List KI} {l : Fr} {σ : List AObj} {n0 : Nat} : rE fns fa_impl_builtRewriter n0 (.code lo_impl_builtRewriter_1 :: ks) l σ = rE fns fa_impl_builtRewriter n0 (.code lb_impl_builtRewriter_1 :: .code lo_impl_builtRewriter_1 :: ks) l σ := rE_loop
theorem l_impl_builtRewriter_2 {ks : List KI} {l : Fr} {σ : List AObj} {n0 : Nat} : rE fns fa_impl_builtRewriter n0 (.code lo_impl_builtRewriter_2 :: ks) l σ = rE fns fa_impl_builtRewriter n0 (.code lb_impl_builtRewriter_2 :: .code lo_impl_builtRewriter_2 :: ks) l σ := rE_loop
@[simp] theorem nt_impl_kindOf : fa_impl_kindOf.nt = 6 := rfl
@[simp] theorem rs_impl_kindOf : fa_impl_kindOf.rs = [.tmp 2] := rfl
@[simp] theorem fz_impl_kindOf : fa_impl_kindOf.fz = true := rfl
@[simp] theorem rsh_impl_kindOf : fa_impl_kindOf.rsh = .any := rfl
theorem go_impl_kindOf {args : List PV} {σ : List AObj} {r : PV × List AObj} (hl : args.length ≤ 6) (h : rE fns fa_impl_kindOf σ.length [.code ac_impl_kindOf] (frA 0 args) σ = some r) : ev fns i_impl_kindOf args σ = some r := ev_go n_impl_kindOf rfl hl h
@[simp] theorem nt_impl_isInner : fa_impl_isInner.nt = 9 := rfl
@[simp] theorem rs_impl_isInner : fa_impl_isInner.rs = [.tmp 2] := rfl
@[simp] theorem fz_impl_isInner : fa_impl_isInner.fz = true := rfl
@[simp] theorem rsh_impl_isInner : fa_impl_isInner.rsh = .any := rfl
theorem go_impl_isInner {args : List PV} {σ : List AObj} {r : PV × List AObj} (hl : args.length ≤ 9) (h : rE fns fa_impl_isInner σ.length [.code ac_impl_isInner] (frA 0 args) σ = some r) : ev fns i_impl_isInner args σ = some r := ev_go n_impl_isInner rfl hl h
@[simp] theorem nt_P_strings_Builder_copyCheck : fa_P_strings_Builder_copyCheck.nt = 20 := rfl
@[simp] theorem rs_P_strings_Builder_copyCheck : fa_P_strings_Builder_copyCheck.rs = [] := rfl
@[simp] theorem fz_P_strings_Builder_copyCheck : fa_P_strings_Builder_copyCheck.fz = false := rfl
@[simp] theorem rsh_P_strings_Builder_copyCheck : fa_P_strings_Builder_copyCheck.rsh = .any := rfl
theorem go_P_strings_Builder_copyCheck {args : List PV} {σ : List AObj} {r : PV × List AObj} (hl : args.length ≤ 20) (h : rE fns fa_P_strings_Builder_copyCheck σ.length [.code ac_P_strings_Builder_copyCheck] (frA 0 args) σ = some r) : ev fns i_P_strings_Builder_copyCheck args σ = some r := ev_go n_P_strings_Builder_copyCheck rfl hl h
@[simp] theorem nt_P_strings_Builder_WriteString : fa_P_strings_Builder_WriteString.nt = 19 := rfl
@[simp] theorem rs_P_strings_Builder_WriteString : fa_P_strings_Builder_WriteString.rs = [.tmp 4, .tmp 5] := rfl
@[simp] theorem fz_P_strings_Builder_WriteString : fa_P_strings_Builder_WriteString.fz = false := rfl
@[simp] theorem rsh_P_strings_Builder_WriteString : fa_P_strings_Builder_WriteString.rsh = .any := rfl
theorem go_P_strings_Builder_WriteString {args : List PV} {σ : List AObj} {r : PV × List AObj} (hl : args.length ≤ 19) (h : rE fns fa_P_strings_Builder_WriteString σ.length [.code ac_P_strings_Builder_WriteString] (frA 0 args) σ = some r) : ev fns i_P_strings_Builder_WriteString args σ = some r := ev_go n_P_strings_Builder_WriteString rfl hl h
@[simp] theorem nt_P_strings_Builder_String : fa_P_strings_Builder_String.nt = 14 := rfl
@[simp] theorem rs_P_strings_Builder_String : fa_P_strings_Builder_String.rs = [.tmp 2] := rfl
@[simp] theorem fz_P_strings_Builder_String : fa_P_strings_Builder_String.fz = false := rfl
@[simp] theorem rsh_P_strings_Builder_String : fa_P_strings_Builder_String.rsh = .any := rfl
theorem go_P_strings_Builder_String {args : List PV} {σ : List AObj} {r : PV × List AObj} (hl : args.length ≤ 14) (h : rE fns fa_P_strings_Builder_String σ.length [.code ac_P_strings_Builder_String] (frA 0 args) σ = some r) : ev fns i_P_strings_Builder_String args σ = some r := ev_go n_P_strings_Builder_String rfl hl h
@[simp] theorem nt_impl_Rewriter_rewrite : fa_impl_Rewriter_rewrite.nt = 102 := rfl
@[simp] theorem rs_impl_Rewriter_rewrite : fa_impl_Rewriter_rewrite.rs = [.tmp 8, .tmp 9, .tmp 10] := rfl
@[simp] theorem fz_impl_Rewriter_rewrite : fa_impl_Rewriter_rewrite.fz = false := rfl
@[simp] theorem rsh_impl_Rewriter_rewrite : fa_impl_Rewriter_rewrite.rsh = .any := rfl
theorem go_impl_Rewriter_rewrite {args : List PV} {σ : List AObj} {r : PV × List AObj} (hl : args.length ≤ 102) (h : rE fns fa_impl_Rewriter_rewrite σ.length [.code ac_impl_Rewriter_rewrite] (frA 0 args) σ = some r) : ev fns i_impl_Rewriter_rewrite args σ = some r := ev_go n_impl_Rewriter_rewrite rfl hl h
theorem l_impl_Rewriter_rewrite_0 {ks : List KI} {l : Fr} {σ : List AObj} {n0 : Nat} : rE fns fa_impl_Rewriter_rewrite n0 (.code lo_impl_Rewriter_rewrite_0 :: ks) l σ = rE fns fa_impl_Rewriter_rewrite n0 (.code lb_impl_Rewriter_rewrite_0 :: .code lo_impl_Rewriter_rewrite_0 :: ks) l σ := rE_loop
@[simp] theorem nt_impl_ComposeRewriters_1 : fa_impl_ComposeRewriters_1.nt = 50 := rfl
@[simp] theorem rs_impl_ComposeRewriters_1 : fa_impl_ComposeRewriters_1.rs = [.cell 8 3 true] := rfl
@[simp] theorem fz_impl_ComposeRewriters_1 : fa_impl_ComposeRewriters_1.fz = true := rfl
@[simp] theorem rsh_impl_ComposeRewriters_1 : fa_impl_ComposeRewriters_1.rsh = .any := rfl
theorem go_impl_ComposeRewriters_1 {args : List PV} {σ : List AObj} {r : PV × List AObj} (hl : args.length ≤ 50) (h : rE fns fa_impl_ComposeRewriters_1 σ.length [.code ac_impl_ComposeRewriters_1] (frA 0 args) σ = some r) : ev fns i_impl_ComposeRewriters_1 args σ = some r := ev_go n_impl_ComposeRewriters_1 rfl hl h
@[simp] theorem nt_impl_marksOf : fa_impl_marksOf.nt = 21 := rfl
@[simp] theorem rs_impl_marksOf : fa_impl_marksOf.rs = [.tmp 6, .tmp 7] := rfl
@[simp] theorem fz_impl_marksOf : fa_impl_marksOf.fz = true := rfl
@[simp] theorem rsh_impl_marksOf : fa_impl_marksOf.rsh = .any := rfl
theorem go_impl_marksOf {args : List PV} {σ : List AObj} {r : PV × List AObj} (hl : args.length ≤ 21) (h : rE fns fa_impl_marksOf σ.length [.code ac_impl_marksOf] (frA 0 args) σ = some r) : ev fns i_impl_marksOf args σ = some r := ev_go n_impl_marksOf rfl hl h
@[simp] theorem nt_impl_ComposeRewriters_2 : fa_impl_ComposeRewriters_2.nt = 58 := rfl
@[simp] theorem rs_impl_ComposeRewriters_2 : fa_impl_ComposeRewriters_2.rs = [.cell 10 2 true] := rfl
@[simp] theorem fz_impl_ComposeRewriters_2 : fa_impl_ComposeRewriters_2.fz = true := rfl
@[simp] theorem rsh_impl_ComposeRewriters_2 : fa_impl_ComposeRewriters_2.rsh = .any := rfl
theorem go_impl_ComposeRewriters_2 {args : List PV} {σ : List AObj} {r : PV × List AObj} (hl : args.length ≤ 58) (h : rE fns fa_impl_ComposeRewriters_2 σ.length [.code ac_impl_ComposeRewriters_2] (frA 0 args) σ = some r) : ev fns i_impl_ComposeRewriters_2 args σ = some r := ev_go n_impl_ComposeRewriters_2 rfl hl h
@[simp] theorem nt_impl_ComposeRewriters_3 : fa_impl_ComposeRewriters_3.nt = 41 := rfl
@[simp] theorem rs_impl_ComposeRewriters_3 : fa_impl_ComposeRewriters_3.rs = [.cell 7 2 true] := rfl
@[simp] theorem fz_impl_ComposeRewriters_3 : fa_impl_ComposeRewriters_3.fz = true := rfl
@[simp] theorem rsh_impl_ComposeRewriters_3 : fa_impl_ComposeRewriters_3.rsh = .any := rfl
theorem go_impl_ComposeRewriters_3 {args : List PV} {σ : List AObj} {r : PV × List AObj} (hl : args.length ≤ 41) (h : rE fns fa_impl_ComposeRewriters_3 σ.length [.code ac_impl_ComposeRewriters_3] (frA 0 args) σ = some r) : ev fns i_impl_ComposeRewriters_3 args σ = some r := ev_go n_impl_ComposeRewriters_3 rfl hl h
@[simp] theorem nt_impl_ComposeRewriters : fa_impl_ComposeRewriters.nt = 69 := rfl
@[simp] theorem rs_impl_ComposeRewriters : fa_impl_ComposeRewriters.rs = [.cell 4 5 true, .tmp 5] := rfl
@[simp] theorem fz_impl_ComposeRewriters : fa_impl_ComposeRewriters.fz = false := rfl
@[simp] theorem rsh_impl_ComposeRewriters : fa_impl_ComposeRewriters.rsh = .any := rfl
theorem go_impl_ComposeRewriters {args : List PV} {σ : List AObj} {r : PV × List AObj} (hl : args.length ≤ 69) (h : rE fns fa_impl_ComposeRewriters σ.length [.code ac_impl_ComposeRewriters] (frA 0 args) σ = some r) : ev fns i_impl_ComposeRewriters args σ = some r := ev_go n_impl_ComposeRewriters rfl hl h
@[simp] theorem nt_laws_heldOutPushS : fa_laws_heldOutPushS.nt = 41 := rfl
@[simp] theorem rs_laws_heldOutPushS : fa_laws_heldOutPushS.rs = [.tmp 4] := rfl
@[simp] theorem fz_laws_heldOutPushS : fa_laws_heldOutPushS.fz = true := rfl
@[simp] theorem rsh_laws_heldOutPushS : fa_laws_heldOutPushS.rsh = .any := rfl
theorem go_laws_heldOutPushS {args : List PV} {σ : List AObj} {r : PV × List AObj} (hl : args.length ≤ 41) (h : rE fns fa_laws_heldOutPushS σ.length [.code ac_laws_heldOutPushS] (frA 0 args) σ = some r) : ev fns i_laws_heldOutPushS args σ = some r := ev_go n_laws_heldOutPushS rfl hl h
theorem l_laws_heldOutPushS_0 {ks : List KI} {l : Fr} {σ : List AObj} {n0 : Nat} : rE fns fa_laws_heldOutPushS n0 (.code lo_laws_heldOutPushS_0 :: ks) l σ = rE fns fa_laws_heldOutPushS n0 (.code lb_laws_heldOutPushS_0 :: .code lo_laws_heldOutPushS_0 :: ks) l σ := rE_loop
@[simp] theorem nt_laws_heldOutPushSS : fa_laws_heldOutPushSS.nt = 21 := rfl
@[simp] theorem rs_laws_heldOutPushSS : fa_laws_heldOutPushSS.rs = [.tmp 4] := rfl
@[simp] theorem fz_laws_heldOutPushSS : fa_laws_heldOutPushSS.fz = true := rfl
@[simp] theorem rsh_laws_heldOutPushSS : fa_laws_heldOutPushSS.rsh = .any := rfl
theorem go_laws_heldOutPushSS {args : List PV} {σ : List AObj} {r : PV × List AObj} (hl : args.length ≤ 21) (h : rE fns fa_laws_heldOutPushSS σ.length [.code ac_laws_heldOutPushSS] (frA 0 args) σ = some r) : ev fns i_laws_heldOutPushSS args σ = some r := ev_go n_laws_heldOutPushSS rfl hl h
theorem l_laws_heldOutPushSS_0 {ks : List KI} {l : Fr} {σ : List AObj} {n0 : Nat} : rE fns fa_laws_heldOutPushSS n0 (.code lo_laws_heldOutPushSS_0 :: ks) l σ = rE fns fa_laws_heldOutPushSS n0 (.code lb_laws_heldOutPushSS_0 :: .code lo_laws_heldOutPushSS_0 :: ks) l σ := rE_loop
@[simp] theorem nt_laws_heldOutMoveS : fa_laws_heldOutMoveS.nt = 32 := rfl
@[simp] theorem rs_laws_heldOutMoveS : fa_laws_heldOutMoveS.rs = [.tmp 4] := rfl
@[simp] theorem fz_laws_heldOutMoveS : fa_laws_heldOutMoveS.fz = true := rfl
@[simp] theorem rsh_laws_heldOutMoveS : fa_laws_heldOutMoveS.rsh = .any := rfl
theorem go_laws_heldOutMoveS {args : List PV} {σ : List AObj} {r : PV × List AObj} (hl : args.length ≤ 32) (h : rE fns fa_laws_heldOutMoveS σ.length [.code ac_laws_heldOutMoveS] (frA 0 args) σ = some r) : ev fns i_laws_heldOutMoveS args σ = some r := ev_go n_laws_heldOutMoveS rfl hl h
theorem l_laws_heldOutMoveS_0 {ks : List KI} {l : Fr} {σ : List AObj} {n0 : Nat} : rE fns fa_laws_heldOutMoveS n0 (.code lo_laws_heldOutMoveS_0 :: ks) l σ = rE fns fa_laws_heldOutMoveS n0 (.code lb_laws_heldOutMoveS_0 :: .code lo_laws_heldOutMoveS_0 :: ks) l σ := rE_loop
@[simp] theorem nt_laws_heldOutMoveSS : fa_laws_heldOutMoveSS.nt = 21 := rfl
@[simp] theorem rs_laws_heldOutMoveSS : fa_laws_heldOutMoveSS.rs = [.tmp 4] := rfl
@[simp] theorem fz_laws_heldOutMoveSS : fa_laws_heldOutMoveSS.fz = true := rfl
@[simp] theorem rsh_laws_heldOutMoveSS : fa_laws_heldOutMoveSS.rsh = .any := rfl
theorem go_laws_heldOutMoveSS {args : List PV} {σ : List AObj} {r : PV × List AObj} (hl : args.length ≤ 21) (h : rE fns fa_laws_heldOutMoveSS σ.length [.code ac_laws_heldOutMoveSS] (frA 0 args) σ = some r) : ev fns i_laws_heldOutMoveSS args σ = some r := ev_go n_laws_heldOutMoveSS rfl hl h
theorem l_laws_heldOutMoveSS_0 {ks : List KI} {l : Fr} {σ : List AObj} {n0 : Nat} : rE fns fa_laws_heldOutMoveSS n0 (.code lo_laws_heldOutMoveSS_0 :: ks) l σ = rE fns fa_laws_heldOutMoveSS n0 (.code lb_laws_heldOutMoveSS_0 :: .code lo_laws_heldOutMoveSS_0 :: ks) l σ := rE_loop
@[simp] theorem nt_laws_heldOutMoveSSS : fa_laws_heldOutMoveSSS.nt = 21 := rfl
@[simp] theorem rs_laws_heldOutMoveSSS : fa_laws_heldOutMoveSSS.rs = [.tmp 4] := rfl
@[simp] theorem fz_laws_heldOutMoveSSS : fa_laws_heldOutMoveSSS.fz = true := rfl
@[simp] theorem rsh_laws_heldOutMoveSSS : fa_laws_heldOutMoveSSS.rsh = .any := rfl
theorem go_laws_heldOutMoveSSS {args : List PV} {σ : List AObj} {r : PV × List AObj} (hl : args.length ≤ 21) (h : rE fns fa_laws_heldOutMoveSSS σ.length [.code ac_laws_heldOutMoveSSS] (frA 0 args) σ = some r) : ev fns i_laws_heldOutMoveSSS args σ = some r := ev_go n_laws_heldOutMoveSSS rfl hl h
theorem l_laws_heldOutMoveSSS_0 {ks : List KI} {l : Fr} {σ : List AObj} {n0 : Nat} : rE fns fa_laws_heldOutMoveSSS n0 (.code lo_laws_heldOutMoveSSS_0 :: ks) l σ = rE fns fa_laws_heldOutMoveSSS n0 (.code lb_laws_heldOutMoveSSS_0 :: .code lo_laws_heldOutMoveSSS_0 :: ks) l σ := rE_loop
@[simp] theorem nt_laws_heldRewriter : fa_laws_heldRewriter.nt = 24 := rfl
@[simp] theorem rs_laws_heldRewriter : fa_laws_heldRewriter.rs = [.tmp 4] := rfl
@[simp] theorem fz_laws_heldRewriter : fa_laws_heldRewriter.fz = true := rfl
@[simp] theorem rsh_laws_heldRewriter : fa_laws_heldRewriter.rsh = .any := rfl
theorem go_laws_heldRewriter {args : List PV} {σ : List AObj} {r : PV × List AObj} (hl : args.length ≤ 24) (h : rE fns fa_laws_heldRewriter σ.length [.code ac_laws_heldRewriter] (frA 0 args) σ = some r) : ev fns i_laws_heldRewriter args σ = some r := ev_go n_laws_heldRewriter rfl hl h
@[simp] theorem nt_laws_FnExactComposeRewriters : fa_laws_FnExactComposeRewriters.nt = 119 := rfl
@[simp] theorem rs_laws_FnExactComposeRewriters : fa_laws_FnExactComposeRewriters.rs = [.tmp 4] := rfl
@[simp] theorem fz_laws_FnExactComposeRewriters : fa_laws_FnExactComposeRewriters.fz = true := rfl
@[simp] theorem rsh_laws_FnExactComposeRewriters : fa_laws_FnExactComposeRewriters.rsh = .any := rfl
theorem go_laws_FnExactComposeRewriters {args : List PV} {σ : List AObj} {r : PV × List AObj} (hl : args.length ≤ 119) (h : rE fns fa_laws_FnExactComposeRewriters σ.length [.code ac_laws_FnExactComposeRewriters] (frA 0 args) σ = some r) : ev fns i_laws_FnExactComposeRewriters args σ = some r := ev_go n_laws_FnExactComposeRewriters rfl hl h
end Go.Proofs.Ytjfpmpbdbpgofaa
