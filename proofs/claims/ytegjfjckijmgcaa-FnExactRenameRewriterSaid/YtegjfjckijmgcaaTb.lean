/- The table of all functions; printed by a program (gen2.py). -/
import Derived.Test.YtegjfjckijmgcaaAw30
import Derived.Test.YtegjfjckijmgcaaG0
set_option linter.unusedVariables false
set_option maxRecDepth 100000
namespace Go.Proofs.Ytegjfjckijmgcaa
open Aw
def tbl : List (FnE Try.prog) := [⟨i_spec_l01Symbol, fa_spec_l01Symbol, cf_spec_l01Symbol⟩,
  ⟨i_spec_l01Ok, fa_spec_l01Ok, cf_spec_l01Ok⟩,
  ⟨i_spec_l01Call, fa_spec_l01Call, cf_spec_l01Call⟩,
  ⟨i_spec_l01Return, fa_spec_l01Return, cf_spec_l01Return⟩,
  ⟨i_spec_l06Plain, fa_spec_l06Plain, cf_spec_l06Plain⟩,
  ⟨i_spec_RenameRewriter, fa_spec_RenameRewriter, cf_spec_RenameRewriter⟩,
  ⟨i_internal_stringslite_IndexByte, fa_internal_stringslite_IndexByte, cf_internal_stringslite_IndexByte⟩,
  ⟨i_strings_IndexByte, fa_strings_IndexByte, cf_strings_IndexByte⟩,
  ⟨i_impl_ValidWord, fa_impl_ValidWord, cf_impl_ValidWord⟩,
  ⟨i_impl_isCall, fa_impl_isCall, cf_impl_isCall⟩,
  ⟨i_impl_isReturn, fa_impl_isReturn, cf_impl_isReturn⟩,
  ⟨i_impl_isInner, fa_impl_isInner, cf_impl_isInner⟩,
  ⟨i_impl_builtRewriter, fa_impl_builtRewriter, cf_impl_builtRewriter⟩,
  ⟨i_impl_renaming_1, fa_impl_renaming_1, cf_impl_renaming_1⟩,
  ⟨i_impl_renaming_2, fa_impl_renaming_2, cf_impl_renaming_2⟩,
  ⟨i_impl_renaming_3, fa_impl_renaming_3, cf_impl_renaming_3⟩,
  ⟨i_impl_renaming, fa_impl_renaming, cf_impl_renaming⟩,
  ⟨i_impl_RenameRewriter_1, fa_impl_RenameRewriter_1, cf_impl_RenameRewriter_1⟩,
  ⟨i_impl_RenameRewriter, fa_impl_RenameRewriter, cf_impl_RenameRewriter⟩,
  ⟨i_laws_eqOutPush, fa_laws_eqOutPush, cf_laws_eqOutPush⟩,
  ⟨i_laws_eqOutPushS, fa_laws_eqOutPushS, cf_laws_eqOutPushS⟩,
  ⟨i_laws_eqOutPushSS, fa_laws_eqOutPushSS, cf_laws_eqOutPushSS⟩,
  ⟨i_laws_eqOutMove, fa_laws_eqOutMove, cf_laws_eqOutMove⟩,
  ⟨i_laws_eqOutMoveS, fa_laws_eqOutMoveS, cf_laws_eqOutMoveS⟩,
  ⟨i_laws_eqOutMoveSS, fa_laws_eqOutMoveSS, cf_laws_eqOutMoveSS⟩,
  ⟨i_laws_eqOutMoveSSS, fa_laws_eqOutMoveSSS, cf_laws_eqOutMoveSSS⟩,
  ⟨i_laws_eqRewriter, fa_laws_eqRewriter, cf_laws_eqRewriter⟩,
  ⟨i_laws_markText, fa_laws_markText, cf_laws_markText⟩,
  ⟨i_laws_markOutPushS, fa_laws_markOutPushS, cf_laws_markOutPushS⟩,
  ⟨i_laws_markOutPushSS, fa_laws_markOutPushSS, cf_laws_markOutPushSS⟩,
  ⟨i_laws_markOutMoveS, fa_laws_markOutMoveS, cf_laws_markOutMoveS⟩,
  ⟨i_laws_markOutMoveSS, fa_laws_markOutMoveSS, cf_laws_markOutMoveSS⟩,
  ⟨i_laws_markOutMoveSSS, fa_laws_markOutMoveSSS, cf_laws_markOutMoveSSS⟩,
  ⟨i_laws_markRewriter, fa_laws_markRewriter, cf_laws_markRewriter⟩,
  ⟨i_laws_heldOutPushS, fa_laws_heldOutPushS, cf_laws_heldOutPushS⟩,
  ⟨i_laws_heldOutPushSS, fa_laws_heldOutPushSS, cf_laws_heldOutPushSS⟩,
  ⟨i_laws_heldOutMoveS, fa_laws_heldOutMoveS, cf_laws_heldOutMoveS⟩,
  ⟨i_laws_heldOutMoveSS, fa_laws_heldOutMoveSS, cf_laws_heldOutMoveSS⟩,
  ⟨i_laws_heldOutMoveSSS, fa_laws_heldOutMoveSSS, cf_laws_heldOutMoveSSS⟩,
  ⟨i_laws_heldRewriter, fa_laws_heldRewriter, cf_laws_heldRewriter⟩,
  ⟨i_laws_FnExactRenameRewriter, fa_laws_FnExactRenameRewriter, cf_laws_FnExactRenameRewriter⟩]
def fns : Fns := fnsOf tbl
theorem fnsOk : FnsOk Try.prog fns := fnsOf_ok tbl
theorem n_spec_l01Symbol : fns i_spec_l01Symbol = some fa_spec_l01Symbol := rfl
@[simp] theorem c_spec_l01Symbol (args : List PV) (σ : List AObj) : callM fns (ev fns) i_spec_l01Symbol args σ = callN fns i_spec_l01Symbol args σ := callM_np n_spec_l01Symbol rfl rfl
theorem n_spec_l01Ok : fns i_spec_l01Ok = some fa_spec_l01Ok := rfl
@[simp] theorem c_spec_l01Ok (args : List PV) (σ : List AObj) : callM fns (ev fns) i_spec_l01Ok args σ = callN fns i_spec_l01Ok args σ := callM_np n_spec_l01Ok rfl rfl
theorem n_spec_l01Call : fns i_spec_l01Call = some fa_spec_l01Call := rfl
@[simp] theorem c_spec_l01Call (args : List PV) (σ : List AObj) : callM fns (ev fns) i_spec_l01Call args σ = callN fns i_spec_l01Call args σ := callM_np n_spec_l01Call rfl rfl
theorem n_spec_l01Return : fns i_spec_l01Return = some fa_spec_l01Return := rfl
@[simp] theorem c_spec_l01Return (args : List PV) (σ : List AObj) : callM fns (ev fns) i_spec_l01Return args σ = callN fns i_spec_l01Return args σ := callM_np n_spec_l01Return rfl rfl
theorem n_spec_l06Plain : fns i_spec_l06Plain = some fa_spec_l06Plain := rfl
@[simp] theorem c_spec_l06Plain (args : List PV) (σ : List AObj) : callM fns (ev fns) i_spec_l06Plain args σ = callN fns i_spec_l06Plain args σ := callM_np n_spec_l06Plain rfl rfl
theorem n_spec_RenameRewriter : fns i_spec_RenameRewriter = some fa_spec_RenameRewriter := rfl
@[simp] theorem c_spec_RenameRewriter (args : List PV) (σ : List AObj) : callM fns (ev fns) i_spec_RenameRewriter args σ = callN fns i_spec_RenameRewriter args σ := callM_np n_spec_RenameRewriter rfl rfl
theorem n_internal_stringslite_IndexByte : fns i_internal_stringslite_IndexByte = some fa_internal_stringslite_IndexByte := rfl
@[simp] theorem c_internal_stringslite_IndexByte (args : List PV) (σ : List AObj) : callM fns (ev fns) i_internal_stringslite_IndexByte args σ = callN fns i_internal_stringslite_IndexByte args σ := callM_np n_internal_stringslite_IndexByte rfl rfl
theorem n_strings_IndexByte : fns i_strings_IndexByte = some fa_strings_IndexByte := rfl
@[simp] theorem c_strings_IndexByte (args : List PV) (σ : List AObj) : callM fns (ev fns) i_strings_IndexByte args σ = callN fns i_strings_IndexByte args σ := callM_np n_strings_IndexByte rfl rfl
theorem n_impl_ValidWord : fns i_impl_ValidWord = some fa_impl_ValidWord := rfl
@[simp] theorem c_impl_ValidWord (args : List PV) (σ : List AObj) : callM fns (ev fns) i_impl_ValidWord args σ = callN fns i_impl_ValidWord args σ := callM_np n_impl_ValidWord rfl rfl
theorem n_impl_isCall : fns i_impl_isCall = some fa_impl_isCall := rfl
@[simp] theorem c_impl_isCall (args : List PV) (σ : List AObj) : callM fns (ev fns) i_impl_isCall args σ = callN fns i_impl_isCall args σ := callM_np n_impl_isCall rfl rfl
theorem n_impl_isReturn : fns i_impl_isReturn = some fa_impl_isReturn := rfl
@[simp] theorem c_impl_isReturn (args : List PV) (σ : List AObj) : callM fns (ev fns) i_impl_isReturn args σ = callN fns i_impl_isReturn args σ := callM_np n_impl_isReturn rfl rfl
theorem n_impl_isInner : fns i_impl_isInner = some fa_impl_isInner := rfl
@[simp] theorem c_impl_isInner (args : List PV) (σ : List AObj) : callM fns (ev fns) i_impl_isInner args σ = callN fns i_impl_isInner args σ := callM_np n_impl_isInner rfl rfl
theorem n_impl_builtRewriter : fns i_impl_builtRewriter = some fa_impl_builtRewriter := rfl
@[simp] theorem c_impl_builtRewriter (args : List PV) (σ : List AObj) : callM fns (ev fns) i_impl_builtRewriter args σ = callN fns i_impl_builtRewriter args σ := callM_np n_impl_builtRewriter rfl rfl
theorem n_impl_renaming_1 : fns i_impl_renaming_1 = some fa_impl_renaming_1 := rfl
@[simp] theorem c_impl_renaming_1 (args : List PV) (σ : List AObj) : callM fns (ev fns) i_impl_renaming_1 args σ = callN fns i_impl_renaming_1 args σ := callM_np n_impl_renaming_1 rfl rfl
theorem n_impl_renaming_2 : fns i_impl_renaming_2 = some fa_impl_renaming_2 := rfl
@[simp] theorem c_impl_renaming_2 (args : List PV) (σ : List AObj) : callM fns (ev fns) i_impl_renaming_2 args σ = callN fns i_impl_renaming_2 args σ := callM_np n_impl_renaming_2 rfl rfl
theorem n_impl_renaming_3 : fns i_impl_renaming_3 = some fa_impl_renaming_3 := rfl
@[simp] theorem c_impl_renaming_3 (args : List PV) (σ : List AObj) : callM fns (ev fns) i_impl_renaming_3 args σ = callN fns i_impl_renaming_3 args σ := callM_np n_impl_renaming_3 rfl rfl
theorem n_impl_renaming : fns i_impl_renaming = some fa_impl_renaming := rfl
@[simp] theorem c_impl_renaming (args : List PV) (σ : List AObj) : callM fns (ev fns) i_impl_renaming args σ = callN fns i_impl_renaming args σ := callM_np n_impl_renaming rfl rfl
theorem n_impl_RenameRewriter_1 : fns i_impl_RenameRewriter_1 = some fa_impl_RenameRewriter_1 := rfl
@[simp] theorem c_impl_RenameRewriter_1 (args : List PV) (σ : List AObj) : callM fns (ev fns) i_impl_RenameRewriter_1 args σ = callN fns i_impl_RenameRewriter_1 args σ := callM_np n_impl_RenameRewriter_1 rfl rfl
theorem n_impl_RenameRewriter : fns i_impl_RenameRewriter = some fa_impl_RenameRewriter := rfl
@[simp] theorem c_impl_RenameRewriter (args : List PV) (σ : List AObj) : callM fns (ev fns) i_impl_RenameRewriter args σ = callN fns i_impl_RenameRewriter args σ := callM_np n_impl_RenameRewriter rfl rfl
theorem n_laws_eqOutPush : fns i_laws_eqOutPush = some fa_laws_eqOutPush := rfl
@[simp] theorem c_laws_eqOutPush (args : List PV) (σ : List AObj) : callM fns (ev fns) i_laws_eqOutPush args σ = callN fns i_laws_eqOutPush args σ := callM_np n_laws_eqOutPush rfl rfl
theorem n_laws_eqOutPushS : fns i_laws_eqOutPushS = some fa_laws_eqOutPushS := rfl
@[simp] theorem c_laws_eqOutPushS (args : List PV) (σ : List AObj) : callM fns (ev fns) i_laws_eqOutPushS args σ = callN fns i_laws_eqOutPushS args σ := callM_np n_laws_eqOutPushS rfl rfl
theorem n_laws_eqOutPushSS : fns i_laws_eqOutPushSS = some fa_laws_eqOutPushSS := rfl
@[simp] theorem c_laws_eqOutPushSS (args : List PV) (σ : List AObj) : callM fns (ev fns) i_laws_eqOutPushSS args σ = callN fns i_laws_eqOutPushSS args σ := callM_np n_laws_eqOutPushSS rfl rfl
theorem n_laws_eqOutMove : fns i_laws_eqOutMove = some fa_laws_eqOutMove := rfl
@[simp] theorem c_laws_eqOutMove (args : List PV) (σ : List AObj) : callM fns (ev fns) i_laws_eqOutMove args σ = callN fns i_laws_eqOutMove args σ := callM_np n_laws_eqOutMove rfl rfl
theorem n_laws_eqOutMoveS : fns i_laws_eqOutMoveS = some fa_laws_eqOutMoveS := rfl
@[simp] theorem c_laws_eqOutMoveS (args : List PV) (σ : List AObj) : callM fns (ev fns) i_laws_eqOutMoveS args σ = callN fns i_laws_eqOutMoveS args σ := callM_np n_laws_eqOutMoveS rfl rfl
theorem n_laws_eqOutMoveSS : fns i_laws_eqOutMoveSS = some fa_laws_eqOutMoveSS := rfl
@[simp] theorem c_laws_eqOutMoveSS (args : List PV) (σ : List AObj) : callM fns (ev fns) i_laws_eqOutMoveSS args σ = callN fns i_laws_eqOutMoveSS args σ := callM_np n_laws_eqOutMoveSS rfl rfl
theorem n_laws_eqOutMoveSSS : fns i_laws_eqOutMoveSSS = some fa_laws_eqOutMoveSSS := rfl
@[simp] theorem c_laws_eqOutMoveSSS (args : List PV) (σ : List AObj) : callM fns (ev fns) i_laws_eqOutMoveSSS args σ = callN fns i_laws_eqOutMoveSSS args σ := callM_np n_laws_eqOutMoveSSS rfl rfl
theorem n_laws_eqRewriter : fns i_laws_eqRewriter = some fa_laws_eqRewriter := rfl
@[simp] theorem c_laws_eqRewriter (args : List PV) (σ : List AObj) : callM fns (ev fns) i_laws_eqRewriter args σ = callT fns [(.agg [.any, .any, (.lst 1 (.lst 3 .any)), (.lst 1 (.lst 1 (.lst 2 .any))), (.lst 1 (.lst 2 .any))]), (.agg [.any, .any, (.lst 1 (.lst 3 .any)), (.lst 1 (.lst 1 (.lst 2 .any))), (.lst 1 (.lst 2 .any))])] i_laws_eqRewriter args σ := callM_ty n_laws_eqRewriter rfl
theorem n_laws_markText : fns i_laws_markText = some fa_laws_markText := rfl
@[simp] theorem c_laws_markText (args : List PV) (σ : List AObj) : callM fns (ev fns) i_laws_markText args σ = callN fns i_laws_markText args σ := callM_np n_laws_markText rfl rfl
theorem n_laws_markOutPushS : fns i_laws_markOutPushS = some fa_laws_markOutPushS := rfl
@[simp] theorem c_laws_markOutPushS (args : List PV) (σ : List AObj) : callM fns (ev fns) i_laws_markOutPushS args σ = ev fns i_laws_markOutPushS args σ := by simp [callM, n_laws_markOutPushS, fa_laws_markOutPushS]
theorem n_laws_markOutPushSS : fns i_laws_markOutPushSS = some fa_laws_markOutPushSS := rfl
@[simp] theorem c_laws_markOutPushSS (args : List PV) (σ : List AObj) : callM fns (ev fns) i_laws_markOutPushSS args σ = ev fns i_laws_markOutPushSS args σ := by simp [callM, n_laws_markOutPushSS, fa_laws_markOutPushSS]
theorem n_laws_markOutMoveS : fns i_laws_markOutMoveS = some fa_laws_markOutMoveS := rfl
@[simp] theorem c_laws_markOutMoveS (args : List PV) (σ : List AObj) : callM fns (ev fns) i_laws_markOutMoveS args σ = ev fns i_laws_markOutMoveS args σ := by simp [callM, n_laws_markOutMoveS, fa_laws_markOutMoveS]
theorem n_laws_markOutMoveSS : fns i_laws_markOutMoveSS = some fa_laws_markOutMoveSS := rfl
@[simp] theorem c_laws_markOutMoveSS (args : List PV) (σ : List AObj) : callM fns (ev fns) i_laws_markOutMoveSS args σ = ev fns i_laws_markOutMoveSS args σ := by simp [callM, n_laws_markOutMoveSS, fa_laws_markOutMoveSS]
theorem n_laws_markOutMoveSSS : fns i_laws_markOutMoveSSS = some fa_laws_markOutMoveSSS := rfl
@[simp] theorem c_laws_markOutMoveSSS (args : List PV) (σ : List AObj) : callM fns (ev fns) i_laws_markOutMoveSSS args σ = ev fns i_laws_markOutMoveSSS args σ := by simp [callM, n_laws_markOutMoveSSS, fa_laws_markOutMoveSSS]
theorem n_laws_markRewriter : fns i_laws_markRewriter = some fa_laws_markRewriter := rfl
@[simp] theorem c_laws_markRewriter (args : List PV) (σ : List AObj) : callM fns (ev fns) i_laws_markRewriter args σ = ev fns i_laws_markRewriter args σ := by simp [callM, n_laws_markRewriter, fa_laws_markRewriter]
theorem n_laws_heldOutPushS : fns i_laws_heldOutPushS = some fa_laws_heldOutPushS := rfl
@[simp] theorem c_laws_heldOutPushS (args : List PV) (σ : List AObj) : callM fns (ev fns) i_laws_heldOutPushS args σ = callN fns i_laws_heldOutPushS args σ := callM_np n_laws_heldOutPushS rfl rfl
theorem n_laws_heldOutPushSS : fns i_laws_heldOutPushSS = some fa_laws_heldOutPushSS := rfl
@[simp] theorem c_laws_heldOutPushSS (args : List PV) (σ : List AObj) : callM fns (ev fns) i_laws_heldOutPushSS args σ = callN fns i_laws_heldOutPushSS args σ := callM_np n_laws_heldOutPushSS rfl rfl
theorem n_laws_heldOutMoveS : fns i_laws_heldOutMoveS = some fa_laws_heldOutMoveS := rfl
@[simp] theorem c_laws_heldOutMoveS (args : List PV) (σ : List AObj) : callM fns (ev fns) i_laws_heldOutMoveS args σ = callN fns i_laws_heldOutMoveS args σ := callM_np n_laws_heldOutMoveS rfl rfl
theorem n_laws_heldOutMoveSS : fns i_laws_heldOutMoveSS = some fa_laws_heldOutMoveSS := rfl
@[simp] theorem c_laws_heldOutMoveSS (args : List PV) (σ : List AObj) : callM fns (ev fns) i_laws_heldOutMoveSS args σ = callN fns i_laws_heldOutMoveSS args σ := callM_np n_laws_heldOutMoveSS rfl rfl
theorem n_laws_heldOutMoveSSS : fns i_laws_heldOutMoveSSS = some fa_laws_heldOutMoveSSS := rfl
@[simp] theorem c_laws_heldOutMoveSSS (args : List PV) (σ : List AObj) : callM fns (ev fns) i_laws_heldOutMoveSSS args σ = callN fns i_laws_heldOutMoveSSS args σ := callM_np n_laws_heldOutMoveSSS rfl rfl
theorem n_laws_heldRewriter : fns i_laws_heldRewriter = some fa_laws_heldRewriter := rfl
@[simp] theorem c_laws_heldRewriter (args : List PV) (σ : List AObj) : callM fns (ev fns) i_laws_heldRewriter args σ = callT fns [(.agg [.any, .any, (.lst 1 (.lst 3 .any)), (.lst 1 (.lst 1 (.lst 2 .any))), (.lst 1 (.lst 2 .any))]), .any] i_laws_heldRewriter args σ := callM_ty n_laws_heldRewriter rfl
theorem n_laws_FnExactRenameRewriter : fns i_laws_FnExactRenameRewriter = some fa_laws_FnExactRenameRewriter := rfl
@[simp] theorem c_laws_FnExactRenameRewriter (args : List PV) (σ : List AObj) : callM fns (ev fns) i_laws_FnExactRenameRewriter args σ = callN fns i_laws_FnExactRenameRewriter args σ := callM_np n_laws_FnExactRenameRewriter rfl rfl
@[simp] theorem nt_spec_l01Symbol : fa_spec_l01Symbol.nt = 13 := rfl
@[simp] theorem rs_spec_l01Symbol : fa_spec_l01Symbol.rs = [.tmp 2] := rfl
@[simp] theorem fz_spec_l01Symbol : fa_spec_l01Symbol.fz = true := rfl
@[simp] theorem rsh_spec_l01Symbol : fa_spec_l01Symbol.rsh = .any := rfl
theorem go_spec_l01Symbol {args : List PV} {σ : List AObj} {r : PV × List AObj} (hl : args.length ≤ 13) (h : rE fns fa_spec_l01Symbol σ.length [.code ac_spec_l01Symbol] (frA 0 args) σ = some r) : ev fns i_spec_l01Symbol args σ = some r := ev_go n_spec_l01Symbol rfl hl h
theorem l_spec_l01Symbol_0 {ks : List KI} {l : Fr} {σ : List AObj} {n0 : Nat} : rE fns fa_spec_l01Symbol n0 (.code lo_spec_l01Symbol_0 :: ks) l σ = rE fns fa_spec_l01Symbol n0 (.code lb_spec_l01Symbol_0 :: .code lo_spec_l01Symbol_0 :: ks) l σ := rE_loop
@[simp] theorem nt_spec_l01Ok : fa_spec_l01Ok.nt = 18 := rfl
@[simp] theorem rs_spec_l01Ok : fa_spec_l01Ok.rs = [.tmp 2] := rfl
@[simp] theorem fz_spec_l01Ok : fa_spec_l01Ok.fz = true := rfl
@[simp] theorem rsh_spec_l01Ok : fa_spec_l01Ok.rsh = .any := rfl
theorem go_spec_l01Ok {args : List PV} {σ : List AObj} {r : PV × List AObj} (hl : args.length ≤ 18) (h : rE fns fa_spec_l01Ok σ.length [.code ac_spec_l01Ok] (frA 0 args) σ = some r) : ev fns i_spec_l01Ok args σ = some r := ev_go n_spec_l01Ok rfl hl h
theorem l_spec_l01Ok_0 {ks : List KI} {l : Fr} {σ : List AObj} {n0 : Nat} : rE fns fa_spec_l01Ok n0 (.code lo_spec_l01Ok_0 :: ks) l σ = rE fns fa_spec_l01Ok n0 (.code lb_spec_l01Ok_0 :: .code lo_spec_l01Ok_0 :: ks) l σ := rE_loop
@[simp] theorem nt_spec_l01Call : fa_spec_l01Call.nt = 9 := rfl
@[simp] theorem rs_spec_l01Call : fa_spec_l01Call.rs = [.tmp 2] := rfl
@[simp] theorem fz_spec_l01Call : fa_spec_l01Call.fz = true := rfl
@[simp] theorem rsh_spec_l01Call : fa_spec_l01Call.rsh = .any := rfl
theorem go_spec_l01Call {args : List PV} {σ : List AObj} {r : PV × List AObj} (hl : args.length ≤ 9) (h : rE fns fa_spec_l01Call σ.length [.code ac_spec_l01Call] (frA 0 args) σ = some r) : ev fns i_spec_l01Call args σ = some r := ev_go n_spec_l01Call rfl hl h
@[simp] theorem nt_spec_l01Return : fa_spec_l01Return.nt = 9 := rfl
@[simp] theorem rs_spec_l01Return : fa_spec_l01Return.rs = [.tmp 2] := rfl
@[simp] theorem fz_spec_l01Return : fa_spec_l01Return.fz = true := rfl
@[simp] theorem rsh_spec_l01Return : fa_spec_l01Return.rsh = .any := rfl
theorem go_spec_l01Return {args : List PV} {σ : List AObj} {r : PV × List AObj} (hl : args.length ≤ 9) (h : rE fns fa_spec_l01Return σ.length [.code ac_spec_l01Return] (frA 0 args) σ = some r) : ev fns i_spec_l01Return args σ = some r := ev_go n_spec_l01Return rfl hl h
@[simp] theorem nt_spec_l06Plain : fa_spec_l06Plain.nt = 69 := rfl
@[simp] theorem rs_spec_l06Plain : fa_spec_l06Plain.rs = [.cell 4 5 true] := rfl
@[simp] theorem fz_spec_l06Plain : fa_spec_l06Plain.fz = false := rfl
@[simp] theorem rsh_spec_l06Plain : fa_spec_l06Plain.rsh = .any := rfl
theorem go_spec_l06Plain {args : List PV} {σ : List AObj} {r : PV × List AObj} (hl : args.length ≤ 69) (h : rE fns fa_spec_l06Plain σ.length [.code ac_spec_l06Plain] (frA 0 args) σ = some r) : ev fns i_spec_l06Plain args σ = some r := ev_go n_spec_l06Plain rfl hl h
theorem l_spec_l06Plain_0 {ks : List KI} {l : Fr} {σ : List AObj} {n0 : Nat} : rE fns fa_spec_l06Plain n0 (.code lo_spec_l06Plain_0 :: ks) l σ = rE fns fa_spec_l06Plain n0 (.code lb_spec_l06Plain_0 :: .code lo_spec_l06Plain_0 :: ks) l σ := rE_loop
theorem l_spec_l06Plain_1 {ks : List KI} {l : Fr} {σ : List AObj} {n0 : Nat} : rE fns fa_spec_l06Plain n0 (.code lo_spec_l06Plain_1 :: ks) l σ = rE fns fa_spec_l06Plain n0 (.code lb_spec_l06Plain_1 :: .code lo_spec_l06Plain_1 :: ks) l σ := rE_loop
@[simp] theorem nt_spec_RenameRewriter : fa_spec_RenameRewriter.nt = 110 := rfl
@[simp] theorem rs_spec_RenameRewriter : fa_spec_RenameRewriter.rs = [.cell 2 5 true, .tmp 3] := rfl
@[simp] theorem fz_spec_RenameRewriter : fa_spec_RenameRewriter.fz = true := rfl
@[simp] theorem rsh_spec_RenameRewriter : fa_spec_RenameRewriter.rsh = .any := rfl
theorem go_spec_RenameRewriter {args : List PV} {σ : List AObj} {r : PV × List AObj} (hl : args.length ≤ 110) (h : rE fns fa_spec_RenameRewriter σ.length [.code ac_spec_RenameRewriter] (frA 0 args) σ = some r) : ev fns i_spec_RenameRewriter args σ = some r := ev_go n_spec_RenameRewriter rfl hl h
theorem l_spec_RenameRewriter_0 {ks : List KI} {l : Fr} {σ : List AObj} {n0 : Nat} : rE fns fa_spec_RenameRewriter n0 (.code lo_spec_RenameRewriter_0 :: ks) l σ = rE fns fa_spec_RenameRewriter n0 (.code lb_spec_RenameRewriter_0 :: .code lo_spec_RenameRewriter_0 :: ks) l σ := rE_loop
@[simp] theorem nt_internal_stringslite_IndexByte : fa_internal_stringslite_IndexByte.nt = 8 := rfl
@[simp] theorem rs_internal_stringslite_IndexByte : fa_internal_stringslite_IndexByte.rs = [.tmp 4] := rfl
@[simp] theorem fz_internal_stringslite_IndexByte : fa_internal_stringslite_IndexByte.fz = true := rfl
@[simp] theorem rsh_internal_stringslite_IndexByte : fa_internal_stringslite_IndexByte.rsh = .any := rfl
theorem go_internal_stringslite_IndexByte {args : List PV} {σ : List AObj} {r : PV × List AObj} (hl : args.length ≤ 8) (h : rE fns fa_internal_stringslite_IndexByte σ.length [.code ac_internal_stringslite_IndexByte] (frA 0 args) σ = some r) : ev fns i_internal_stringslite_IndexByte args σ = some r := ev_go n_internal_stringslite_IndexByte rfl hl h
@[simp] theorem nt_strings_IndexByte : fa_strings_IndexByte.nt = 8 := rfl
@[simp] theorem rs_strings_IndexByte : fa_strings_IndexByte.rs = [.tmp 4] := rfl
@[simp] theorem fz_strings_IndexByte : fa_strings_IndexByte.fz = true := rfl
@[simp] theorem rsh_strings_IndexByte : fa_strings_IndexByte.rsh = .any := rfl
theorem go_strings_IndexByte {args : List PV} {σ : List AObj} {r : PV × List AObj} (hl : args.length ≤ 8) (h : rE fns fa_strings_IndexByte σ.length [.code ac_strings_IndexByte] (frA 0 args) σ = some r) : ev fns i_strings_IndexByte args σ = some r := ev_go n_strings_IndexByte rfl hl h
@[simp] theorem nt_impl_ValidWord : fa_impl_ValidWord.nt = 18 := rfl
@[simp] theorem rs_impl_ValidWord : fa_impl_ValidWord.rs = [.tmp 2] := rfl
@[simp] theorem fz_impl_ValidWord : fa_impl_ValidWord.fz = true := rfl
@[simp] theorem rsh_impl_ValidWord : fa_impl_ValidWord.rsh = .any := rfl
theorem go_impl_ValidWord {args : List PV} {σ : List AObj} {r : PV × List AObj} (hl : args.length ≤ 18) (h : rE fns fa_impl_ValidWord σ.length [.code ac_impl_ValidWord] (frA 0 args) σ = some r) : ev fns i_impl_ValidWord args σ = some r := ev_go n_impl_ValidWord rfl hl h
theorem l_impl_ValidWord_0 {ks : List KI} {l : Fr} {σ : List AObj} {n0 : Nat} : rE fns fa_impl_ValidWord n0 (.code lo_impl_ValidWord_0 :: ks) l σ = rE fns fa_impl_ValidWord n0 (.code lb_impl_ValidWord_0 :: .code lo_impl_ValidWord_0 :: ks) l σ := rE_loop
@[simp] theorem nt_impl_isCall : fa_impl_isCall.nt = 9 := rfl
@[simp] theorem rs_impl_isCall : fa_impl_isCall.rs = [.tmp 2] := rfl
@[simp] theorem fz_impl_isCall : fa_impl_isCall.fz = true := rfl
@[simp] theorem rsh_impl_isCall : fa_impl_isCall.rsh = .any := rfl
theorem go_impl_isCall {args : List PV} {σ : List AObj} {r : PV × List AObj} (hl : args.length ≤ 9) (h : rE fns fa_impl_isCall σ.length [.code ac_impl_isCall] (frA 0 args) σ = some r) : ev fns i_impl_isCall args σ = some r := ev_go n_impl_isCall rfl hl h
@[simp] theorem nt_impl_isReturn : fa_impl_isReturn.nt = 9 := rfl
@[simp] theorem rs_impl_isReturn : fa_impl_isReturn.rs = [.tmp 2] := rfl
@[simp] theorem fz_impl_isReturn : fa_impl_isReturn.fz = true := rfl
@[simp] theorem rsh_impl_isReturn : fa_impl_isReturn.rsh = .any := rfl
theorem go_impl_isReturn {args : List PV} {σ : List AObj} {r : PV × List AObj} (hl : args.length ≤ 9) (h : rE fns fa_impl_isReturn σ.length [.code ac_impl_isReturn] (frA 0 args) σ = some r) : ev fns i_impl_isReturn args σ = some r := ev_go n_impl_isReturn rfl hl h
@[simp] theorem nt_impl_isInner : fa_impl_isInner.nt = 9 := rfl
@[simp] theorem rs_impl_isInner : fa_impl_isInner.rs = [.tmp 2] := rfl
@[simp] theorem fz_impl_isInner : fa_impl_isInner.fz = true := rfl
@[simp] theorem rsh_impl_isInner : fa_impl_isInner.rsh = .any := rfl
theorem go_impl_isInner {args : List PV} {σ : List AObj} {r : PV × List AObj} (hl : args.length ≤ 9) (h : rE fns fa_impl_isInner σ.length [.code ac_impl_isInner] (frA 0 args) σ = some r) : ev fns i_impl_isInner args σ = some r := ev_go n_impl_isInner rfl hl h
@[simp] theorem nt_impl_builtRewriter : fa_impl_builtRewriter.nt = 88 := rfl
@[simp] theorem rs_impl_builtRewriter : fa_impl_builtRewriter.rs = [.cell 12 5 true] := rfl
@[simp] theorem fz_impl_builtRewriter : fa_impl_builtRewriter.fz = false := rfl
@[simp] theorem rsh_impl_builtRewriter : fa_impl_builtRewriter.rsh = .any := rfl
theorem go_impl_builtRewriter {args : List PV} {σ : List AObj} {r : PV × List AObj} (hl : args.length ≤ 88) (h : rE fns fa_impl_builtRewriter σ.length [.code ac_impl_builtRewriter] (frA 0 args) σ = some r) : ev fns i_impl_builtRewriter args σ = some r := ev_go n_impl_builtRewriter rfl hl h
theorem l_impl_builtRewriter_0 {ks : List KI} {l : Fr} {σ : List AObj} {n0 : Nat} : rE fns fa_impl_builtRewriter n0 (.code lo_impl_builtRewriter_0 :: ks) l σ = rE fns fa_impl_builtRewriter n0 (.code lb_impl_builtRewriter_0 :: .code lo_impl_builtRewriter_0 :: ks) l σ := rE_loop
theorem l_impl_builtRewriter_1 {ks : List KI} {l : Fr} {σ : List AObj} {n0 : Nat} : rE fns fa_impl_builtRewriter n0 (.code lo_impl_builtRewriter_1 :: ks) l σ = rE fns fa_impl_builtRewriter n0 (.code lb_impl_builtRewriter_1 :: .code lo_impl_builtRewriter_1 :: ks) l σ := rE_loop
theorem l_impl_builtRewriter_2 {ks : List KI} {l : Fr} {σ : List AObj} {n0 : Nat} : rE fns fa_impl_builtRewriter n0 (.code lo_impl_builtRewriter_2 :: ks) l σ = rE fns fa_impl_builtRewriter n0 (.code lb_impl_builtRewriter_2 :: .code lo_impl_builtRewriter_2 :: ks) l σ := rE_loop
@[simp] theorem nt_impl_renaming_1 : fa_impl_renaming_1.nt = 10 := rfl
@[simp] theorem rs_impl_renaming_1 : fa_impl_renaming_1.rs = [.cell 5 3 true] := rfl
@[simp] theorem fz_impl_renaming_1 : fa_impl_renaming_1.fz = true := rfl
@[simp] theorem rsh_impl_renaming_1 : fa_impl_renaming_1.rsh = .any := rfl
theorem go_impl_renaming_1 {args : List PV} {σ : List AObj} {r : PV × List AObj} (hl : args.length ≤ 10) (h : rE fns fa_impl_renaming_1 σ.length [.code ac_impl_renaming_1] (frA 0 args) σ = some r) : ev fns i_impl_renaming_1 args σ = some r := ev_go n_impl_renaming_1 rfl hl h
@[simp] theorem nt_impl_renaming_2 : fa_impl_renaming_2.nt = 13 := rfl
@[simp] theorem rs_impl_renaming_2 : fa_impl_renaming_2.rs = [.cell 7 2 true] := rfl
@[simp] theorem fz_impl_renaming_2 : fa_impl_renaming_2.fz = true := rfl
@[simp] theorem rsh_impl_renaming_2 : fa_impl_renaming_2.rsh = .any := rfl
theorem go_impl_renaming_2 {args : List PV} {σ : List AObj} {r : PV × List AObj} (hl : args.length ≤ 13) (h : rE fns fa_impl_renaming_2 σ.length [.code ac_impl_renaming_2] (frA 0 args) σ = some r) : ev fns i_impl_renaming_2 args σ = some r := ev_go n_impl_renaming_2 rfl hl h
@[simp] theorem nt_impl_renaming_3 : fa_impl_renaming_3.nt = 11 := rfl
@[simp] theorem rs_impl_renaming_3 : fa_impl_renaming_3.rs = [.cell 5 2 true] := rfl
@[simp] theorem fz_impl_renaming_3 : fa_impl_renaming_3.fz = true := rfl
@[simp] theorem rsh_impl_renaming_3 : fa_impl_renaming_3.rsh = .any := rfl
theorem go_impl_renaming_3 {args : List PV} {σ : List AObj} {r : PV × List AObj} (hl : args.length ≤ 11) (h : rE fns fa_impl_renaming_3 σ.length [.code ac_impl_renaming_3] (frA 0 args) σ = some r) : ev fns i_impl_renaming_3 args σ = some r := ev_go n_impl_renaming_3 rfl hl h
@[simp] theorem nt_impl_renaming : fa_impl_renaming.nt = 7 := rfl
@[simp] theorem rs_impl_renaming : fa_impl_renaming.rs = [.cell 2 5 true] := rfl
@[simp] theorem fz_impl_renaming : fa_impl_renaming.fz = false := rfl
@[simp] theorem rsh_impl_renaming : fa_impl_renaming.rsh = .any := rfl
theorem go_impl_renaming {args : List PV} {σ : List AObj} {r : PV × List AObj} (hl : args.length ≤ 7) (h : rE fns fa_impl_renaming σ.length [.code ac_impl_renaming] (frA 0 args) σ = some r) : ev fns i_impl_renaming args σ = some r := ev_go n_impl_renaming rfl hl h
@[simp] theorem nt_impl_RenameRewriter_1 : fa_impl_RenameRewriter_1.nt = 9 := rfl
@[simp] theorem rs_impl_RenameRewriter_1 : fa_impl_RenameRewriter_1.rs = [.tmp 3] := rfl
@[simp] theorem fz_impl_RenameRewriter_1 : fa_impl_RenameRewriter_1.fz = true := rfl
@[simp] theorem rsh_impl_RenameRewriter_1 : fa_impl_RenameRewriter_1.rsh = .any := rfl
theorem go_impl_RenameRewriter_1 {args : List PV} {σ : List AObj} {r : PV × List AObj} (hl : args.length ≤ 9) (h : rE fns fa_impl_RenameRewriter_1 σ.length [.code ac_impl_RenameRewriter_1] (frA 0 args) σ = some r) : ev fns i_impl_RenameRewriter_1 args σ = some r := ev_go n_impl_RenameRewriter_1 rfl hl h
@[simp] theorem nt_impl_RenameRewriter : fa_impl_RenameRewriter.nt = 54 := rfl
@[simp] theorem rs_impl_RenameRewriter : fa_impl_RenameRewriter.rs = [.cell 2 5 true, .tmp 3] := rfl
@[simp] theorem fz_impl_RenameRewriter : fa_impl_RenameRewriter.fz = false := rfl
@[simp] theorem rsh_impl_RenameRewriter : fa_impl_RenameRewriter.rsh = .any := rfl
theorem go_impl_RenameRewriter {args : List PV} {σ : List AObj} {r : PV × List AObj} (hl : args.length ≤ 54) (h : rE fns fa_impl_RenameRewriter σ.length [.code ac_impl_RenameRewriter] (frA 0 args) σ = some r) : ev fns i_impl_RenameRewriter args σ = some r := ev_go n_impl_RenameRewriter rfl hl h
theorem l_impl_RenameRewriter_0 {ks : List KI} {l : Fr} {σ : List AObj} {n0 : Nat} : rE fns fa_impl_RenameRewriter n0 (.code lo_impl_RenameRewriter_0 :: ks) l σ = rE fns fa_impl_RenameRewriter n0 (.code lb_impl_RenameRewriter_0 :: .code lo_impl_RenameRewriter_0 :: ks) l σ := rE_loop
@[simp] theorem nt_laws_eqOutPush : fa_laws_eqOutPush.nt = 20 := rfl
@[simp] theorem rs_laws_eqOutPush : fa_laws_eqOutPush.rs = [.tmp 4] := rfl
@[simp] theorem fz_laws_eqOutPush : fa_laws_eqOutPush.fz = true := rfl
@[simp] theorem rsh_laws_eqOutPush : fa_laws_eqOutPush.rsh = .any := rfl
theorem go_laws_eqOutPush {args : List PV} {σ : List AObj} {r : PV × List AObj} (hl : args.length ≤ 20) (h : rE fns fa_laws_eqOutPush σ.length [.code ac_laws_eqOutPush] (frA 0 args) σ = some r) : ev fns i_laws_eqOutPush args σ = some r := ev_go n_laws_eqOutPush rfl hl h
@[simp] theorem nt_laws_eqOutPushS : fa_laws_eqOutPushS.nt = 27 := rfl
@[simp] theorem rs_laws_eqOutPushS : fa_laws_eqOutPushS.rs = [.tmp 4] := rfl
@[simp] theorem fz_laws_eqOutPushS : fa_laws_eqOutPushS.fz = true := rfl
@[simp] theorem rsh_laws_eqOutPushS : fa_laws_eqOutPushS.rsh = .any := rfl
theorem go_laws_eqOutPushS {args : List PV} {σ : List AObj} {r : PV × List AObj} (hl : args.length ≤ 27) (h : rE fns fa_laws_eqOutPushS σ.length [.code ac_laws_eqOutPushS] (frA 0 args) σ = some r) : ev fns i_laws_eqOutPushS args σ = some r := ev_go n_laws_eqOutPushS rfl hl h
theorem l_laws_eqOutPushS_0 {ks : List KI} {l : Fr} {σ : List AObj} {n0 : Nat} : rE fns fa_laws_eqOutPushS n0 (.code lo_laws_eqOutPushS_0 :: ks) l σ = rE fns fa_laws_eqOutPushS n0 (.code lb_laws_eqOutPushS_0 :: .code lo_laws_eqOutPushS_0 :: ks) l σ := rE_loop
@[simp] theorem nt_laws_eqOutPushSS : fa_laws_eqOutPushSS.nt = 27 := rfl
@[simp] theorem rs_laws_eqOutPushSS : fa_laws_eqOutPushSS.rs = [.tmp 4] := rfl
@[simp] theorem fz_laws_eqOutPushSS : fa_laws_eqOutPushSS.fz = true := rfl
@[simp] theorem rsh_laws_eqOutPushSS : fa_laws_eqOutPushSS.rsh = .any := rfl
theorem go_laws_eqOutPushSS {args : List PV} {σ : List AObj} {r : PV × List AObj} (hl : args.length ≤ 27) (h : rE fns fa_laws_eqOutPushSS σ.length [.code ac_laws_eqOutPushSS] (frA 0 args) σ = some r) : ev fns i_laws_eqOutPushSS args σ = some r := ev_go n_laws_eqOutPushSS rfl hl h
theorem l_laws_eqOutPushSS_0 {ks : List KI} {l : Fr} {σ : List AObj} {n0 : Nat} : rE fns fa_laws_eqOutPushSS n0 (.code lo_laws_eqOutPushSS_0 :: ks) l σ = rE fns fa_laws_eqOutPushSS n0 (.code lb_laws_eqOutPushSS_0 :: .code lo_laws_eqOutPushSS_0 :: ks) l σ := rE_loop
@[simp] theorem nt_laws_eqOutMove : fa_laws_eqOutMove.nt = 15 := rfl
@[simp] theorem rs_laws_eqOutMove : fa_laws_eqOutMove.rs = [.tmp 4] := rfl
@[simp] theorem fz_laws_eqOutMove : fa_laws_eqOutMove.fz = true := rfl
@[simp] theorem rsh_laws_eqOutMove : fa_laws_eqOutMove.rsh = .any := rfl
theorem go_laws_eqOutMove {args : List PV} {σ : List AObj} {r : PV × List AObj} (hl : args.length ≤ 15) (h : rE fns fa_laws_eqOutMove σ.length [.code ac_laws_eqOutMove] (frA 0 args) σ = some r) : ev fns i_laws_eqOutMove args σ = some r := ev_go n_laws_eqOutMove rfl hl h
@[simp] theorem nt_laws_eqOutMoveS : fa_laws_eqOutMoveS.nt = 27 := rfl
@[simp] theorem rs_laws_eqOutMoveS : fa_laws_eqOutMoveS.rs = [.tmp 4] := rfl
@[simp] theorem fz_laws_eqOutMoveS : fa_laws_eqOutMoveS.fz = true := rfl
@[simp] theorem rsh_laws_eqOutMoveS : fa_laws_eqOutMoveS.rsh = .any := rfl
theorem go_laws_eqOutMoveS {args : List PV} {σ : List AObj} {r : PV × List AObj} (hl : args.length ≤ 27) (h : rE fns fa_laws_eqOutMoveS σ.length [.code ac_laws_eqOutMoveS] (frA 0 args) σ = some r) : ev fns i_laws_eqOutMoveS args σ = some r := ev_go n_laws_eqOutMoveS rfl hl h
theorem l_laws_eqOutMoveS_0 {ks : List KI} {l : Fr} {σ : List AObj} {n0 : Nat} : rE fns fa_laws_eqOutMoveS n0 (.code lo_laws_eqOutMoveS_0 :: ks) l σ = rE fns fa_laws_eqOutMoveS n0 (.code lb_laws_eqOutMoveS_0 :: .code lo_laws_eqOutMoveS_0 :: ks) l σ := rE_loop
@[simp] theorem nt_laws_eqOutMoveSS : fa_laws_eqOutMoveSS.nt = 27 := rfl
@[simp] theorem rs_laws_eqOutMoveSS : fa_laws_eqOutMoveSS.rs = [.tmp 4] := rfl
@[simp] theorem fz_laws_eqOutMoveSS : fa_laws_eqOutMoveSS.fz = true := rfl
@[simp] theorem rsh_laws_eqOutMoveSS : fa_laws_eqOutMoveSS.rsh = .any := rfl
theorem go_laws_eqOutMoveSS {args : List PV} {σ : List AObj} {r : PV × List AObj} (hl : args.length ≤ 27) (h : rE fns fa_laws_eqOutMoveSS σ.length [.code ac_laws_eqOutMoveSS] (frA 0 args) σ = some r) : ev fns i_laws_eqOutMoveSS args σ = some r := ev_go n_laws_eqOutMoveSS rfl hl h
theorem l_laws_eqOutMoveSS_0 {ks : List KI} {l : Fr} {σ : List AObj} {n0 : Nat} : rE fns fa_laws_eqOutMoveSS n0 (.code lo_laws_eqOutMoveSS_0 :: ks) l σ = rE fns fa_laws_eqOutMoveSS n0 (.code lb_laws_eqOutMoveSS_0 :: .code lo_laws_eqOutMoveSS_0 :: ks) l σ := rE_loop
@[simp] theorem nt_laws_eqOutMoveSSS : fa_laws_eqOutMoveSSS.nt = 27 := rfl
@[simp] theorem rs_laws_eqOutMoveSSS : fa_laws_eqOutMoveSSS.rs = [.tmp 4] := rfl
@[simp] theorem fz_laws_eqOutMoveSSS : fa_laws_eqOutMoveSSS.fz = true := rfl
@[simp] theorem rsh_laws_eqOutMoveSSS : fa_laws_eqOutMoveSSS.rsh = .any := rfl
theorem go_laws_eqOutMoveSSS {args : List PV} {σ : List AObj} {r : PV × List AObj} (hl : args.length ≤ 27) (h : rE fns fa_laws_eqOutMoveSSS σ.length [.code ac_laws_eqOutMoveSSS] (frA 0 args) σ = some r) : ev fns i_laws_eqOutMoveSSS args σ = some r := ev_go n_laws_eqOutMoveSSS rfl hl h
theorem l_laws_eqOutMoveSSS_0 {ks : List KI} {l : Fr} {σ : List AObj} {n0 : Nat} : rE fns fa_laws_eqOutMoveSSS n0 (.code lo_laws_eqOutMoveSSS_0 :: ks) l σ = rE fns fa_laws_eqOutMoveSSS n0 (.code lb_laws_eqOutMoveSSS_0 :: .code lo_laws_eqOutMoveSSS_0 :: ks) l σ := rE_loop
@[simp] theorem nt_laws_eqRewriter : fa_laws_eqRewriter.nt = 33 := rfl
@[simp] theorem rs_laws_eqRewriter : fa_laws_eqRewriter.rs = [.tmp 4] := rfl
@[simp] theorem fz_laws_eqRewriter : fa_laws_eqRewriter.fz = true := rfl
@[simp] theorem rsh_laws_eqRewriter : fa_laws_eqRewriter.rsh = .any := rfl
theorem go_laws_eqRewriter {args : List PV} {σ : List AObj} {r : PV × List AObj} (hl : args.length ≤ 33) (h : rE fns fa_laws_eqRewriter σ.length [.code ac_laws_eqRewriter] (frA 0 args) σ = some r) : ev fns i_laws_eqRewriter args σ = some r := ev_go n_laws_eqRewriter rfl hl h
@[simp] theorem nt_laws_markText : fa_laws_markText.nt = 20 := rfl
@[simp] theorem rs_laws_markText : fa_laws_markText.rs = [.tmp 2] := rfl
@[simp] theorem fz_laws_markText : fa_laws_markText.fz = true := rfl
@[simp] theorem rsh_laws_markText : fa_laws_markText.rsh = .any := rfl
theorem go_laws_markText {args : List PV} {σ : List AObj} {r : PV × List AObj} (hl : args.length ≤ 20) (h : rE fns fa_laws_markText σ.length [.code ac_laws_markText] (frA 0 args) σ = some r) : ev fns i_laws_markText args σ = some r := ev_go n_laws_markText rfl hl h
theorem l_laws_markText_0 {ks : List KI} {l : Fr} {σ : List AObj} {n0 : Nat} : rE fns fa_laws_markText n0 (.code lo_laws_markText_0 :: ks) l σ = rE fns fa_laws_markText n0 (.code lb_laws_markText_0 :: .code lo_laws_markText_0 :: ks) l σ := rE_loop
@[simp] theorem nt_laws_markOutPushS : fa_laws_markOutPushS.nt = 35 := rfl
@[simp] theorem rs_laws_markOutPushS : fa_laws_markOutPushS.rs = [.tmp 4] := rfl
@[simp] theorem fz_laws_markOutPushS : fa_laws_markOutPushS.fz = false := rfl
@[simp] theorem rsh_laws_markOutPushS : fa_laws_markOutPushS.rsh = .any := rfl
theorem go_laws_markOutPushS {args : List PV} {σ : List AObj} {r : PV × List AObj} (hl : args.length ≤ 35) (h : rE fns fa_laws_markOutPushS σ.length [.code ac_laws_markOutPushS] (frA 0 args) σ = some r) : ev fns i_laws_markOutPushS args σ = some r := ev_go n_laws_markOutPushS rfl hl h
theorem l_laws_markOutPushS_0 {ks : List KI} {l : Fr} {σ : List AObj} {n0 : Nat} : rE fns fa_laws_markOutPushS n0 (.code lo_laws_markOutPushS_0 :: ks) l σ = rE fns fa_laws_markOutPushS n0 (.code lb_laws_markOutPushS_0 :: .code lo_laws_markOutPushS_0 :: ks) l σ := rE_loop
@[simp] theorem nt_laws_markOutPushSS : fa_laws_markOutPushSS.nt = 19 := rfl
@[simp] theorem rs_laws_markOutPushSS : fa_laws_markOutPushSS.rs = [.tmp 4] := rfl
@[simp] theorem fz_laws_markOutPushSS : fa_laws_markOutPushSS.fz = false := rfl
@[simp] theorem rsh_laws_markOutPushSS : fa_laws_markOutPushSS.rsh = .any := rfl
theorem go_laws_markOutPushSS {args : List PV} {σ : List AObj} {r : PV × List AObj} (hl : args.length ≤ 19) (h : rE fns fa_laws_markOutPushSS σ.length [.code ac_laws_markOutPushSS] (frA 0 args) σ = some r) : ev fns i_laws_markOutPushSS args σ = some r := ev_go n_laws_markOutPushSS rfl hl h
theorem l_laws_markOutPushSS_0 {ks : List KI} {l : Fr} {σ : List AObj} {n0 : Nat} : rE fns fa_laws_markOutPushSS n0 (.code lo_laws_markOutPushSS_0 :: ks) l σ = rE fns fa_laws_markOutPushSS n0 (.code lb_laws_markOutPushSS_0 :: .code lo_laws_markOutPushSS_0 :: ks) l σ := rE_loop
@[simp] theorem nt_laws_markOutMoveS : fa_laws_markOutMoveS.nt = 28 := rfl
@[simp] theorem rs_laws_markOutMoveS : fa_laws_markOutMoveS.rs = [.tmp 4] := rfl
@[simp] theorem fz_laws_markOutMoveS : fa_laws_markOutMoveS.fz = false := rfl
@[simp] theorem rsh_laws_markOutMoveS : fa_laws_markOutMoveS.rsh = .any := rfl
theorem go_laws_markOutMoveS {args : List PV} {σ : List AObj} {r : PV × List AObj} (hl : args.length ≤ 28) (h : rE fns fa_laws_markOutMoveS σ.length [.code ac_laws_markOutMoveS] (frA 0 args) σ = some r) : ev fns i_laws_markOutMoveS args σ = some r := ev_go n_laws_markOutMoveS rfl hl h
theorem l_laws_markOutMoveS_0 {ks : List KI} {l : Fr} {σ : List AObj} {n0 : Nat} : rE fns fa_laws_markOutMoveS n0 (.code lo_laws_markOutMoveS_0 :: ks) l σ = rE fns fa_laws_markOutMoveS n0 (.code lb_laws_markOutMoveS_0 :: .code lo_laws_markOutMoveS_0 :: ks) l σ := rE_loop
@[simp] theorem nt_laws_markOutMoveSS : fa_laws_markOutMoveSS.nt = 19 := rfl
@[simp] theorem rs_laws_markOutMoveSS : fa_laws_markOutMoveSS.rs = [.tmp 4] := rfl
@[simp] theorem fz_laws_markOutMoveSS : fa_laws_markOutMoveSS.fz = false := rfl
@[simp] theorem rsh_laws_markOutMoveSS : fa_laws_markOutMoveSS.rsh = .any := rfl
theorem go_laws_markOutMoveSS {args : List PV} {σ : List AObj} {r : PV × List AObj} (hl : args.length ≤ 19) (h : rE fns fa_laws_markOutMoveSS σ.length [.code ac_laws_markOutMoveSS] (frA 0 args) σ = some r) : ev fns i_laws_markOutMoveSS args σ = some r := ev_go n_laws_markOutMoveSS rfl hl h
theorem l_laws_markOutMoveSS_0 {ks : List KI} {l : Fr} {σ : List AObj} {n0 : Nat} : rE fns fa_laws_markOutMoveSS n0 (.code lo_laws_markOutMoveSS_0 :: ks) l σ = rE fns fa_laws_markOutMoveSS n0 (.code lb_laws_markOutMoveSS_0 :: .code lo_laws_markOutMoveSS_0 :: ks) l σ := rE_loop
@[simp] theorem nt_laws_markOutMoveSSS : fa_laws_markOutMoveSSS.nt = 19 := rfl
@[simp] theorem rs_laws_markOutMoveSSS : fa_laws_markOutMoveSSS.rs = [.tmp 4] := rfl
@[simp] theorem fz_laws_markOutMoveSSS : fa_laws_markOutMoveSSS.fz = false := rfl
@[simp] theorem rsh_laws_markOutMoveSSS : fa_laws_markOutMoveSSS.rsh = .any := rfl
theorem go_laws_markOutMoveSSS {args : List PV} {σ : List AObj} {r : PV × List AObj} (hl : args.length ≤ 19) (h : rE fns fa_laws_markOutMoveSSS σ.length [.code ac_laws_markOutMoveSSS] (frA 0 args) σ = some r) : ev fns i_laws_markOutMoveSSS args σ = some r := ev_go n_laws_markOutMoveSSS rfl hl h
theorem l_laws_markOutMoveSSS_0 {ks : List KI} {l : Fr} {σ : List AObj} {n0 : Nat} : rE fns fa_laws_markOutMoveSSS n0 (.code lo_laws_markOutMoveSSS_0 :: ks) l σ = rE fns fa_laws_markOutMoveSSS n0 (.code lb_laws_markOutMoveSSS_0 :: .code lo_laws_markOutMoveSSS_0 :: ks) l σ := rE_loop
@[simp] theorem nt_laws_markRewriter : fa_laws_markRewriter.nt = 18 := rfl
@[simp] theorem rs_laws_markRewriter : fa_laws_markRewriter.rs = [.tmp 4] := rfl
@[simp] theorem fz_laws_markRewriter : fa_laws_markRewriter.fz = false := rfl
@[simp] theorem rsh_laws_markRewriter : fa_laws_markRewriter.rsh = .any := rfl
theorem go_laws_markRewriter {args : List PV} {σ : List AObj} {r : PV × List AObj} (hl : args.length ≤ 18) (h : rE fns fa_laws_markRewriter σ.length [.code ac_laws_markRewriter] (frA 0 args) σ = some r) : ev fns i_laws_markRewriter args σ = some r := ev_go n_laws_markRewriter rfl hl h
@[simp] theorem nt_laws_heldOutPushS : fa_laws_heldOutPushS.nt = 41 := rfl
@[simp] theorem rs_laws_heldOutPushS : fa_laws_heldOutPushS.rs = [.tmp 4] := rfl
@[simp] theorem fz_laws_heldOutPushS : fa_laws_heldOutPushS.fz = true := rfl
@[simp] theorem rsh_laws_heldOutPushS : fa_laws_heldOutPushS.rsh = .any := rfl
theorem go_laws_heldOutPushS {args : List PV} {σ : List AObj} {r : PV × List AObj} (hl : args.length ≤ 41) (h : rE fns fa_laws_heldOutPushS σ.length [.code ac_laws_heldOutPushS] (frA 0 args) σ = some r) : ev fns i_laws_heldOutPushS args σ = some r := ev_go n_laws_heldOutPushS rfl hl h
theorem l_laws_heldOutPushS_0 {ks : List KI} {l : Fr} {σ : List AObj} {n0 : Nat} : rE fns fa_laws_heldOutPushS n0 (.code lo_laws_heldOutPushS_0 :: ks) l σ = rE fns fa_laws_heldOutPushS n0 (.code lb_laws_heldOutPushS_0 :: .code lo_laws_heldOutPushS_0 :: ks) l σ := rE_loop
@[simp] theorem nt_laws_heldOutPushSS : fa_laws_heldOutPushSS.nt = 21 := rfl
@[simp] theorem rs_laws_heldOutPushSS : fa_laws_heldOutPushSS.rs = [.tmp 4] := rfl
@[simp] theorem fz_laws_heldOutPushSS : fa_laws_heldOutPushSS.fz = true := rfl
@[simp] theorem rsh_laws_heldOutPushSS : fa_laws_heldOutPushSS.rsh = .any := rfl
theorem go_laws_heldOutPushSS {args : List PV} {σ : List AObj} {r : PV × List AObj} (hl : args.length ≤ 21) (h : rE fns fa_laws_heldOutPushSS σ.length [.code ac_laws_heldOutPushSS] (frA 0 args) σ = some r) : ev fns i_laws_heldOutPushSS args σ = some r := ev_go n_laws_heldOutPushSS rfl hl h
theorem l_laws_heldOutPushSS_0 {ks : List KI} {l : Fr} {σ : List AObj} {n0 : Nat} : rE fns fa_laws_heldOutPushSS n0 (.code lo_laws_heldOutPushSS_0 :: ks) l σ = rE fns fa_laws_heldOutPushSS n0 (.code lb_laws_heldOutPushSS_0 :: .code lo_laws_heldOutPushSS_0 :: ks) l σ := rE_loop
@[simp] theorem nt_laws_heldOutMoveS : fa_laws_heldOutMoveS.nt = 32 := rfl
@[simp] theorem rs_laws_heldOutMoveS : fa_laws_heldOutMoveS.rs = [.tmp 4] := rfl
@[simp] theorem fz_laws_heldOutMoveS : fa_laws_heldOutMoveS.fz = true := rfl
@[simp] theorem rsh_laws_heldOutMoveS : fa_laws_heldOutMoveS.rsh = .any := rfl
theorem go_laws_heldOutMoveS {args : List PV} {σ : List AObj} {r : PV × List AObj} (hl : args.length ≤ 32) (h : rE fns fa_laws_heldOutMoveS σ.length [.code ac_laws_heldOutMoveS] (frA 0 args) σ = some r) : ev fns i_laws_heldOutMoveS args σ = some r := ev_go n_laws_heldOutMoveS rfl hl h
theorem l_laws_heldOutMoveS_0 {ks : List KI} {l : Fr} {σ : List AObj} {n0 : Nat} : rE fns fa_laws_heldOutMoveS n0 (.code lo_laws_heldOutMoveS_0 :: ks) l σ = rE fns fa_laws_heldOutMoveS n0 (.code lb_laws_heldOutMoveS_0 :: .code lo_laws_heldOutMoveS_0 :: ks) l σ := rE_loop
@[simp] theorem nt_laws_heldOutMoveSS : fa_laws_heldOutMoveSS.nt = 21 := rfl
@[simp] theorem rs_laws_heldOutMoveSS : fa_laws_heldOutMoveSS.rs = [.tmp 4] := rfl
@[simp] theorem fz_laws_heldOutMoveSS : fa_laws_heldOutMoveSS.fz = true := rfl
@[simp] theorem rsh_laws_heldOutMoveSS : fa_laws_heldOutMoveSS.rsh = .any := rfl
theorem go_laws_heldOutMoveSS {args : List PV} {σ : List AObj} {r : PV × List AObj} (hl : args.length ≤ 21) (h : rE fns fa_laws_heldOutMoveSS σ.length [.code ac_laws_heldOutMoveSS] (frA 0 args) σ = some r) : ev fns i_laws_heldOutMoveSS args σ = some r := ev_go n_laws_heldOutMoveSS rfl hl h
theorem l_laws_heldOutMoveSS_0 {ks : List KI} {l : Fr} {σ : List AObj} {n0 : Nat} : rE fns fa_laws_heldOutMoveSS n0 (.code lo_laws_heldOutMoveSS_0 :: ks) l σ = rE fns fa_laws_heldOutMoveSS n0 (.code lb_laws_heldOutMoveSS_0 :: .code lo_laws_heldOutMoveSS_0 :: ks) l σ := rE_loop
@[simp] theorem nt_laws_heldOutMoveSSS : fa_laws_heldOutMoveSSS.nt = 21 := rfl
@[simp] theorem rs_laws_heldOutMoveSSS : fa_laws_heldOutMoveSSS.rs = [.tmp 4] := rfl
@[simp] theorem fz_laws_heldOutMoveSSS : fa_laws_heldOutMoveSSS.fz = true := rfl
@[simp] theorem rsh_laws_heldOutMoveSSS : fa_laws_heldOutMoveSSS.rsh = .any := rfl
theorem go_laws_heldOutMoveSSS {args : List PV} {σ : List AObj} {r : PV × List AObj} (hl : args.length ≤ 21) (h : rE fns fa_laws_heldOutMoveSSS σ.length [.code ac_laws_heldOutMoveSSS] (frA 0 args) σ = some r) : ev fns i_laws_heldOutMoveSSS args σ = some r := ev_go n_laws_heldOutMoveSSS rfl hl h
theorem l_laws_heldOutMoveSSS_0 {ks : List KI} {l : Fr} {σ : List AObj} {n0 : Nat} : rE fns fa_laws_heldOutMoveSSS n0 (.code lo_laws_heldOutMoveSSS_0 :: ks) l σ = rE fns fa_laws_heldOutMoveSSS n0 (.code lb_laws_heldOutMoveSSS_0 :: .code lo_laws_heldOutMoveSSS_0 :: ks) l σ := rE_loop
@[simp] theorem nt_laws_heldRewriter : fa_laws_heldRewriter.nt = 24 := rfl
@[simp] theorem rs_laws_heldRewriter : fa_laws_heldRewriter.rs = [.tmp 4] := rfl
@[simp] theorem fz_laws_heldRewriter : fa_laws_heldRewriter.fz = true := rfl
@[simp] theorem rsh_laws_heldRewriter : fa_laws_heldRewriter.rsh = .any := rfl
theorem go_laws_heldRewriter {args : List PV} {σ : List AObj} {r : PV × List AObj} (hl : args.length ≤ 24) (h : rE fns fa_laws_heldRewriter σ.length [.code ac_laws_heldRewriter] (frA 0 args) σ = some r) : ev fns i_laws_heldRewriter args σ = some r := ev_go n_laws_heldRewriter rfl hl h
@[simp] theorem nt_laws_FnExactRenameRewriter : fa_laws_FnExactRenameRewriter.nt = 66 := rfl
@[simp] theorem rs_laws_FnExactRenameRewriter : fa_laws_FnExactRenameRewriter.rs = [.tmp 2] := rfl
@[simp] theorem fz_laws_FnExactRenameRewriter : fa_laws_FnExactRenameRewriter.fz = true := rfl
@[simp] theorem rsh_laws_FnExactRenameRewriter : fa_laws_FnExactRenameRewriter.rsh = .any := rfl
theorem go_laws_FnExactRenameRewriter {args : List PV} {σ : List AObj} {r : PV × List AObj} (hl : args.length ≤ 66) (h : rE fns fa_laws_FnExactRenameRewriter σ.length [.code ac_laws_FnExactRenameRewriter] (frA 0 args) σ = some r) : ev fns i_laws_FnExactRenameRewriter args σ = some r := ev_go n_laws_FnExactRenameRewriter rfl hl h
end Go.Proofs.Ytegjfjckijmgcaa
