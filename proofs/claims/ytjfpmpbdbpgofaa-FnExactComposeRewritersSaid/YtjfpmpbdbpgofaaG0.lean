/- The code of the functions, checked against the loaded program; printed by a program (gen2.py). -/
import Derived.Test.YtjfpmpbdbpgofaaProg
import Derived.Test.YtjfpmpbdbpgofaaAw25
set_option linter.unusedVariables false
set_option maxRecDepth 100000
namespace Go.Proofs.Ytjfpmpbdbpgofaa
open Aw

/-! The numbers of the functions. -/
def i_laws_FnExactComposeRewriters : FuncId := 8
def i_laws_szRewriter : FuncId := 39
def i_laws_toRewriter : FuncId := 41
def i_laws_eqRewriter : FuncId := 44
def i_laws_markRewriter : FuncId := 45
def i_spec_ComposeRewriters : FuncId := 53
def i_impl_ComposeRewriters : FuncId := 54
def i_laws_heldRewriter : FuncId := 55
def i_impl_ValidWord : FuncId := 62
def i_slices_Clone_L_int64 : FuncId := 65
def i_spec_l01Ok : FuncId := 67
def i_spec_l00In : FuncId := 80
def i_impl_within : FuncId := 87
def i_impl_match : FuncId := 88
def i_laws_szOutPushSS : FuncId := 105
def i_laws_szOutMoveSSS : FuncId := 106
def i_laws_szOutMoveSS : FuncId := 107
def i_spec_l06Ok : FuncId := 108
def i_spec_l06Reads : FuncId := 109
def i_spec_l00Own : FuncId := 110
def i_laws_toOutPushSS : FuncId := 111
def i_laws_toOutMoveSSS : FuncId := 112
def i_laws_toOutMoveSS : FuncId := 113
def i_impl_ValidRewriter : FuncId := 114
def i_impl_size_L_impl_OutPush : FuncId := 115
def i_impl_Rewriter_rewrite : FuncId := 117
def i_laws_eqOutPushSS : FuncId := 118
def i_laws_eqOutMoveSSS : FuncId := 119
def i_laws_eqOutMoveSS : FuncId := 120
def i_laws_markOutPushSS : FuncId := 121
def i_laws_markOutMoveSSS : FuncId := 122
def i_laws_markOutMoveSS : FuncId := 123
def i_spec_l06Structural : FuncId := 153
def i_impl_Rewriter_isStructural : FuncId := 154
def i_impl_builtRewriter : FuncId := 155
def i_impl_ComposeRewriters_1 : FuncId := 156
def i_impl_ComposeRewriters_2 : FuncId := 157
def i_impl_marksOf : FuncId := 158
def i_impl_ComposeRewriters_3 : FuncId := 159
def i_laws_heldOutPushSS : FuncId := 160
def i_laws_heldOutMoveSSS : FuncId := 161
def i_laws_heldOutMoveSS : FuncId := 162
def i_spec_l01Return : FuncId := 169
def i_spec_l01Call : FuncId := 170
def i_impl_size_int64 : FuncId := 175
def i_strings_IndexByte : FuncId := 177
def i_spec_l01Symbol : FuncId := 179
def i_spec_l01Partners : FuncId := 188
def i_impl_isReturn : FuncId := 196
def i_impl_isCall : FuncId := 197
def i_laws_markText : FuncId := 204
def i_laws_szOutPushS : FuncId := 228
def i_laws_szOutMoveS : FuncId := 229
def i_spec_l06Moves : FuncId := 230
def i_spec_l06Out : FuncId := 231
def i_P_spec_l06Run_read : FuncId := 232
def i_laws_toOutPushS : FuncId := 233
def i_laws_toOutMoveS : FuncId := 234
def i_impl_ValidRewriter_1 : FuncId := 235
def i_impl_isOut : FuncId := 236
def i_impl_ValidRewriter_2 : FuncId := 237
def i_impl_size_impl_OutMove : FuncId := 238
def i_slices_ContainsFunc_L_impl_OutMove : FuncId := 239
def i_impl_ValidRewriter_2_1 : FuncId := 240
def i_impl_size_L_L_impl_OutMove : FuncId := 241
def i_impl_size_L_impl_OutMove : FuncId := 242
def i_impl_kindOf : FuncId := 243
def i_impl_isInner : FuncId := 244
def i_P_strings_Builder_WriteString : FuncId := 245
def i_P_strings_Builder_String : FuncId := 246
def i_laws_eqOutPushS : FuncId := 247
def i_laws_eqOutMoveS : FuncId := 248
def i_laws_markOutPushS : FuncId := 249
def i_laws_markOutMoveS : FuncId := 250
def i_spec_l06Has : FuncId := 267
def i_impl_isPending : FuncId := 268
def i_impl_Rewriter_isStructural_1 : FuncId := 269
def i_laws_heldOutPushS : FuncId := 270
def i_laws_heldOutMoveS : FuncId := 271
def i_internal_stringslite_IndexByte : FuncId := 276
def i_laws_szOutPush : FuncId := 294
def i_laws_szOutMove : FuncId := 295
def i_laws_toOutPush : FuncId := 296
def i_laws_toOutMove : FuncId := 297
def i_slices_IndexFunc_L_impl_OutMove : FuncId := 298
def i_P_strings_Builder_copyCheck : FuncId := 299
def i_laws_eqOutPush : FuncId := 300
def i_laws_eqOutMove : FuncId := 301
def i_spec_l01Pending : FuncId := 310
def i_internal_bytealg_IndexByteString : FuncId := 311
def i_internal_abi_NoEscape : FuncId := 318

/-- The checked code of laws szOutPush. -/
def ac_laws_szOutPush : AC := (.seq (.post (.reg [⟨(some 2), .op (.box true (.tmp 0)), none⟩,
    ⟨(some 4), .op (.mv (.const (Value.int .i64 0))), none⟩]) (.kill [0, 4]))
  (.seq (.post (.reg [⟨(some 5), .op (.mv (.tmp 1)), none⟩,
    ⟨(some 6), .op (.faddr (.tmp 2) 2), none⟩,
    ⟨(some 7), .op (.load 1 false (.tmp 6)), none⟩,
    ⟨(some 8), .op (.len true (.tmp 7)), none⟩,
    ⟨(some 9), .op (.bin .sub (.tmp 5) (.tmp 8)), none⟩,
    ⟨(some 1), .op (.mv (.tmp 9)), none⟩]) (.kill [2, 5, 6, 7, 8, 9]))
  (.seq (.seq (.post (.reg [⟨(some 10), .op (.mv (.tmp 1)), none⟩,
    ⟨(some 11), .op (.bin .lss (.tmp 10) (.const (Value.int .i64 0))), none⟩]) (.kill [10]))
  (.cond (.tmp 11) (.ghost (.kill [1, 11]) (.seq (.reg [⟨(some 4), .op (.mv (.const (Value.int .i64 (-1)))), none⟩])
  .ret))
  (.ghost (.kill [11]) .skip)))
  (.seq (.post (.reg [⟨(some 12), .op (.mv (.tmp 1)), none⟩,
    ⟨(some 4), .op (.mv (.tmp 12)), none⟩]) (.kill [1, 12]))
  .ret))))
theorem cf_laws_szOutPush : chkFn Try.prog i_laws_szOutPush ac_laws_szOutPush [.tmp 4] 13 = true := by decide +kernel
def fa_laws_szOutPush : FnA := ⟨ac_laws_szOutPush, [.tmp 4], 13, false, true, [], .any, none⟩

/-- The checked code of laws szOutPushS. -/
def lb_laws_szOutPushS_0 : AC := (.seq (.seq (.post (.reg [⟨(some 12), .op (.mv (.tmp 5)), none⟩,
    ⟨(some 13), .op (.mv (.tmp 0)), none⟩,
    ⟨(some 14), .op (.len false (.tmp 13)), none⟩,
    ⟨(some 15), .op (.bin .lss (.tmp 12) (.tmp 14)), none⟩]) (.kill [12, 13, 14]))
  (.cond (.tmp 15) (.ghost (.kill [15]) .skip)
  (.ghost (.kill [0, 5, 15]) (.exit 0))))
  (.seq (.block 1 (.seq (.post (.reg [⟨(some 18), .op (.mv (.tmp 0)), none⟩,
    ⟨(some 19), .op (.mv (.tmp 5)), none⟩,
    ⟨(some 20), .op (.iaddrS (.tmp 18) (.tmp 19) 3), none⟩,
    ⟨(some 21), .op (.load 3 true (.tmp 20)), none⟩,
    ⟨(some 22), .op (.mv (.tmp 1)), none⟩,
    ⟨(some 23), .call (.func i_laws_szOutPush) [(.tmp 21), (.tmp 22)], none⟩,
    ⟨(some 1), .op (.mv (.tmp 23)), none⟩]) (.kill [18, 19, 20, 21, 22, 23]))
  (.seq (.post (.reg [⟨(some 24), .op (.mv (.tmp 1)), none⟩,
    ⟨(some 25), .op (.bin .lss (.tmp 24) (.const (Value.int .i64 0))), none⟩]) (.kill [24]))
  (.cond (.tmp 25) (.ghost (.kill [0, 1, 5, 25]) (.seq (.reg [⟨(some 4), .op (.mv (.const (Value.int .i64 (-1)))), none⟩])
  .ret))
  (.ghost (.kill [25]) .skip)))))
  (.post (.reg [⟨(some 16), .op (.mv (.tmp 5)), none⟩,
    ⟨(some 17), .op (.bin .add (.tmp 16) (.const (Value.int .i64 1))), none⟩,
    ⟨(some 5), .op (.mv (.tmp 17)), none⟩]) (.kill [16, 17]))))
def lo_laws_szOutPushS_0 : AC := (.loop lb_laws_szOutPushS_0)
def ac_laws_szOutPushS : AC := (.seq (.post (.reg [⟨(some 4), .op (.mv (.const (Value.int .i64 0))), none⟩]) (.kill [4]))
  (.seq (.post (.reg [⟨(some 6), .op (.mv (.tmp 1)), none⟩,
    ⟨(some 7), .op (.mv (.tmp 0)), none⟩,
    ⟨(some 8), .op (.len false (.tmp 7)), none⟩,
    ⟨(some 9), .op (.bin .sub (.tmp 6) (.tmp 8)), none⟩,
    ⟨(some 1), .op (.mv (.tmp 9)), none⟩]) (.kill [6, 7, 8, 9]))
  (.seq (.seq (.post (.reg [⟨(some 10), .op (.mv (.tmp 1)), none⟩,
    ⟨(some 11), .op (.bin .lss (.tmp 10) (.const (Value.int .i64 0))), none⟩]) (.kill [10]))
  (.cond (.tmp 11) (.ghost (.kill [0, 1, 11]) (.seq (.reg [⟨(some 4), .op (.mv (.const (Value.int .i64 (-1)))), none⟩])
  .ret))
  (.ghost (.kill [11]) .skip)))
  (.seq (.seq (.reg [⟨(some 5), .op (.mv (.const (Value.int .i64 0))), none⟩])
  (.block 0 lo_laws_szOutPushS_0))
  (.ghost (.kill [0, 5]) (.seq (.post (.reg [⟨(some 26), .op (.mv (.tmp 1)), none⟩,
    ⟨(some 4), .op (.mv (.tmp 26)), none⟩]) (.kill [1, 26]))
  .ret))))))
theorem cf_laws_szOutPushS : chkFn Try.prog i_laws_szOutPushS ac_laws_szOutPushS [.tmp 4] 27 = true := by decide +kernel
def fa_laws_szOutPushS : FnA := ⟨ac_laws_szOutPushS, [.tmp 4], 27, false, true, [], .any, none⟩

/-- The checked code of laws szOutPushSS. -/
def lb_laws_szOutPushSS_0 : AC := (.seq (.seq (.post (.reg [⟨(some 12), .op (.mv (.tmp 5)), none⟩,
    ⟨(some 13), .op (.mv (.tmp 0)), none⟩,
    ⟨(some 14), .op (.len false (.tmp 13)), none⟩,
    ⟨(some 15), .op (.bin .lss (.tmp 12) (.tmp 14)), none⟩]) (.kill [12, 13, 14]))
  (.cond (.tmp 15) (.ghost (.kill [15]) .skip)
  (.ghost (.kill [0, 5, 15]) (.exit 0))))
  (.seq (.block 1 (.seq (.post (.reg [⟨(some 18), .op (.mv (.tmp 0)), none⟩,
    ⟨(some 19), .op (.mv (.tmp 5)), none⟩,
    ⟨(some 20), .op (.iaddrS (.tmp 18) (.tmp 19) 1), none⟩,
    ⟨(some 21), .op (.load 1 false (.tmp 20)), none⟩,
    ⟨(some 22), .op (.mv (.tmp 1)), none⟩,
    ⟨(some 23), .call (.func i_laws_szOutPushS) [(.tmp 21), (.tmp 22)], none⟩,
    ⟨(some 1), .op (.mv (.tmp 23)), none⟩]) (.kill [18, 19, 20, 21, 22, 23]))
  (.seq (.post (.reg [⟨(some 24), .op (.mv (.tmp 1)), none⟩,
    ⟨(some 25), .op (.bin .lss (.tmp 24) (.const (Value.int .i64 0))), none⟩]) (.kill [24]))
  (.cond (.tmp 25) (.ghost (.kill [0, 1, 5, 25]) (.seq (.reg [⟨(some 4), .op (.mv (.const (Value.int .i64 (-1)))), none⟩])
  .ret))
  (.ghost (.kill [25]) .skip)))))
  (.post (.reg [⟨(some 16), .op (.mv (.tmp 5)), none⟩,
    ⟨(some 17), .op (.bin .add (.tmp 16) (.const (Value.int .i64 1))), none⟩,
    ⟨(some 5), .op (.mv (.tmp 17)), none⟩]) (.kill [16, 17]))))
def lo_laws_szOutPushSS_0 : AC := (.loop lb_laws_szOutPushSS_0)
def ac_laws_szOutPushSS : AC := (.seq (.post (.reg [⟨(some 4), .op (.mv (.const (Value.int .i64 0))), none⟩]) (.kill [4]))
  (.seq (.post (.reg [⟨(some 6), .op (.mv (.tmp 1)), none⟩,
    ⟨(some 7), .op (.mv (.tmp 0)), none⟩,
    ⟨(some 8), .op (.len false (.tmp 7)), none⟩,
    ⟨(some 9), .op (.bin .sub (.tmp 6) (.tmp 8)), none⟩,
    ⟨(some 1), .op (.mv (.tmp 9)), none⟩]) (.kill [6, 7, 8, 9]))
  (.seq (.seq (.post (.reg [⟨(some 10), .op (.mv (.tmp 1)), none⟩,
    ⟨(some 11), .op (.bin .lss (.tmp 10) (.const (Value.int .i64 0))), none⟩]) (.kill [10]))
  (.cond (.tmp 11) (.ghost (.kill [0, 1, 11]) (.seq (.reg [⟨(some 4), .op (.mv (.const (Value.int .i64 (-1)))), none⟩])
  .ret))
  (.ghost (.kill [11]) .skip)))
  (.seq (.seq (.reg [⟨(some 5), .op (.mv (.const (Value.int .i64 0))), none⟩])
  (.block 0 lo_laws_szOutPushSS_0))
  (.ghost (.kill [0, 5]) (.seq (.post (.reg [⟨(some 26), .op (.mv (.tmp 1)), none⟩,
    ⟨(some 4), .op (.mv (.tmp 26)), none⟩]) (.kill [1, 26]))
  .ret))))))
theorem cf_laws_szOutPushSS : chkFn Try.prog i_laws_szOutPushSS ac_laws_szOutPushSS [.tmp 4] 27 = true := by decide +kernel
def fa_laws_szOutPushSS : FnA := ⟨ac_laws_szOutPushSS, [.tmp 4], 27, false, true, [], .any, none⟩

/-- The checked code of laws szOutMove. -/
def ac_laws_szOutMove : AC := (.seq (.post (.reg [⟨(some 2), .op (.box true (.tmp 0)), none⟩,
    ⟨(some 4), .op (.mv (.const (Value.int .i64 0))), none⟩]) (.kill [0, 4]))
  (.seq (.post (.reg [⟨(some 5), .op (.mv (.tmp 1)), none⟩,
    ⟨(some 6), .op (.faddr (.tmp 2) 1), none⟩,
    ⟨(some 7), .op (.load 1 false (.tmp 6)), none⟩,
    ⟨(some 8), .op (.len true (.tmp 7)), none⟩,
    ⟨(some 9), .op (.bin .sub (.tmp 5) (.tmp 8)), none⟩,
    ⟨(some 1), .op (.mv (.tmp 9)), none⟩]) (.kill [2, 5, 6, 7, 8, 9]))
  (.seq (.seq (.post (.reg [⟨(some 10), .op (.mv (.tmp 1)), none⟩,
    ⟨(some 11), .op (.bin .lss (.tmp 10) (.const (Value.int .i64 0))), none⟩]) (.kill [10]))
  (.cond (.tmp 11) (.ghost (.kill [1, 11]) (.seq (.reg [⟨(some 4), .op (.mv (.const (Value.int .i64 (-1)))), none⟩])
  .ret))
  (.ghost (.kill [11]) .skip)))
  (.seq (.post (.reg [⟨(some 12), .op (.mv (.tmp 1)), none⟩,
    ⟨(some 4), .op (.mv (.tmp 12)), none⟩]) (.kill [1, 12]))
  .ret))))
theorem cf_laws_szOutMove : chkFn Try.prog i_laws_szOutMove ac_laws_szOutMove [.tmp 4] 13 = true := by decide +kernel
def fa_laws_szOutMove : FnA := ⟨ac_laws_szOutMove, [.tmp 4], 13, false, true, [], .any, none⟩

/-- The checked code of laws szOutMoveS. -/
def lb_laws_szOutMoveS_0 : AC := (.seq (.seq (.post (.reg [⟨(some 12), .op (.mv (.tmp 5)), none⟩,
    ⟨(some 13), .op (.mv (.tmp 0)), none⟩,
    ⟨(some 14), .op (.len false (.tmp 13)), none⟩,
    ⟨(some 15), .op (.bin .lss (.tmp 12) (.tmp 14)), none⟩]) (.kill [12, 13, 14]))
  (.cond (.tmp 15) (.ghost (.kill [15]) .skip)
  (.ghost (.kill [0, 5, 15]) (.exit 0))))
  (.seq (.block 1 (.seq (.post (.reg [⟨(some 18), .op (.mv (.tmp 0)), none⟩,
    ⟨(some 19), .op (.mv (.tmp 5)), none⟩,
    ⟨(some 20), .op (.iaddrS (.tmp 18) (.tmp 19) 2), none⟩,
    ⟨(some 21), .op (.load 2 true (.tmp 20)), none⟩,
    ⟨(some 22), .op (.mv (.tmp 1)), none⟩,
    ⟨(some 23), .call (.func i_laws_szOutMove) [(.tmp 21), (.tmp 22)], none⟩,
    ⟨(some 1), .op (.mv (.tmp 23)), none⟩]) (.kill [18, 19, 20, 21, 22, 23]))
  (.seq (.post (.reg [⟨(some 24), .op (.mv (.tmp 1)), none⟩,
    ⟨(some 25), .op (.bin .lss (.tmp 24) (.const (Value.int .i64 0))), none⟩]) (.kill [24]))
  (.cond (.tmp 25) (.ghost (.kill [0, 1, 5, 25]) (.seq (.reg [⟨(some 4), .op (.mv (.const (Value.int .i64 (-1)))), none⟩])
  .ret))
  (.ghost (.kill [25]) .skip)))))
  (.post (.reg [⟨(some 16), .op (.mv (.tmp 5)), none⟩,
    ⟨(some 17), .op (.bin .add (.tmp 16) (.const (Value.int .i64 1))), none⟩,
    ⟨(some 5), .op (.mv (.tmp 17)), none⟩]) (.kill [16, 17]))))
def lo_laws_szOutMoveS_0 : AC := (.loop lb_laws_szOutMoveS_0)
def ac_laws_szOutMoveS : AC := (.seq (.post (.reg [⟨(some 4), .op (.mv (.const (Value.int .i64 0))), none⟩]) (.kill [4]))
  (.seq (.post (.reg [⟨(some 6), .op (.mv (.tmp 1)), none⟩,
    ⟨(some 7), .op (.mv (.tmp 0)), none⟩,
    ⟨(some 8), .op (.len false (.tmp 7)), none⟩,
    ⟨(some 9), .op (.bin .sub (.tmp 6) (.tmp 8)), none⟩,
    ⟨(some 1), .op (.mv (.tmp 9)), none⟩]) (.kill [6, 7, 8, 9]))
  (.seq (.seq (.post (.reg [⟨(some 10), .op (.mv (.tmp 1)), none⟩,
    ⟨(some 11), .op (.bin .lss (.tmp 10) (.const (Value.int .i64 0))), none⟩]) (.kill [10]))
  (.cond (.tmp 11) (.ghost (.kill [0, 1, 11]) (.seq (.reg [⟨(some 4), .op (.mv (.const (Value.int .i64 (-1)))), none⟩])
  .ret))
  (.ghost (.kill [11]) .skip)))
  (.seq (.seq (.reg [⟨(some 5), .op (.mv (.const (Value.int .i64 0))), none⟩])
  (.block 0 lo_laws_szOutMoveS_0))
  (.ghost (.kill [0, 5]) (.seq (.post (.reg [⟨(some 26), .op (.mv (.tmp 1)), none⟩,
    ⟨(some 4), .op (.mv (.tmp 26)), none⟩]) (.kill [1, 26]))
  .ret))))))
theorem cf_laws_szOutMoveS : chkFn Try.prog i_laws_szOutMoveS ac_laws_szOutMoveS [.tmp 4] 27 = true := by decide +kernel
def fa_laws_szOutMoveS : FnA := ⟨ac_laws_szOutMoveS, [.tmp 4], 27, false, true, [], .any, none⟩

/-- The checked code of laws szOutMoveSS. -/
def lb_laws_szOutMoveSS_0 : AC := (.seq (.seq (.post (.reg [⟨(some 12), .op (.mv (.tmp 5)), none⟩,
    ⟨(some 13), .op (.mv (.tmp 0)), none⟩,
    ⟨(some 14), .op (.len false (.tmp 13)), none⟩,
    ⟨(some 15), .op (.bin .lss (.tmp 12) (.tmp 14)), none⟩]) (.kill [12, 13, 14]))
  (.cond (.tmp 15) (.ghost (.kill [15]) .skip)
  (.ghost (.kill [0, 5, 15]) (.exit 0))))
  (.seq (.block 1 (.seq (.post (.reg [⟨(some 18), .op (.mv (.tmp 0)), none⟩,
    ⟨(some 19), .op (.mv (.tmp 5)), none⟩,
    ⟨(some 20), .op (.iaddrS (.tmp 18) (.tmp 19) 1), none⟩,
    ⟨(some 21), .op (.load 1 false (.tmp 20)), none⟩,
    ⟨(some 22), .op (.mv (.tmp 1)), none⟩,
    ⟨(some 23), .call (.func i_laws_szOutMoveS) [(.tmp 21), (.tmp 22)], none⟩,
    ⟨(some 1), .op (.mv (.tmp 23)), none⟩]) (.kill [18, 19, 20, 21, 22, 23]))
  (.seq (.post (.reg [⟨(some 24), .op (.mv (.tmp 1)), none⟩,
    ⟨(some 25), .op (.bin .lss (.tmp 24) (.const (Value.int .i64 0))), none⟩]) (.kill [24]))
  (.cond (.tmp 25) (.ghost (.kill [0, 1, 5, 25]) (.seq (.reg [⟨(some 4), .op (.mv (.const (Value.int .i64 (-1)))), none⟩])
  .ret))
  (.ghost (.kill [25]) .skip)))))
  (.post (.reg [⟨(some 16), .op (.mv (.tmp 5)), none⟩,
    ⟨(some 17), .op (.bin .add (.tmp 16) (.const (Value.int .i64 1))), none⟩,
    ⟨(some 5), .op (.mv (.tmp 17)), none⟩]) (.kill [16, 17]))))
def lo_laws_szOutMoveSS_0 : AC := (.loop lb_laws_szOutMoveSS_0)
def ac_laws_szOutMoveSS : AC := (.seq (.post (.reg [⟨(some 4), .op (.mv (.const (Value.int .i64 0))), none⟩]) (.kill [4]))
  (.seq (.post (.reg [⟨(some 6), .op (.mv (.tmp 1)), none⟩,
    ⟨(some 7), .op (.mv (.tmp 0)), none⟩,
    ⟨(some 8), .op (.len false (.tmp 7)), none⟩,
    ⟨(some 9), .op (.bin .sub (.tmp 6) (.tmp 8)), none⟩,
    ⟨(some 1), .op (.mv (.tmp 9)), none⟩]) (.kill [6, 7, 8, 9]))
  (.seq (.seq (.post (.reg [⟨(some 10), .op (.mv (.tmp 1)), none⟩,
    ⟨(some 11), .op (.bin .lss (.tmp 10) (.const (Value.int .i64 0))), none⟩]) (.kill [10]))
  (.cond (.tmp 11) (.ghost (.kill [0, 1, 11]) (.seq (.reg [⟨(some 4), .op (.mv (.const (Value.int .i64 (-1)))), none⟩])
  .ret))
  (.ghost (.kill [11]) .skip)))
  (.seq (.seq (.reg [⟨(some 5), .op (.mv (.const (Value.int .i64 0))), none⟩])
  (.block 0 lo_laws_szOutMoveSS_0))
  (.ghost (.kill [0, 5]) (.seq (.post (.reg [⟨(some 26), .op (.mv (.tmp 1)), none⟩,
    ⟨(some 4), .op (.mv (.tmp 26)), none⟩]) (.kill [1, 26]))
  .ret))))))
theorem cf_laws_szOutMoveSS : chkFn Try.prog i_laws_szOutMoveSS ac_laws_szOutMoveSS [.tmp 4] 27 = true := by decide +kernel
def fa_laws_szOutMoveSS : FnA := ⟨ac_laws_szOutMoveSS, [.tmp 4], 27, false, true, [], .any, none⟩

/-- The checked code of laws szOutMoveSSS. -/
def lb_laws_szOutMoveSSS_0 : AC := (.seq (.seq (.post (.reg [⟨(some 12), .op (.mv (.tmp 5)), none⟩,
    ⟨(some 13), .op (.mv (.tmp 0)), none⟩,
    ⟨(some 14), .op (.len false (.tmp 13)), none⟩,
    ⟨(some 15), .op (.bin .lss (.tmp 12) (.tmp 14)), none⟩]) (.kill [12, 13, 14]))
  (.cond (.tmp 15) (.ghost (.kill [15]) .skip)
  (.ghost (.kill [0, 5, 15]) (.exit 0))))
  (.seq (.block 1 (.seq (.post (.reg [⟨(some 18), .op (.mv (.tmp 0)), none⟩,
    ⟨(some 19), .op (.mv (.tmp 5)), none⟩,
    ⟨(some 20), .op (.iaddrS (.tmp 18) (.tmp 19) 1), none⟩,
    ⟨(some 21), .op (.load 1 false (.tmp 20)), none⟩,
    ⟨(some 22), .op (.mv (.tmp 1)), none⟩,
    ⟨(some 23), .call (.func i_laws_szOutMoveSS) [(.tmp 21), (.tmp 22)], none⟩,
    ⟨(some 1), .op (.mv (.tmp 23)), none⟩]) (.kill [18, 19, 20, 21, 22, 23]))
  (.seq (.post (.reg [⟨(some 24), .op (.mv (.tmp 1)), none⟩,
    ⟨(some 25), .op (.bin .lss (.tmp 24) (.const (Value.int .i64 0))), none⟩]) (.kill [24]))
  (.cond (.tmp 25) (.ghost (.kill [0, 1, 5, 25]) (.seq (.reg [⟨(some 4), .op (.mv (.const (Value.int .i64 (-1)))), none⟩])
  .ret))
  (.ghost (.kill [25]) .skip)))))
  (.post (.reg [⟨(some 16), .op (.mv (.tmp 5)), none⟩,
    ⟨(some 17), .op (.bin .add (.tmp 16) (.const (Value.int .i64 1))), none⟩,
    ⟨(some 5), .op (.mv (.tmp 17)), none⟩]) (.kill [16, 17]))))
def lo_laws_szOutMoveSSS_0 : AC := (.loop lb_laws_szOutMoveSSS_0)
def ac_laws_szOutMoveSSS : AC := (.seq (.post (.reg [⟨(some 4), .op (.mv (.const (Value.int .i64 0))), none⟩]) (.kill [4]))
  (.seq (.post (.reg [⟨(some 6), .op (.mv (.tmp 1)), none⟩,
    ⟨(some 7), .op (.mv (.tmp 0)), none⟩,
    ⟨(some 8), .op (.len false (.tmp 7)), none⟩,
    ⟨(some 9), .op (.bin .sub (.tmp 6) (.tmp 8)), none⟩,
    ⟨(some 1), .op (.mv (.tmp 9)), none⟩]) (.kill [6, 7, 8, 9]))
  (.seq (.seq (.post (.reg [⟨(some 10), .op (.mv (.tmp 1)), none⟩,
    ⟨(some 11), .op (.bin .lss (.tmp 10) (.const (Value.int .i64 0))), none⟩]) (.kill [10]))
  (.cond (.tmp 11) (.ghost (.kill [0, 1, 11]) (.seq (.reg [⟨(some 4), .op (.mv (.const (Value.int .i64 (-1)))), none⟩])
  .ret))
  (.ghost (.kill [11]) .skip)))
  (.seq (.seq (.reg [⟨(some 5), .op (.mv (.const (Value.int .i64 0))), none⟩])
  (.block 0 lo_laws_szOutMoveSSS_0))
  (.ghost (.kill [0, 5]) (.seq (.post (.reg [⟨(some 26), .op (.mv (.tmp 1)), none⟩,
    ⟨(some 4), .op (.mv (.tmp 26)), none⟩]) (.kill [1, 26]))
  .ret))))))
theorem cf_laws_szOutMoveSSS : chkFn Try.prog i_laws_szOutMoveSSS ac_laws_szOutMoveSSS [.tmp 4] 27 = true := by decide +kernel
def fa_laws_szOutMoveSSS : FnA := ⟨ac_laws_szOutMoveSSS, [.tmp 4], 27, false, true, [], .any, none⟩

/-- The checked code of laws szRewriter. -/
def ac_laws_szRewriter : AC := (.seq (.post (.reg [⟨(some 2), .op (.box true (.tmp 0)), none⟩,
    ⟨(some 4), .op (.mv (.const (Value.int .i64 0))), none⟩]) (.kill [0, 4]))
  (.seq (.post (.reg [⟨(some 5), .op (.faddr (.tmp 2) 2), none⟩,
    ⟨(some 6), .op (.load 1 false (.tmp 5)), none⟩,
    ⟨(some 7), .op (.mv (.tmp 1)), none⟩,
    ⟨(some 8), .call (.func i_laws_szOutPushSS) [(.tmp 6), (.tmp 7)], none⟩,
    ⟨(some 1), .op (.mv (.tmp 8)), none⟩]) (.kill [5, 6, 7, 8]))
  (.seq (.seq (.post (.reg [⟨(some 9), .op (.mv (.tmp 1)), none⟩,
    ⟨(some 10), .op (.bin .lss (.tmp 9) (.const (Value.int .i64 0))), none⟩]) (.kill [9]))
  (.cond (.tmp 10) (.ghost (.kill [1, 2, 10]) (.seq (.reg [⟨(some 4), .op (.mv (.const (Value.int .i64 (-1)))), none⟩])
  .ret))
  (.ghost (.kill [10]) .skip)))
  (.seq (.post (.reg [⟨(some 11), .op (.faddr (.tmp 2) 3), none⟩,
    ⟨(some 12), .op (.load 1 false (.tmp 11)), none⟩,
    ⟨(some 13), .op (.mv (.tmp 1)), none⟩,
    ⟨(some 14), .call (.func i_laws_szOutMoveSSS) [(.tmp 12), (.tmp 13)], none⟩,
    ⟨(some 1), .op (.mv (.tmp 14)), none⟩]) (.kill [11, 12, 13, 14]))
  (.seq (.seq (.post (.reg [⟨(some 15), .op (.mv (.tmp 1)), none⟩,
    ⟨(some 16), .op (.bin .lss (.tmp 15) (.const (Value.int .i64 0))), none⟩]) (.kill [15]))
  (.cond (.tmp 16) (.ghost (.kill [1, 2, 16]) (.seq (.reg [⟨(some 4), .op (.mv (.const (Value.int .i64 (-1)))), none⟩])
  .ret))
  (.ghost (.kill [16]) .skip)))
  (.seq (.post (.reg [⟨(some 17), .op (.faddr (.tmp 2) 4), none⟩,
    ⟨(some 18), .op (.load 1 false (.tmp 17)), none⟩,
    ⟨(some 19), .op (.mv (.tmp 1)), none⟩,
    ⟨(some 20), .call (.func i_laws_szOutMoveSS) [(.tmp 18), (.tmp 19)], none⟩,
    ⟨(some 1), .op (.mv (.tmp 20)), none⟩]) (.kill [2, 17, 18, 19, 20]))
  (.seq (.seq (.post (.reg [⟨(some 21), .op (.mv (.tmp 1)), none⟩,
    ⟨(some 22), .op (.bin .lss (.tmp 21) (.const (Value.int .i64 0))), none⟩]) (.kill [21]))
  (.cond (.tmp 22) (.ghost (.kill [1, 22]) (.seq (.reg [⟨(some 4), .op (.mv (.const (Value.int .i64 (-1)))), none⟩])
  .ret))
  (.ghost (.kill [22]) .skip)))
  (.seq (.post (.reg [⟨(some 23), .op (.mv (.tmp 1)), none⟩,
    ⟨(some 4), .op (.mv (.tmp 23)), none⟩]) (.kill [1, 23]))
  .ret))))))))
theorem cf_laws_szRewriter : chkFn Try.prog i_laws_szRewriter ac_laws_szRewriter [.tmp 4] 24 = true := by decide +kernel
def fa_laws_szRewriter : FnA := ⟨ac_laws_szRewriter, [.tmp 4], 24, false, true, [], .any, none⟩

/-- The checked code of laws toOutPush. -/
def ac_laws_toOutPush : AC := (.seq (.post (.reg [⟨(some 1), .op (.box true (.tmp 0)), none⟩,
    ⟨(some 2), .op (.alloc (Value.agg #[Value.int .i64 0, Value.int .i64 0, Value.string ⟨#[]⟩])), none⟩]) (.kill [0]))
  (.seq (.reg [⟨(some 3), .op (.alloc (Value.agg #[Value.int .i64 0, Value.int .i64 0, Value.string ⟨#[]⟩])), none⟩])
  (.seq (.post (.reg [⟨(some 4), .op (.faddr (.tmp 1) 0), none⟩,
    ⟨(some 5), .op (.load 1 false (.tmp 4)), none⟩,
    ⟨(some 6), .op (.faddr (.tmp 3) 0), none⟩,
    ⟨none, .op (.store 1 (.tmp 6) (.tmp 5)), none⟩]) (.kill [4, 5, 6]))
  (.seq (.post (.reg [⟨(some 7), .op (.faddr (.tmp 1) 1), none⟩,
    ⟨(some 8), .op (.load 1 false (.tmp 7)), none⟩,
    ⟨(some 9), .op (.faddr (.tmp 3) 1), none⟩,
    ⟨none, .op (.store 1 (.tmp 9) (.tmp 8)), none⟩]) (.kill [7, 8, 9]))
  (.seq (.post (.reg [⟨(some 10), .op (.faddr (.tmp 1) 2), none⟩,
    ⟨(some 11), .op (.load 1 false (.tmp 10)), none⟩,
    ⟨(some 12), .op (.faddr (.tmp 3) 2), none⟩,
    ⟨none, .op (.store 1 (.tmp 12) (.tmp 11)), none⟩]) (.kill [1, 10, 11, 12]))
  (.seq (.post (.reg [⟨(some 13), .op (.load 3 true (.tmp 3)), none⟩,
    ⟨none, .op (.store 3 (.tmp 2) (.tmp 13)), none⟩]) (.kill [3, 13]))
  .ret))))))
theorem cf_laws_toOutPush : chkFn Try.prog i_laws_toOutPush ac_laws_toOutPush [.cell 2 3 true] 14 = true := by decide +kernel
def fa_laws_toOutPush : FnA := ⟨ac_laws_toOutPush, [.cell 2 3 true], 14, false, false, [], .any, none⟩

/-- The checked code of laws toOutPushS. -/
def lb_laws_toOutPushS_0 : AC := (.seq (.seq (.post (.reg [⟨(some 8), .op (.mv (.tmp 4)), none⟩,
    ⟨(some 9), .op (.mv (.tmp 0)), none⟩,
    ⟨(some 10), .op (.len false (.tmp 9)), none⟩,
    ⟨(some 11), .op (.bin .lss (.tmp 8) (.tmp 10)), none⟩]) (.kill [8, 9, 10]))
  (.cond (.tmp 11) (.ghost (.kill [11]) .skip)
  (.ghost (.kill [0, 4, 11]) (.exit 0))))
  (.seq (.block 1 (.post (.reg [⟨(some 14), .op (.mv (.tmp 3)), none⟩,
    ⟨(some 15), .op (.mv (.tmp 4)), none⟩,
    ⟨(some 16), .op (.mv (.tmp 0)), none⟩,
    ⟨(some 17), .op (.mv (.tmp 4)), none⟩,
    ⟨(some 18), .op (.iaddrS (.tmp 16) (.tmp 17) 3), none⟩,
    ⟨(some 19), .op (.load 3 true (.tmp 18)), none⟩,
    ⟨(some 20), .call (.func i_laws_toOutPush) [(.tmp 19)], none⟩,
    ⟨(some 21), .op (.iaddrS (.tmp 14) (.tmp 15) 3), none⟩,
    ⟨none, .op (.store 3 (.tmp 21) (.tmp 20)), none⟩]) (.kill [14, 15, 16, 17, 18, 19, 20, 21])))
  (.post (.reg [⟨(some 12), .op (.mv (.tmp 4)), none⟩,
    ⟨(some 13), .op (.bin .add (.tmp 12) (.const (Value.int .i64 1))), none⟩,
    ⟨(some 4), .op (.mv (.tmp 13)), none⟩]) (.kill [12, 13]))))
def lo_laws_toOutPushS_0 : AC := (.loop lb_laws_toOutPushS_0)
def ac_laws_toOutPushS : AC := (.seq (.post (.reg [⟨(some 2), .op (.mv (.const (Value.slice none 0 0))), none⟩]) (.kill [2]))
  (.seq (.post (.reg [⟨(some 5), .op (.mv (.tmp 0)), none⟩,
    ⟨(some 6), .op (.len false (.tmp 5)), none⟩,
    ⟨(some 7), .op (.make (.tmp 6) (.tmp 6) 3 32 (Value.agg #[Value.int .i64 0, Value.int .i64 0, Value.string ⟨#[]⟩])), none⟩,
    ⟨(some 3), .op (.mv (.tmp 7)), none⟩]) (.kill [5, 6, 7]))
  (.seq (.seq (.reg [⟨(some 4), .op (.mv (.const (Value.int .i64 0))), none⟩])
  (.block 0 lo_laws_toOutPushS_0))
  (.ghost (.kill [0, 4]) (.seq (.post (.reg [⟨(some 22), .op (.mv (.tmp 3)), none⟩,
    ⟨(some 2), .op (.mv (.tmp 22)), none⟩]) (.kill [3, 22]))
  .ret)))))
theorem cf_laws_toOutPushS : chkFn Try.prog i_laws_toOutPushS ac_laws_toOutPushS [.tmp 2] 23 = true := by decide +kernel
def fa_laws_toOutPushS : FnA := ⟨ac_laws_toOutPushS, [.tmp 2], 23, false, false, [], .any, none⟩

/-- The checked code of laws toOutPushSS. -/
def lb_laws_toOutPushSS_0 : AC := (.seq (.seq (.post (.reg [⟨(some 8), .op (.mv (.tmp 4)), none⟩,
    ⟨(some 9), .op (.mv (.tmp 0)), none⟩,
    ⟨(some 10), .op (.len false (.tmp 9)), none⟩,
    ⟨(some 11), .op (.bin .lss (.tmp 8) (.tmp 10)), none⟩]) (.kill [8, 9, 10]))
  (.cond (.tmp 11) (.ghost (.kill [11]) .skip)
  (.ghost (.kill [0, 4, 11]) (.exit 0))))
  (.seq (.block 1 (.post (.reg [⟨(some 14), .op (.mv (.tmp 3)), none⟩,
    ⟨(some 15), .op (.mv (.tmp 4)), none⟩,
    ⟨(some 16), .op (.mv (.tmp 0)), none⟩,
    ⟨(some 17), .op (.mv (.tmp 4)), none⟩,
    ⟨(some 18), .op (.iaddrS (.tmp 16) (.tmp 17) 1), none⟩,
    ⟨(some 19), .op (.load 1 false (.tmp 18)), none⟩,
    ⟨(some 20), .call (.func i_laws_toOutPushS) [(.tmp 19)], none⟩,
    ⟨(some 21), .op (.iaddrS (.tmp 14) (.tmp 15) 1), none⟩,
    ⟨none, .op (.store 1 (.tmp 21) (.tmp 20)), none⟩]) (.kill [14, 15, 16, 17, 18, 19, 20, 21])))
  (.post (.reg [⟨(some 12), .op (.mv (.tmp 4)), none⟩,
    ⟨(some 13), .op (.bin .add (.tmp 12) (.const (Value.int .i64 1))), none⟩,
    ⟨(some 4), .op (.mv (.tmp 13)), none⟩]) (.kill [12, 13]))))
def lo_laws_toOutPushSS_0 : AC := (.loop lb_laws_toOutPushSS_0)
def ac_laws_toOutPushSS : AC := (.seq (.post (.reg [⟨(some 2), .op (.mv (.const (Value.slice none 0 0))), none⟩]) (.kill [2]))
  (.seq (.post (.reg [⟨(some 5), .op (.mv (.tmp 0)), none⟩,
    ⟨(some 6), .op (.len false (.tmp 5)), none⟩,
    ⟨(some 7), .op (.make (.tmp 6) (.tmp 6) 1 24 (Value.slice none 0 0)), none⟩,
    ⟨(some 3), .op (.mv (.tmp 7)), none⟩]) (.kill [5, 6, 7]))
  (.seq (.seq (.reg [⟨(some 4), .op (.mv (.const (Value.int .i64 0))), none⟩])
  (.block 0 lo_laws_toOutPushSS_0))
  (.ghost (.kill [0, 4]) (.seq (.post (.reg [⟨(some 22), .op (.mv (.tmp 3)), none⟩,
    ⟨(some 2), .op (.mv (.tmp 22)), none⟩]) (.kill [3, 22]))
  .ret)))))
theorem cf_laws_toOutPushSS : chkFn Try.prog i_laws_toOutPushSS ac_laws_toOutPushSS [.tmp 2] 23 = true := by decide +kernel
def fa_laws_toOutPushSS : FnA := ⟨ac_laws_toOutPushSS, [.tmp 2], 23, false, false, [], .any, none⟩

/-- The checked code of laws toOutMove. -/
def ac_laws_toOutMove : AC := (.seq (.post (.reg [⟨(some 1), .op (.box true (.tmp 0)), none⟩,
    ⟨(some 2), .op (.alloc (Value.agg #[Value.int .i64 0, Value.string ⟨#[]⟩])), none⟩]) (.kill [0]))
  (.seq (.reg [⟨(some 3), .op (.alloc (Value.agg #[Value.int .i64 0, Value.string ⟨#[]⟩])), none⟩])
  (.seq (.post (.reg [⟨(some 4), .op (.faddr (.tmp 1) 0), none⟩,
    ⟨(some 5), .op (.load 1 false (.tmp 4)), none⟩,
    ⟨(some 6), .op (.faddr (.tmp 3) 0), none⟩,
    ⟨none, .op (.store 1 (.tmp 6) (.tmp 5)), none⟩]) (.kill [4, 5, 6]))
  (.seq (.post (.reg [⟨(some 7), .op (.faddr (.tmp 1) 1), none⟩,
    ⟨(some 8), .op (.load 1 false (.tmp 7)), none⟩,
    ⟨(some 9), .op (.faddr (.tmp 3) 1), none⟩,
    ⟨none, .op (.store 1 (.tmp 9) (.tmp 8)), none⟩]) (.kill [1, 7, 8, 9]))
  (.seq (.post (.reg [⟨(some 10), .op (.load 2 true (.tmp 3)), none⟩,
    ⟨none, .op (.store 2 (.tmp 2) (.tmp 10)), none⟩]) (.kill [3, 10]))
  .ret)))))
theorem cf_laws_toOutMove : chkFn Try.prog i_laws_toOutMove ac_laws_toOutMove [.cell 2 2 true] 11 = true := by decide +kernel
def fa_laws_toOutMove : FnA := ⟨ac_laws_toOutMove, [.cell 2 2 true], 11, false, false, [], .any, none⟩

/-- The checked code of laws toOutMoveS. -/
def lb_laws_toOutMoveS_0 : AC := (.seq (.seq (.post (.reg [⟨(some 8), .op (.mv (.tmp 4)), none⟩,
    ⟨(some 9), .op (.mv (.tmp 0)), none⟩,
    ⟨(some 10), .op (.len false (.tmp 9)), none⟩,
    ⟨(some 11), .op (.bin .lss (.tmp 8) (.tmp 10)), none⟩]) (.kill [8, 9, 10]))
  (.cond (.tmp 11) (.ghost (.kill [11]) .skip)
  (.ghost (.kill [0, 4, 11]) (.exit 0))))
  (.seq (.block 1 (.post (.reg [⟨(some 14), .op (.mv (.tmp 3)), none⟩,
    ⟨(some 15), .op (.mv (.tmp 4)), none⟩,
    ⟨(some 16), .op (.mv (.tmp 0)), none⟩,
    ⟨(some 17), .op (.mv (.tmp 4)), none⟩,
    ⟨(some 18), .op (.iaddrS (.tmp 16) (.tmp 17) 2), none⟩,
    ⟨(some 19), .op (.load 2 true (.tmp 18)), none⟩,
    ⟨(some 20), .call (.func i_laws_toOutMove) [(.tmp 19)], none⟩,
    ⟨(some 21), .op (.iaddrS (.tmp 14) (.tmp 15) 2), none⟩,
    ⟨none, .op (.store 2 (.tmp 21) (.tmp 20)), none⟩]) (.kill [14, 15, 16, 17, 18, 19, 20, 21])))
  (.post (.reg [⟨(some 12), .op (.mv (.tmp 4)), none⟩,
    ⟨(some 13), .op (.bin .add (.tmp 12) (.const (Value.int .i64 1))), none⟩,
    ⟨(some 4), .op (.mv (.tmp 13)), none⟩]) (.kill [12, 13]))))
def lo_laws_toOutMoveS_0 : AC := (.loop lb_laws_toOutMoveS_0)
def ac_laws_toOutMoveS : AC := (.seq (.post (.reg [⟨(some 2), .op (.mv (.const (Value.slice none 0 0))), none⟩]) (.kill [2]))
  (.seq (.post (.reg [⟨(some 5), .op (.mv (.tmp 0)), none⟩,
    ⟨(some 6), .op (.len false (.tmp 5)), none⟩,
    ⟨(some 7), .op (.make (.tmp 6) (.tmp 6) 2 24 (Value.agg #[Value.int .i64 0, Value.string ⟨#[]⟩])), none⟩,
    ⟨(some 3), .op (.mv (.tmp 7)), none⟩]) (.kill [5, 6, 7]))
  (.seq (.seq (.reg [⟨(some 4), .op (.mv (.const (Value.int .i64 0))), none⟩])
  (.block 0 lo_laws_toOutMoveS_0))
  (.ghost (.kill [0, 4]) (.seq (.post (.reg [⟨(some 22), .op (.mv (.tmp 3)), none⟩,
    ⟨(some 2), .op (.mv (.tmp 22)), none⟩]) (.kill [3, 22]))
  .ret)))))
theorem cf_laws_toOutMoveS : chkFn Try.prog i_laws_toOutMoveS ac_laws_toOutMoveS [.tmp 2] 23 = true := by decide +kernel
def fa_laws_toOutMoveS : FnA := ⟨ac_laws_toOutMoveS, [.tmp 2], 23, false, false, [], .any, none⟩

/-- The checked code of laws toOutMoveSS. -/
def lb_laws_toOutMoveSS_0 : AC := (.seq (.seq (.post (.reg [⟨(some 8), .op (.mv (.tmp 4)), none⟩,
    ⟨(some 9), .op (.mv (.tmp 0)), none⟩,
    ⟨(some 10), .op (.len false (.tmp 9)), none⟩,
    ⟨(some 11), .op (.bin .lss (.tmp 8) (.tmp 10)), none⟩]) (.kill [8, 9, 10]))
  (.cond (.tmp 11) (.ghost (.kill [11]) .skip)
  (.ghost (.kill [0, 4, 11]) (.exit 0))))
  (.seq (.block 1 (.post (.reg [⟨(some 14), .op (.mv (.tmp 3)), none⟩,
    ⟨(some 15), .op (.mv (.tmp 4)), none⟩,
    ⟨(some 16), .op (.mv (.tmp 0)), none⟩,
    ⟨(some 17), .op (.mv (.tmp 4)), none⟩,
    ⟨(some 18), .op (.iaddrS (.tmp 16) (.tmp 17) 1), none⟩,
    ⟨(some 19), .op (.load 1 false (.tmp 18)), none⟩,
    ⟨(some 20), .call (.func i_laws_toOutMoveS) [(.tmp 19)], none⟩,
    ⟨(some 21), .op (.iaddrS (.tmp 14) (.tmp 15) 1), none⟩,
    ⟨none, .op (.store 1 (.tmp 21) (.tmp 20)), none⟩]) (.kill [14, 15, 16, 17, 18, 19, 20, 21])))
  (.post (.reg [⟨(some 12), .op (.mv (.tmp 4)), none⟩,
    ⟨(some 13), .op (.bin .add (.tmp 12) (.const (Value.int .i64 1))), none⟩,
    ⟨(some 4), .op (.mv (.tmp 13)), none⟩]) (.kill [12, 13]))))
def lo_laws_toOutMoveSS_0 : AC := (.loop lb_laws_toOutMoveSS_0)
def ac_laws_toOutMoveSS : AC := (.seq (.post (.reg [⟨(some 2), .op (.mv (.const (Value.slice none 0 0))), none⟩]) (.kill [2]))
  (.seq (.post (.reg [⟨(some 5), .op (.mv (.tmp 0)), none⟩,
    ⟨(some 6), .op (.len false (.tmp 5)), none⟩,
    ⟨(some 7), .op (.make (.tmp 6) (.tmp 6) 1 24 (Value.slice none 0 0)), none⟩,
    ⟨(some 3), .op (.mv (.tmp 7)), none⟩]) (.kill [5, 6, 7]))
  (.seq (.seq (.reg [⟨(some 4), .op (.mv (.const (Value.int .i64 0))), none⟩])
  (.block 0 lo_laws_toOutMoveSS_0))
  (.ghost (.kill [0, 4]) (.seq (.post (.reg [⟨(some 22), .op (.mv (.tmp 3)), none⟩,
    ⟨(some 2), .op (.mv (.tmp 22)), none⟩]) (.kill [3, 22]))
  .ret)))))
theorem cf_laws_toOutMoveSS : chkFn Try.prog i_laws_toOutMoveSS ac_laws_toOutMoveSS [.tmp 2] 23 = true := by decide +kernel
def fa_laws_toOutMoveSS : FnA := ⟨ac_laws_toOutMoveSS, [.tmp 2], 23, false, false, [], .any, none⟩

/-- The checked code of laws toOutMoveSSS. -/
def lb_laws_toOutMoveSSS_0 : AC := (.seq (.seq (.post (.reg [⟨(some 8), .op (.mv (.tmp 4)), none⟩,
    ⟨(some 9), .op (.mv (.tmp 0)), none⟩,
    ⟨(some 10), .op (.len false (.tmp 9)), none⟩,
    ⟨(some 11), .op (.bin .lss (.tmp 8) (.tmp 10)), none⟩]) (.kill [8, 9, 10]))
  (.cond (.tmp 11) (.ghost (.kill [11]) .skip)
  (.ghost (.kill [0, 4, 11]) (.exit 0))))
  (.seq (.block 1 (.post (.reg [⟨(some 14), .op (.mv (.tmp 3)), none⟩,
    ⟨(some 15), .op (.mv (.tmp 4)), none⟩,
    ⟨(some 16), .op (.mv (.tmp 0)), none⟩,
    ⟨(some 17), .op (.mv (.tmp 4)), none⟩,
    ⟨(some 18), .op (.iaddrS (.tmp 16) (.tmp 17) 1), none⟩,
    ⟨(some 19), .op (.load 1 false (.tmp 18)), none⟩,
    ⟨(some 20), .call (.func i_laws_toOutMoveSS) [(.tmp 19)], none⟩,
    ⟨(some 21), .op (.iaddrS (.tmp 14) (.tmp 15) 1), none⟩,
    ⟨none, .op (.store 1 (.tmp 21) (.tmp 20)), none⟩]) (.kill [14, 15, 16, 17, 18, 19, 20, 21])))
  (.post (.reg [⟨(some 12), .op (.mv (.tmp 4)), none⟩,
    ⟨(some 13), .op (.bin .add (.tmp 12) (.const (Value.int .i64 1))), none⟩,
    ⟨(some 4), .op (.mv (.tmp 13)), none⟩]) (.kill [12, 13]))))
def lo_laws_toOutMoveSSS_0 : AC := (.loop lb_laws_toOutMoveSSS_0)
def ac_laws_toOutMoveSSS : AC := (.seq (.post (.reg [⟨(some 2), .op (.mv (.const (Value.slice none 0 0))), none⟩]) (.kill [2]))
  (.seq (.post (.reg [⟨(some 5), .op (.mv (.tmp 0)), none⟩,
    ⟨(some 6), .op (.len false (.tmp 5)), none⟩,
    ⟨(some 7), .op (.make (.tmp 6) (.tmp 6) 1 24 (Value.slice none 0 0)), none⟩,
    ⟨(some 3), .op (.mv (.tmp 7)), none⟩]) (.kill [5, 6, 7]))
  (.seq (.seq (.reg [⟨(some 4), .op (.mv (.const (Value.int .i64 0))), none⟩])
  (.block 0 lo_laws_toOutMoveSSS_0))
  (.ghost (.kill [0, 4]) (.seq (.post (.reg [⟨(some 22), .op (.mv (.tmp 3)), none⟩,
    ⟨(some 2), .op (.mv (.tmp 22)), none⟩]) (.kill [3, 22]))
  .ret)))))
theorem cf_laws_toOutMoveSSS : chkFn Try.prog i_laws_toOutMoveSSS ac_laws_toOutMoveSSS [.tmp 2] 23 = true := by decide +kernel
def fa_laws_toOutMoveSSS : FnA := ⟨ac_laws_toOutMoveSSS, [.tmp 2], 23, false, false, [], .any, none⟩

/-- The checked code of laws toRewriter. -/
def ac_laws_toRewriter : AC := (.seq (.post (.reg [⟨(some 1), .op (.box true (.tmp 0)), none⟩,
    ⟨(some 2), .op (.alloc (Value.agg #[Value.int .i64 0, Value.int .i64 0, Value.slice none 0 0, Value.slice none 0 0, Value.slice none 0 0])), none⟩]) (.kill [0]))
  (.seq (.reg [⟨(some 3), .op (.alloc (Value.agg #[Value.int .i64 0, Value.int .i64 0, Value.slice none 0 0, Value.slice none 0 0, Value.slice none 0 0])), none⟩])
  (.seq (.post (.reg [⟨(some 4), .op (.faddr (.tmp 1) 0), none⟩,
    ⟨(some 5), .op (.load 1 false (.tmp 4)), none⟩,
    ⟨(some 6), .op (.faddr (.tmp 3) 0), none⟩,
    ⟨none, .op (.store 1 (.tmp 6) (.tmp 5)), none⟩]) (.kill [4, 5, 6]))
  (.seq (.post (.reg [⟨(some 7), .op (.faddr (.tmp 1) 1), none⟩,
    ⟨(some 8), .op (.load 1 false (.tmp 7)), none⟩,
    ⟨(some 9), .op (.faddr (.tmp 3) 1), none⟩,
    ⟨none, .op (.store 1 (.tmp 9) (.tmp 8)), none⟩]) (.kill [7, 8, 9]))
  (.seq (.post (.reg [⟨(some 10), .op (.faddr (.tmp 1) 2), none⟩,
    ⟨(some 11), .op (.load 1 false (.tmp 10)), none⟩,
    ⟨(some 12), .call (.func i_laws_toOutPushSS) [(.tmp 11)], none⟩,
    ⟨(some 13), .op (.faddr (.tmp 3) 2), none⟩,
    ⟨none, .op (.store 1 (.tmp 13) (.tmp 12)), none⟩]) (.kill [10, 11, 12, 13]))
  (.seq (.post (.reg [⟨(some 14), .op (.faddr (.tmp 1) 3), none⟩,
    ⟨(some 15), .op (.load 1 false (.tmp 14)), none⟩,
    ⟨(some 16), .call (.func i_laws_toOutMoveSSS) [(.tmp 15)], none⟩,
    ⟨(some 17), .op (.faddr (.tmp 3) 3), none⟩,
    ⟨none, .op (.store 1 (.tmp 17) (.tmp 16)), none⟩]) (.kill [14, 15, 16, 17]))
  (.seq (.post (.reg [⟨(some 18), .op (.faddr (.tmp 1) 4), none⟩,
    ⟨(some 19), .op (.load 1 false (.tmp 18)), none⟩,
    ⟨(some 20), .call (.func i_laws_toOutMoveSS) [(.tmp 19)], none⟩,
    ⟨(some 21), .op (.faddr (.tmp 3) 4), none⟩,
    ⟨none, .op (.store 1 (.tmp 21) (.tmp 20)), none⟩]) (.kill [1, 18, 19, 20, 21]))
  (.seq (.post (.reg [⟨(some 22), .op (.load 5 true (.tmp 3)), none⟩,
    ⟨none, .op (.store 5 (.tmp 2) (.tmp 22)), none⟩]) (.kill [3, 22]))
  .ret))))))))
theorem cf_laws_toRewriter : chkFn Try.prog i_laws_toRewriter ac_laws_toRewriter [.cell 2 5 true] 23 = true := by decide +kernel
def fa_laws_toRewriter : FnA := ⟨ac_laws_toRewriter, [.cell 2 5 true], 23, false, false, [], .any, none⟩

/-- The checked code of laws eqOutPush. -/
def ac_laws_eqOutPush : AC := (.seq (.post (.reg [⟨(some 2), .op (.box true (.tmp 0)), none⟩,
    ⟨(some 3), .op (.box true (.tmp 1)), none⟩,
    ⟨(some 4), .op (.mv (.const (Value.bool false))), none⟩]) (.kill [0, 1, 4]))
  (.seq (.seq (.post (.reg [⟨(some 5), .op (.faddr (.tmp 2) 0), none⟩,
    ⟨(some 6), .op (.load 1 false (.tmp 5)), none⟩,
    ⟨(some 7), .op (.faddr (.tmp 3) 0), none⟩,
    ⟨(some 8), .op (.load 1 false (.tmp 7)), none⟩,
    ⟨(some 9), .op (.bin .neq (.tmp 6) (.tmp 8)), none⟩]) (.kill [5, 6, 7, 8]))
  (.cond (.tmp 9) (.ghost (.kill [2, 3, 9]) (.seq (.reg [⟨(some 4), .op (.mv (.const (Value.bool false))), none⟩])
  .ret))
  (.ghost (.kill [9]) .skip)))
  (.seq (.seq (.post (.reg [⟨(some 10), .op (.faddr (.tmp 2) 1), none⟩,
    ⟨(some 11), .op (.load 1 false (.tmp 10)), none⟩,
    ⟨(some 12), .op (.faddr (.tmp 3) 1), none⟩,
    ⟨(some 13), .op (.load 1 false (.tmp 12)), none⟩,
    ⟨(some 14), .op (.bin .neq (.tmp 11) (.tmp 13)), none⟩]) (.kill [10, 11, 12, 13]))
  (.cond (.tmp 14) (.ghost (.kill [2, 3, 14]) (.seq (.reg [⟨(some 4), .op (.mv (.const (Value.bool false))), none⟩])
  .ret))
  (.ghost (.kill [14]) .skip)))
  (.seq (.seq (.post (.reg [⟨(some 15), .op (.faddr (.tmp 2) 2), none⟩,
    ⟨(some 16), .op (.load 1 false (.tmp 15)), none⟩,
    ⟨(some 17), .op (.faddr (.tmp 3) 2), none⟩,
    ⟨(some 18), .op (.load 1 false (.tmp 17)), none⟩,
    ⟨(some 19), .op (.bin .neq (.tmp 16) (.tmp 18)), none⟩]) (.kill [2, 3, 15, 16, 17, 18]))
  (.cond (.tmp 19) (.ghost (.kill [19]) (.seq (.reg [⟨(some 4), .op (.mv (.const (Value.bool false))), none⟩])
  .ret))
  (.ghost (.kill [19]) .skip)))
  (.seq (.reg [⟨(some 4), .op (.mv (.const (Value.bool true))), none⟩])
  .ret)))))
theorem cf_laws_eqOutPush : chkFn Try.prog i_laws_eqOutPush ac_laws_eqOutPush [.tmp 4] 20 = true := by decide +kernel
def fa_laws_eqOutPush : FnA := ⟨ac_laws_eqOutPush, [.tmp 4], 20, false, true, [], .any, none⟩

/-- The checked code of laws eqOutPushS. -/
def lb_laws_eqOutPushS_0 : AC := (.seq (.seq (.post (.reg [⟨(some 11), .op (.mv (.tmp 5)), none⟩,
    ⟨(some 12), .op (.mv (.tmp 0)), none⟩,
    ⟨(some 13), .op (.len false (.tmp 12)), none⟩,
    ⟨(some 14), .op (.bin .lss (.tmp 11) (.tmp 13)), none⟩]) (.kill [11, 12, 13]))
  (.cond (.tmp 14) (.ghost (.kill [14]) .skip)
  (.ghost (.kill [0, 1, 5, 14]) (.exit 0))))
  (.seq (.block 1 (.seq (.post (.draw [⟨0, ⟨(some 17), .op (.mv (.tmp 0)), none⟩, []⟩,
    ⟨1, ⟨(some 18), .op (.mv (.tmp 5)), none⟩, []⟩,
    ⟨2, ⟨(some 19), .op (.iaddrS (.tmp 17) (.tmp 18) 3), none⟩, []⟩,
    ⟨3, ⟨(some 20), .op (.load 3 true (.tmp 19)), none⟩, []⟩,
    ⟨4, ⟨(some 21), .op (.mv (.tmp 1)), none⟩, []⟩,
    ⟨5, ⟨(some 22), .op (.mv (.tmp 5)), none⟩, []⟩,
    ⟨6, ⟨(some 23), .op (.iaddrS (.tmp 21) (.tmp 22) 3), none⟩, []⟩,
    ⟨7, ⟨(some 24), .op (.load 3 true (.tmp 23)), none⟩, []⟩,
    ⟨8, ⟨(some 25), .call (.func i_laws_eqOutPush) [(.tmp 20), (.tmp 24)], none⟩, []⟩,
    ⟨9, ⟨(some 26), .op (.un .not (.tmp 25)), none⟩, []⟩]
    [0, 0, 3, 7, 0, 0, 48, 112, 255, 511]) (.kill [17, 18, 19, 20, 21, 22, 23, 24, 25]))
  (.cond (.tmp 26) (.ghost (.kill [0, 1, 5, 26]) (.seq (.reg [⟨(some 4), .op (.mv (.const (Value.bool false))), none⟩])
  .ret))
  (.ghost (.kill [26]) .skip))))
  (.post (.reg [⟨(some 15), .op (.mv (.tmp 5)), none⟩,
    ⟨(some 16), .op (.bin .add (.tmp 15) (.const (Value.int .i64 1))), none⟩,
    ⟨(some 5), .op (.mv (.tmp 16)), none⟩]) (.kill [15, 16]))))
def lo_laws_eqOutPushS_0 : AC := (.loop lb_laws_eqOutPushS_0)
def ac_laws_eqOutPushS : AC := (.seq (.post (.reg [⟨(some 4), .op (.mv (.const (Value.bool false))), none⟩]) (.kill [4]))
  (.seq (.seq (.post (.reg [⟨(some 6), .op (.mv (.tmp 0)), none⟩,
    ⟨(some 7), .op (.len false (.tmp 6)), none⟩,
    ⟨(some 8), .op (.mv (.tmp 1)), none⟩,
    ⟨(some 9), .op (.len false (.tmp 8)), none⟩,
    ⟨(some 10), .op (.bin .neq (.tmp 7) (.tmp 9)), none⟩]) (.kill [6, 7, 8, 9]))
  (.cond (.tmp 10) (.ghost (.kill [0, 1, 10]) (.seq (.reg [⟨(some 4), .op (.mv (.const (Value.bool false))), none⟩])
  .ret))
  (.ghost (.kill [10]) .skip)))
  (.seq (.seq (.reg [⟨(some 5), .op (.mv (.const (Value.int .i64 0))), none⟩])
  (.block 0 lo_laws_eqOutPushS_0))
  (.ghost (.kill [0, 1, 5]) (.seq (.reg [⟨(some 4), .op (.mv (.const (Value.bool true))), none⟩])
  .ret)))))
theorem cf_laws_eqOutPushS : chkFn Try.prog i_laws_eqOutPushS ac_laws_eqOutPushS [.tmp 4] 27 = true := by decide +kernel
def fa_laws_eqOutPushS : FnA := ⟨ac_laws_eqOutPushS, [.tmp 4], 27, false, true, [], .any, none⟩

/-- The checked code of laws eqOutPushSS. -/
def lb_laws_eqOutPushSS_0 : AC := (.seq (.seq (.post (.reg [⟨(some 11), .op (.mv (.tmp 5)), none⟩,
    ⟨(some 12), .op (.mv (.tmp 0)), none⟩,
    ⟨(some 13), .op (.len false (.tmp 12)), none⟩,
    ⟨(some 14), .op (.bin .lss (.tmp 11) (.tmp 13)), none⟩]) (.kill [11, 12, 13]))
  (.cond (.tmp 14) (.ghost (.kill [14]) .skip)
  (.ghost (.kill [0, 1, 5, 14]) (.exit 0))))
  (.seq (.block 1 (.seq (.post (.draw [⟨0, ⟨(some 17), .op (.mv (.tmp 0)), none⟩, []⟩,
    ⟨1, ⟨(some 18), .op (.mv (.tmp 5)), none⟩, []⟩,
    ⟨2, ⟨(some 19), .op (.iaddrS (.tmp 17) (.tmp 18) 1), none⟩, []⟩,
    ⟨3, ⟨(some 20), .op (.load 1 false (.tmp 19)), none⟩, []⟩,
    ⟨4, ⟨(some 21), .op (.mv (.tmp 1)), none⟩, []⟩,
    ⟨5, ⟨(some 22), .op (.mv (.tmp 5)), none⟩, []⟩,
    ⟨6, ⟨(some 23), .op (.iaddrS (.tmp 21) (.tmp 22) 1), none⟩, []⟩,
    ⟨7, ⟨(some 24), .op (.load 1 false (.tmp 23)), none⟩, []⟩,
    ⟨8, ⟨(some 25), .call (.func i_laws_eqOutPushS) [(.tmp 20), (.tmp 24)], none⟩, []⟩,
    ⟨9, ⟨(some 26), .op (.un .not (.tmp 25)), none⟩, []⟩]
    [0, 0, 3, 7, 0, 0, 48, 112, 255, 511]) (.kill [17, 18, 19, 20, 21, 22, 23, 24, 25]))
  (.cond (.tmp 26) (.ghost (.kill [0, 1, 5, 26]) (.seq (.reg [⟨(some 4), .op (.mv (.const (Value.bool false))), none⟩])
  .ret))
  (.ghost (.kill [26]) .skip))))
  (.post (.reg [⟨(some 15), .op (.mv (.tmp 5)), none⟩,
    ⟨(some 16), .op (.bin .add (.tmp 15) (.const (Value.int .i64 1))), none⟩,
    ⟨(some 5), .op (.mv (.tmp 16)), none⟩]) (.kill [15, 16]))))
def lo_laws_eqOutPushSS_0 : AC := (.loop lb_laws_eqOutPushSS_0)
def ac_laws_eqOutPushSS : AC := (.seq (.post (.reg [⟨(some 4), .op (.mv (.const (Value.bool false))), none⟩]) (.kill [4]))
  (.seq (.seq (.post (.reg [⟨(some 6), .op (.mv (.tmp 0)), none⟩,
    ⟨(some 7), .op (.len false (.tmp 6)), none⟩,
    ⟨(some 8), .op (.mv (.tmp 1)), none⟩,
    ⟨(some 9), .op (.len false (.tmp 8)), none⟩,
    ⟨(some 10), .op (.bin .neq (.tmp 7) (.tmp 9)), none⟩]) (.kill [6, 7, 8, 9]))
  (.cond (.tmp 10) (.ghost (.kill [0, 1, 10]) (.seq (.reg [⟨(some 4), .op (.mv (.const (Value.bool false))), none⟩])
  .ret))
  (.ghost (.kill [10]) .skip)))
  (.seq (.seq (.reg [⟨(some 5), .op (.mv (.const (Value.int .i64 0))), none⟩])
  (.block 0 lo_laws_eqOutPushSS_0))
  (.ghost (.kill [0, 1, 5]) (.seq (.reg [⟨(some 4), .op (.mv (.const (Value.bool true))), none⟩])
  .ret)))))
theorem cf_laws_eqOutPushSS : chkFn Try.prog i_laws_eqOutPushSS ac_laws_eqOutPushSS [.tmp 4] 27 = true := by decide +kernel
def fa_laws_eqOutPushSS : FnA := ⟨ac_laws_eqOutPushSS, [.tmp 4], 27, false, true, [], .any, none⟩

/-- The checked code of laws eqOutMove. -/
def ac_laws_eqOutMove : AC := (.seq (.post (.reg [⟨(some 2), .op (.box true (.tmp 0)), none⟩,
    ⟨(some 3), .op (.box true (.tmp 1)), none⟩,
    ⟨(some 4), .op (.mv (.const (Value.bool false))), none⟩]) (.kill [0, 1, 4]))
  (.seq (.seq (.post (.reg [⟨(some 5), .op (.faddr (.tmp 2) 0), none⟩,
    ⟨(some 6), .op (.load 1 false (.tmp 5)), none⟩,
    ⟨(some 7), .op (.faddr (.tmp 3) 0), none⟩,
    ⟨(some 8), .op (.load 1 false (.tmp 7)), none⟩,
    ⟨(some 9), .op (.bin .neq (.tmp 6) (.tmp 8)), none⟩]) (.kill [5, 6, 7, 8]))
  (.cond (.tmp 9) (.ghost (.kill [2, 3, 9]) (.seq (.reg [⟨(some 4), .op (.mv (.const (Value.bool false))), none⟩])
  .ret))
  (.ghost (.kill [9]) .skip)))
  (.seq (.seq (.post (.reg [⟨(some 10), .op (.faddr (.tmp 2) 1), none⟩,
    ⟨(some 11), .op (.load 1 false (.tmp 10)), none⟩,
    ⟨(some 12), .op (.faddr (.tmp 3) 1), none⟩,
    ⟨(some 13), .op (.load 1 false (.tmp 12)), none⟩,
    ⟨(some 14), .op (.bin .neq (.tmp 11) (.tmp 13)), none⟩]) (.kill [2, 3, 10, 11, 12, 13]))
  (.cond (.tmp 14) (.ghost (.kill [14]) (.seq (.reg [⟨(some 4), .op (.mv (.const (Value.bool false))), none⟩])
  .ret))
  (.ghost (.kill [14]) .skip)))
  (.seq (.reg [⟨(some 4), .op (.mv (.const (Value.bool true))), none⟩])
  .ret))))
theorem cf_laws_eqOutMove : chkFn Try.prog i_laws_eqOutMove ac_laws_eqOutMove [.tmp 4] 15 = true := by decide +kernel
def fa_laws_eqOutMove : FnA := ⟨ac_laws_eqOutMove, [.tmp 4], 15, false, true, [], .any, none⟩

/-- The checked code of laws eqOutMoveS. -/
def lb_laws_eqOutMoveS_0 : AC := (.seq (.seq (.post (.reg [⟨(some 11), .op (.mv (.tmp 5)), none⟩,
    ⟨(some 12), .op (.mv (.tmp 0)), none⟩,
    ⟨(some 13), .op (.len false (.tmp 12)), none⟩,
    ⟨(some 14), .op (.bin .lss (.tmp 11) (.tmp 13)), none⟩]) (.kill [11, 12, 13]))
  (.cond (.tmp 14) (.ghost (.kill [14]) .skip)
  (.ghost (.kill [0, 1, 5, 14]) (.exit 0))))
  (.seq (.block 1 (.seq (.post (.draw [⟨0, ⟨(some 17), .op (.mv (.tmp 0)), none⟩, []⟩,
    ⟨1, ⟨(some 18), .op (.mv (.tmp 5)), none⟩, []⟩,
    ⟨2, ⟨(some 19), .op (.iaddrS (.tmp 17) (.tmp 18) 2), none⟩, []⟩,
    ⟨3, ⟨(some 20), .op (.load 2 true (.tmp 19)), none⟩, []⟩,
    ⟨4, ⟨(some 21), .op (.mv (.tmp 1)), none⟩, []⟩,
    ⟨5, ⟨(some 22), .op (.mv (.tmp 5)), none⟩, []⟩,
    ⟨6, ⟨(some 23), .op (.iaddrS (.tmp 21) (.tmp 22) 2), none⟩, []⟩,
    ⟨7, ⟨(some 24), .op (.load 2 true (.tmp 23)), none⟩, []⟩,
    ⟨8, ⟨(some 25), .call (.func i_laws_eqOutMove) [(.tmp 20), (.tmp 24)], none⟩, []⟩,
    ⟨9, ⟨(some 26), .op (.un .not (.tmp 25)), none⟩, []⟩]
    [0, 0, 3, 7, 0, 0, 48, 112, 255, 511]) (.kill [17, 18, 19, 20, 21, 22, 23, 24, 25]))
  (.cond (.tmp 26) (.ghost (.kill [0, 1, 5, 26]) (.seq (.reg [⟨(some 4), .op (.mv (.const (Value.bool false))), none⟩])
  .ret))
  (.ghost (.kill [26]) .skip))))
  (.post (.reg [⟨(some 15), .op (.mv (.tmp 5)), none⟩,
    ⟨(some 16), .op (.bin .add (.tmp 15) (.const (Value.int .i64 1))), none⟩,
    ⟨(some 5), .op (.mv (.tmp 16)), none⟩]) (.kill [15, 16]))))
def lo_laws_eqOutMoveS_0 : AC := (.loop lb_laws_eqOutMoveS_0)
def ac_laws_eqOutMoveS : AC := (.seq (.post (.reg [⟨(some 4), .op (.mv (.const (Value.bool false))), none⟩]) (.kill [4]))
  (.seq (.seq (.post (.reg [⟨(some 6), .op (.mv (.tmp 0)), none⟩,
    ⟨(some 7), .op (.len false (.tmp 6)), none⟩,
    ⟨(some 8), .op (.mv (.tmp 1)), none⟩,
    ⟨(some 9), .op (.len false (.tmp 8)), none⟩,
    ⟨(some 10), .op (.bin .neq (.tmp 7) (.tmp 9)), none⟩]) (.kill [6, 7, 8, 9]))
  (.cond (.tmp 10) (.ghost (.kill [0, 1, 10]) (.seq (.reg [⟨(some 4), .op (.mv (.const (Value.bool false))), none⟩])
  .ret))
  (.ghost (.kill [10]) .skip)))
  (.seq (.seq (.reg [⟨(some 5), .op (.mv (.const (Value.int .i64 0))), none⟩])
  (.block 0 lo_laws_eqOutMoveS_0))
  (.ghost (.kill [0, 1, 5]) (.seq (.reg [⟨(some 4), .op (.mv (.const (Value.bool true))), none⟩])
  .ret)))))
theorem cf_laws_eqOutMoveS : chkFn Try.prog i_laws_eqOutMoveS ac_laws_eqOutMoveS [.tmp 4] 27 = true := by decide +kernel
def fa_laws_eqOutMoveS : FnA := ⟨ac_laws_eqOutMoveS, [.tmp 4], 27, false, true, [], .any, none⟩

/-- The checked code of laws eqOutMoveSS. -/
def lb_laws_eqOutMoveSS_0 : AC := (.seq (.seq (.post (.reg [⟨(some 11), .op (.mv (.tmp 5)), none⟩,
    ⟨(some 12), .op (.mv (.tmp 0)), none⟩,
    ⟨(some 13), .op (.len false (.tmp 12)), none⟩,
    ⟨(some 14), .op (.bin .lss (.tmp 11) (.tmp 13)), none⟩]) (.kill [11, 12, 13]))
  (.cond (.tmp 14) (.ghost (.kill [14]) .skip)
  (.ghost (.kill [0, 1, 5, 14]) (.exit 0))))
  (.seq (.block 1 (.seq (.post (.draw [⟨0, ⟨(some 17), .op (.mv (.tmp 0)), none⟩, []⟩,
    ⟨1, ⟨(some 18), .op (.mv (.tmp 5)), none⟩, []⟩,
    ⟨2, ⟨(some 19), .op (.iaddrS (.tmp 17) (.tmp 18) 1), none⟩, []⟩,
    ⟨3, ⟨(some 20), .op (.load 1 false (.tmp 19)), none⟩, []⟩,
    ⟨4, ⟨(some 21), .op (.mv (.tmp 1)), none⟩, []⟩,
    ⟨5, ⟨(some 22), .op (.mv (.tmp 5)), none⟩, []⟩,
    ⟨6, ⟨(some 23), .op (.iaddrS (.tmp 21) (.tmp 22) 1), none⟩, []⟩,
    ⟨7, ⟨(some 24), .op (.load 1 false (.tmp 23)), none⟩, []⟩,
    ⟨8, ⟨(some 25), .call (.func i_laws_eqOutMoveS) [(.tmp 20), (.tmp 24)], none⟩, []⟩,
    ⟨9, ⟨(some 26), .op (.un .not (.tmp 25)), none⟩, []⟩]
    [0, 0, 3, 7, 0, 0, 48, 112, 255, 511]) (.kill [17, 18, 19, 20, 21, 22, 23, 24, 25]))
  (.cond (.tmp 26) (.ghost (.kill [0, 1, 5, 26]) (.seq (.reg [⟨(some 4), .op (.mv (.const (Value.bool false))), none⟩])
  .ret))
  (.ghost (.kill [26]) .skip))))
  (.post (.reg [⟨(some 15), .op (.mv (.tmp 5)), none⟩,
    ⟨(some 16), .op (.bin .add (.tmp 15) (.const (Value.int .i64 1))), none⟩,
    ⟨(some 5), .op (.mv (.tmp 16)), none⟩]) (.kill [15, 16]))))
def lo_laws_eqOutMoveSS_0 : AC := (.loop lb_laws_eqOutMoveSS_0)
def ac_laws_eqOutMoveSS : AC := (.seq (.post (.reg [⟨(some 4), .op (.mv (.const (Value.bool false))), none⟩]) (.kill [4]))
  (.seq (.seq (.post (.reg [⟨(some 6), .op (.mv (.tmp 0)), none⟩,
    ⟨(some 7), .op (.len false (.tmp 6)), none⟩,
    ⟨(some 8), .op (.mv (.tmp 1)), none⟩,
    ⟨(some 9), .op (.len false (.tmp 8)), none⟩,
    ⟨(some 10), .op (.bin .neq (.tmp 7) (.tmp 9)), none⟩]) (.kill [6, 7, 8, 9]))
  (.cond (.tmp 10) (.ghost (.kill [0, 1, 10]) (.seq (.reg [⟨(some 4), .op (.mv (.const (Value.bool false))), none⟩])
  .ret))
  (.ghost (.kill [10]) .skip)))
  (.seq (.seq (.reg [⟨(some 5), .op (.mv (.const (Value.int .i64 0))), none⟩])
  (.block 0 lo_laws_eqOutMoveSS_0))
  (.ghost (.kill [0, 1, 5]) (.seq (.reg [⟨(some 4), .op (.mv (.const (Value.bool true))), none⟩])
  .ret)))))
theorem cf_laws_eqOutMoveSS : chkFn Try.prog i_laws_eqOutMoveSS ac_laws_eqOutMoveSS [.tmp 4] 27 = true := by decide +kernel
def fa_laws_eqOutMoveSS : FnA := ⟨ac_laws_eqOutMoveSS, [.tmp 4], 27, false, true, [], .any, none⟩

/-- The checked code of laws eqOutMoveSSS. -/
def lb_laws_eqOutMoveSSS_0 : AC := (.seq (.seq (.post (.reg [⟨(some 11), .op (.mv (.tmp 5)), none⟩,
    ⟨(some 12), .op (.mv (.tmp 0)), none⟩,
    ⟨(some 13), .op (.len false (.tmp 12)), none⟩,
    ⟨(some 14), .op (.bin .lss (.tmp 11) (.tmp 13)), none⟩]) (.kill [11, 12, 13]))
  (.cond (.tmp 14) (.ghost (.kill [14]) .skip)
  (.ghost (.kill [0, 1, 5, 14]) (.exit 0))))
  (.seq (.block 1 (.seq (.post (.draw [⟨0, ⟨(some 17), .op (.mv (.tmp 0)), none⟩, []⟩,
    ⟨1, ⟨(some 18), .op (.mv (.tmp 5)), none⟩, []⟩,
    ⟨2, ⟨(some 19), .op (.iaddrS (.tmp 17) (.tmp 18) 1), none⟩, []⟩,
    ⟨3, ⟨(some 20), .op (.load 1 false (.tmp 19)), none⟩, []⟩,
    ⟨4, ⟨(some 21), .op (.mv (.tmp 1)), none⟩, []⟩,
    ⟨5, ⟨(some 22), .op (.mv (.tmp 5)), none⟩, []⟩,
    ⟨6, ⟨(some 23), .op (.iaddrS (.tmp 21) (.tmp 22) 1), none⟩, []⟩,
    ⟨7, ⟨(some 24), .op (.load 1 false (.tmp 23)), none⟩, []⟩,
    ⟨8, ⟨(some 25), .call (.func i_laws_eqOutMoveSS) [(.tmp 20), (.tmp 24)], none⟩, []⟩,
    ⟨9, ⟨(some 26), .op (.un .not (.tmp 25)), none⟩, []⟩]
    [0, 0, 3, 7, 0, 0, 48, 112, 255, 511]) (.kill [17, 18, 19, 20, 21, 22, 23, 24, 25]))
  (.cond (.tmp 26) (.ghost (.kill [0, 1, 5, 26]) (.seq (.reg [⟨(some 4), .op (.mv (.const (Value.bool false))), none⟩])
  .ret))
  (.ghost (.kill [26]) .skip))))
  (.post (.reg [⟨(some 15), .op (.mv (.tmp 5)), none⟩,
    ⟨(some 16), .op (.bin .add (.tmp 15) (.const (Value.int .i64 1))), none⟩,
    ⟨(some 5), .op (.mv (.tmp 16)), none⟩]) (.kill [15, 16]))))
def lo_laws_eqOutMoveSSS_0 : AC := (.loop lb_laws_eqOutMoveSSS_0)
def ac_laws_eqOutMoveSSS : AC := (.seq (.post (.reg [⟨(some 4), .op (.mv (.const (Value.bool false))), none⟩]) (.kill [4]))
  (.seq (.seq (.post (.reg [⟨(some 6), .op (.mv (.tmp 0)), none⟩,
    ⟨(some 7), .op (.len false (.tmp 6)), none⟩,
    ⟨(some 8), .op (.mv (.tmp 1)), none⟩,
    ⟨(some 9), .op (.len false (.tmp 8)), none⟩,
    ⟨(some 10), .op (.bin .neq (.tmp 7) (.tmp 9)), none⟩]) (.kill [6, 7, 8, 9]))
  (.cond (.tmp 10) (.ghost (.kill [0, 1, 10]) (.seq (.reg [⟨(some 4), .op (.mv (.const (Value.bool false))), none⟩])
  .ret))
  (.ghost (.kill [10]) .skip)))
  (.seq (.seq (.reg [⟨(some 5), .op (.mv (.const (Value.int .i64 0))), none⟩])
  (.block 0 lo_laws_eqOutMoveSSS_0))
  (.ghost (.kill [0, 1, 5]) (.seq (.reg [⟨(some 4), .op (.mv (.const (Value.bool true))), none⟩])
  .ret)))))
theorem cf_laws_eqOutMoveSSS : chkFn Try.prog i_laws_eqOutMoveSSS ac_laws_eqOutMoveSSS [.tmp 4] 27 = true := by decide +kernel
def fa_laws_eqOutMoveSSS : FnA := ⟨ac_laws_eqOutMoveSSS, [.tmp 4], 27, false, true, [], .any, none⟩

/-- The checked code of laws eqRewriter. -/
def ac_laws_eqRewriter : AC := (.seq (.post (.reg [⟨(some 2), .op (.box true (.tmp 0)), none⟩,
    ⟨(some 3), .op (.box true (.tmp 1)), none⟩,
    ⟨(some 4), .op (.mv (.const (Value.bool false))), none⟩]) (.kill [0, 1, 4]))
  (.seq (.seq (.post (.reg [⟨(some 5), .op (.faddr (.tmp 2) 0), none⟩,
    ⟨(some 6), .op (.load 1 false (.tmp 5)), none⟩,
    ⟨(some 7), .op (.faddr (.tmp 3) 0), none⟩,
    ⟨(some 8), .op (.load 1 false (.tmp 7)), none⟩,
    ⟨(some 9), .op (.bin .neq (.tmp 6) (.tmp 8)), none⟩]) (.kill [5, 6, 7, 8]))
  (.cond (.tmp 9) (.ghost (.kill [2, 3, 9]) (.seq (.reg [⟨(some 4), .op (.mv (.const (Value.bool false))), none⟩])
  .ret))
  (.ghost (.kill [9]) .skip)))
  (.seq (.seq (.post (.reg [⟨(some 10), .op (.faddr (.tmp 2) 1), none⟩,
    ⟨(some 11), .op (.load 1 false (.tmp 10)), none⟩,
    ⟨(some 12), .op (.faddr (.tmp 3) 1), none⟩,
    ⟨(some 13), .op (.load 1 false (.tmp 12)), none⟩,
    ⟨(some 14), .op (.bin .neq (.tmp 11) (.tmp 13)), none⟩]) (.kill [10, 11, 12, 13]))
  (.cond (.tmp 14) (.ghost (.kill [2, 3, 14]) (.seq (.reg [⟨(some 4), .op (.mv (.const (Value.bool false))), none⟩])
  .ret))
  (.ghost (.kill [14]) .skip)))
  (.seq (.seq (.post (.reg [⟨(some 15), .op (.faddr (.tmp 2) 2), none⟩,
    ⟨(some 16), .op (.load 1 false (.tmp 15)), none⟩,
    ⟨(some 17), .op (.faddr (.tmp 3) 2), none⟩,
    ⟨(some 18), .op (.load 1 false (.tmp 17)), none⟩,
    ⟨(some 19), .call (.func i_laws_eqOutPushSS) [(.tmp 16), (.tmp 18)], none⟩,
    ⟨(some 20), .op (.un .not (.tmp 19)), none⟩]) (.kill [15, 16, 17, 18, 19]))
  (.cond (.tmp 20) (.ghost (.kill [2, 3, 20]) (.seq (.reg [⟨(some 4), .op (.mv (.const (Value.bool false))), none⟩])
  .ret))
  (.ghost (.kill [20]) .skip)))
  (.seq (.seq (.post (.reg [⟨(some 21), .op (.faddr (.tmp 2) 3), none⟩,
    ⟨(some 22), .op (.load 1 false (.tmp 21)), none⟩,
    ⟨(some 23), .op (.faddr (.tmp 3) 3), none⟩,
    ⟨(some 24), .op (.load 1 false (.tmp 23)), none⟩,
    ⟨(some 25), .call (.func i_laws_eqOutMoveSSS) [(.tmp 22), (.tmp 24)], none⟩,
    ⟨(some 26), .op (.un .not (.tmp 25)), none⟩]) (.kill [21, 22, 23, 24, 25]))
  (.cond (.tmp 26) (.ghost (.kill [2, 3, 26]) (.seq (.reg [⟨(some 4), .op (.mv (.const (Value.bool false))), none⟩])
  .ret))
  (.ghost (.kill [26]) .skip)))
  (.seq (.seq (.post (.reg [⟨(some 27), .op (.faddr (.tmp 2) 4), none⟩,
    ⟨(some 28), .op (.load 1 false (.tmp 27)), none⟩,
    ⟨(some 29), .op (.faddr (.tmp 3) 4), none⟩,
    ⟨(some 30), .op (.load 1 false (.tmp 29)), none⟩,
    ⟨(some 31), .call (.func i_laws_eqOutMoveSS) [(.tmp 28), (.tmp 30)], none⟩,
    ⟨(some 32), .op (.un .not (.tmp 31)), none⟩]) (.kill [2, 3, 27, 28, 29, 30, 31]))
  (.cond (.tmp 32) (.ghost (.kill [32]) (.seq (.reg [⟨(some 4), .op (.mv (.const (Value.bool false))), none⟩])
  .ret))
  (.ghost (.kill [32]) .skip)))
  (.seq (.reg [⟨(some 4), .op (.mv (.const (Value.bool true))), none⟩])
  .ret)))))))
theorem cf_laws_eqRewriter : chkFn Try.prog i_laws_eqRewriter ac_laws_eqRewriter [.tmp 4] 33 = true := by decide +kernel
def fa_laws_eqRewriter : FnA := ⟨ac_laws_eqRewriter, [.tmp 4], 33, false, true, [(.agg [.any, .any, (.lst 1 (.lst 3 .any)), (.lst 1 (.lst 1 (.lst 2 .any))), (.lst 1 (.lst 2 .any))]), (.agg [.any, .any, (.lst 1 (.lst 3 .any)), (.lst 1 (.lst 1 (.lst 2 .any))), (.lst 1 (.lst 2 .any))])], .any, none⟩

/-- The checked code of laws markText. -/
def lb_laws_markText_0 : AC := (.post (.seq (.seq (.post (.reg [⟨(some 6), .op (.mv (.tmp 0)), none⟩,
    ⟨(some 7), .op (.bin .gtr (.tmp 6) (.const (Value.int .i64 0))), none⟩]) (.kill [6]))
  (.cond (.tmp 7) (.ghost (.kill [7]) .skip)
  (.ghost (.kill [0, 7]) (.exit 0))))
  (.block 1 (.seq (.post (.reg [⟨(some 8), .op (.mv (.tmp 0)), none⟩,
    ⟨(some 9), .op (.bin .rem (.tmp 8) (.const (Value.int .i64 10))), none⟩,
    ⟨(some 10), .op (.bin .add (.const (Value.int .i64 48)) (.tmp 9)), none⟩,
    ⟨(some 11), .op (.conv .u8 (.tmp 10)), none⟩,
    ⟨(some 12), .op (.lits false 1 1 (Value.int .u8 0) [(0, (.tmp 11))]), none⟩,
    ⟨(some 13), .op (.b2s (.tmp 12)), none⟩,
    ⟨(some 14), .op (.mv (.tmp 3)), none⟩,
    ⟨(some 15), .op (.bin .add (.tmp 13) (.tmp 14)), none⟩,
    ⟨(some 3), .op (.mv (.tmp 15)), none⟩]) (.kill [8, 9, 10, 11, 12, 13, 14, 15]))
  (.post (.reg [⟨(some 16), .op (.mv (.tmp 0)), none⟩,
    ⟨(some 17), .op (.bin .quo (.tmp 16) (.const (Value.int .i64 10))), none⟩,
    ⟨(some 0), .op (.mv (.tmp 17)), none⟩]) (.kill [16, 17]))))) .nv)
def lo_laws_markText_0 : AC := (.loop lb_laws_markText_0)
def ac_laws_markText : AC := (.seq (.post (.reg [⟨(some 2), .op (.mv (.const (Value.string ⟨#[]⟩))), none⟩]) (.kill [2]))
  (.seq (.seq (.post (.reg [⟨(some 4), .op (.mv (.tmp 0)), none⟩,
    ⟨(some 5), .op (.bin .leq (.tmp 4) (.const (Value.int .i64 0))), none⟩]) (.kill [4]))
  (.cond (.tmp 5) (.ghost (.kill [0, 5]) (.seq (.reg [⟨(some 2), .op (.mv (.const (Value.string ⟨#[109, 48]⟩))), none⟩])
  .ret))
  (.ghost (.kill [5]) .skip)))
  (.seq (.reg [⟨(some 3), .op (.mv (.const (Value.string ⟨#[]⟩))), none⟩])
  (.seq (.post (.block 0 (.ghost .nv lo_laws_markText_0)) .nv)
  (.ghost (.kill [0]) (.seq (.post (.reg [⟨(some 18), .op (.mv (.tmp 3)), none⟩,
    ⟨(some 19), .op (.bin .add (.const (Value.string ⟨#[109]⟩)) (.tmp 18)), none⟩,
    ⟨(some 2), .op (.mv (.tmp 19)), none⟩]) (.kill [3, 18, 19]))
  .ret))))))
theorem cf_laws_markText : chkFn Try.prog i_laws_markText ac_laws_markText [.tmp 2] 20 = true := by decide +kernel
def fa_laws_markText : FnA := ⟨ac_laws_markText, [.tmp 2], 20, false, true, [], .any, none⟩

/-- The checked code of laws markOutPushS. -/
def lb_laws_markOutPushS_0 : AC := (.seq (.seq (.post (.reg [⟨(some 6), .op (.mv (.tmp 5)), none⟩,
    ⟨(some 7), .op (.mv (.tmp 0)), none⟩,
    ⟨(some 8), .op (.len false (.tmp 7)), none⟩,
    ⟨(some 9), .op (.bin .lss (.tmp 6) (.tmp 8)), none⟩]) (.kill [6, 7, 8]))
  (.cond (.tmp 9) (.ghost (.kill [9]) .skip)
  (.ghost (.kill [0, 5, 9]) (.exit 0))))
  (.seq (.block 1 (.seq (.post (.reg [⟨(some 12), .op (.mv (.tmp 0)), none⟩,
    ⟨(some 13), .op (.mv (.tmp 5)), none⟩,
    ⟨(some 14), .op (.mv (.tmp 1)), none⟩,
    ⟨(some 15), .op (.iaddrS (.tmp 12) (.tmp 13) 3), none⟩,
    ⟨(some 16), .op (.faddr (.tmp 15) 0), none⟩,
    ⟨none, .op (.store 1 (.tmp 16) (.tmp 14)), none⟩]) (.kill [12, 13, 14, 15, 16]))
  (.seq (.post (.reg [⟨(some 17), .op (.mv (.tmp 1)), none⟩,
    ⟨(some 18), .op (.bin .add (.tmp 17) (.const (Value.int .i64 1))), none⟩,
    ⟨(some 1), .op (.mv (.tmp 18)), none⟩]) (.kill [17, 18]))
  (.seq (.post (.reg [⟨(some 19), .op (.mv (.tmp 0)), none⟩,
    ⟨(some 20), .op (.mv (.tmp 5)), none⟩,
    ⟨(some 21), .op (.mv (.tmp 1)), none⟩,
    ⟨(some 22), .op (.iaddrS (.tmp 19) (.tmp 20) 3), none⟩,
    ⟨(some 23), .op (.faddr (.tmp 22) 1), none⟩,
    ⟨none, .op (.store 1 (.tmp 23) (.tmp 21)), none⟩]) (.kill [19, 20, 21, 22, 23]))
  (.seq (.post (.reg [⟨(some 24), .op (.mv (.tmp 1)), none⟩,
    ⟨(some 25), .op (.bin .add (.tmp 24) (.const (Value.int .i64 1))), none⟩,
    ⟨(some 1), .op (.mv (.tmp 25)), none⟩]) (.kill [24, 25]))
  (.seq (.post (.reg [⟨(some 26), .op (.mv (.tmp 0)), none⟩,
    ⟨(some 27), .op (.mv (.tmp 5)), none⟩,
    ⟨(some 28), .op (.mv (.tmp 1)), none⟩,
    ⟨(some 29), .call (.func i_laws_markText) [(.tmp 28)], none⟩,
    ⟨(some 30), .op (.iaddrS (.tmp 26) (.tmp 27) 3), none⟩,
    ⟨(some 31), .op (.faddr (.tmp 30) 2), none⟩,
    ⟨none, .op (.store 1 (.tmp 31) (.tmp 29)), none⟩]) (.kill [26, 27, 28, 29, 30, 31]))
  (.post (.reg [⟨(some 32), .op (.mv (.tmp 1)), none⟩,
    ⟨(some 33), .op (.bin .add (.tmp 32) (.const (Value.int .i64 1))), none⟩,
    ⟨(some 1), .op (.mv (.tmp 33)), none⟩]) (.kill [32, 33]))))))))
  (.post (.reg [⟨(some 10), .op (.mv (.tmp 5)), none⟩,
    ⟨(some 11), .op (.bin .add (.tmp 10) (.const (Value.int .i64 1))), none⟩,
    ⟨(some 5), .op (.mv (.tmp 11)), none⟩]) (.kill [10, 11]))))
def lo_laws_markOutPushS_0 : AC := (.loop lb_laws_markOutPushS_0)
def ac_laws_markOutPushS : AC := (.seq (.post (.reg [⟨(some 4), .op (.mv (.const (Value.int .i64 0))), none⟩]) (.kill [4]))
  (.seq (.seq (.reg [⟨(some 5), .op (.mv (.const (Value.int .i64 0))), none⟩])
  (.block 0 lo_laws_markOutPushS_0))
  (.ghost (.kill [0, 5]) (.seq (.post (.reg [⟨(some 34), .op (.mv (.tmp 1)), none⟩,
    ⟨(some 4), .op (.mv (.tmp 34)), none⟩]) (.kill [1, 34]))
  .ret))))
theorem cf_laws_markOutPushS : chkFn Try.prog i_laws_markOutPushS ac_laws_markOutPushS [.tmp 4] 35 = true := by decide +kernel
def fa_laws_markOutPushS : FnA := ⟨ac_laws_markOutPushS, [.tmp 4], 35, true, false, [], .any, none⟩

/-- The checked code of laws markOutPushSS. -/
def lb_laws_markOutPushSS_0 : AC := (.seq (.seq (.post (.reg [⟨(some 6), .op (.mv (.tmp 5)), none⟩,
    ⟨(some 7), .op (.mv (.tmp 0)), none⟩,
    ⟨(some 8), .op (.len false (.tmp 7)), none⟩,
    ⟨(some 9), .op (.bin .lss (.tmp 6) (.tmp 8)), none⟩]) (.kill [6, 7, 8]))
  (.cond (.tmp 9) (.ghost (.kill [9]) .skip)
  (.ghost (.kill [0, 5, 9]) (.exit 0))))
  (.seq (.block 1 (.post (.reg [⟨(some 12), .op (.mv (.tmp 0)), none⟩,
    ⟨(some 13), .op (.mv (.tmp 5)), none⟩,
    ⟨(some 14), .op (.iaddrS (.tmp 12) (.tmp 13) 1), none⟩,
    ⟨(some 15), .op (.load 1 false (.tmp 14)), none⟩,
    ⟨(some 16), .op (.mv (.tmp 1)), none⟩,
    ⟨(some 17), .call (.func i_laws_markOutPushS) [(.tmp 15), (.tmp 16)], none⟩,
    ⟨(some 1), .op (.mv (.tmp 17)), none⟩]) (.kill [12, 13, 14, 15, 16, 17])))
  (.post (.reg [⟨(some 10), .op (.mv (.tmp 5)), none⟩,
    ⟨(some 11), .op (.bin .add (.tmp 10) (.const (Value.int .i64 1))), none⟩,
    ⟨(some 5), .op (.mv (.tmp 11)), none⟩]) (.kill [10, 11]))))
def lo_laws_markOutPushSS_0 : AC := (.loop lb_laws_markOutPushSS_0)
def ac_laws_markOutPushSS : AC := (.seq (.post (.reg [⟨(some 4), .op (.mv (.const (Value.int .i64 0))), none⟩]) (.kill [4]))
  (.seq (.seq (.reg [⟨(some 5), .op (.mv (.const (Value.int .i64 0))), none⟩])
  (.block 0 lo_laws_markOutPushSS_0))
  (.ghost (.kill [0, 5]) (.seq (.post (.reg [⟨(some 18), .op (.mv (.tmp 1)), none⟩,
    ⟨(some 4), .op (.mv (.tmp 18)), none⟩]) (.kill [1, 18]))
  .ret))))
theorem cf_laws_markOutPushSS : chkFn Try.prog i_laws_markOutPushSS ac_laws_markOutPushSS [.tmp 4] 19 = true := by decide +kernel
def fa_laws_markOutPushSS : FnA := ⟨ac_laws_markOutPushSS, [.tmp 4], 19, true, false, [], .any, none⟩

/-- The checked code of laws markOutMoveS. -/
def lb_laws_markOutMoveS_0 : AC := (.seq (.seq (.post (.reg [⟨(some 6), .op (.mv (.tmp 5)), none⟩,
    ⟨(some 7), .op (.mv (.tmp 0)), none⟩,
    ⟨(some 8), .op (.len false (.tmp 7)), none⟩,
    ⟨(some 9), .op (.bin .lss (.tmp 6) (.tmp 8)), none⟩]) (.kill [6, 7, 8]))
  (.cond (.tmp 9) (.ghost (.kill [9]) .skip)
  (.ghost (.kill [0, 5, 9]) (.exit 0))))
  (.seq (.block 1 (.seq (.post (.reg [⟨(some 12), .op (.mv (.tmp 0)), none⟩,
    ⟨(some 13), .op (.mv (.tmp 5)), none⟩,
    ⟨(some 14), .op (.mv (.tmp 1)), none⟩,
    ⟨(some 15), .op (.iaddrS (.tmp 12) (.tmp 13) 2), none⟩,
    ⟨(some 16), .op (.faddr (.tmp 15) 0), none⟩,
    ⟨none, .op (.store 1 (.tmp 16) (.tmp 14)), none⟩]) (.kill [12, 13, 14, 15, 16]))
  (.seq (.post (.reg [⟨(some 17), .op (.mv (.tmp 1)), none⟩,
    ⟨(some 18), .op (.bin .add (.tmp 17) (.const (Value.int .i64 1))), none⟩,
    ⟨(some 1), .op (.mv (.tmp 18)), none⟩]) (.kill [17, 18]))
  (.seq (.post (.reg [⟨(some 19), .op (.mv (.tmp 0)), none⟩,
    ⟨(some 20), .op (.mv (.tmp 5)), none⟩,
    ⟨(some 21), .op (.mv (.tmp 1)), none⟩,
    ⟨(some 22), .call (.func i_laws_markText) [(.tmp 21)], none⟩,
    ⟨(some 23), .op (.iaddrS (.tmp 19) (.tmp 20) 2), none⟩,
    ⟨(some 24), .op (.faddr (.tmp 23) 1), none⟩,
    ⟨none, .op (.store 1 (.tmp 24) (.tmp 22)), none⟩]) (.kill [19, 20, 21, 22, 23, 24]))
  (.post (.reg [⟨(some 25), .op (.mv (.tmp 1)), none⟩,
    ⟨(some 26), .op (.bin .add (.tmp 25) (.const (Value.int .i64 1))), none⟩,
    ⟨(some 1), .op (.mv (.tmp 26)), none⟩]) (.kill [25, 26]))))))
  (.post (.reg [⟨(some 10), .op (.mv (.tmp 5)), none⟩,
    ⟨(some 11), .op (.bin .add (.tmp 10) (.const (Value.int .i64 1))), none⟩,
    ⟨(some 5), .op (.mv (.tmp 11)), none⟩]) (.kill [10, 11]))))
def lo_laws_markOutMoveS_0 : AC := (.loop lb_laws_markOutMoveS_0)
def ac_laws_markOutMoveS : AC := (.seq (.post (.reg [⟨(some 4), .op (.mv (.const (Value.int .i64 0))), none⟩]) (.kill [4]))
  (.seq (.seq (.reg [⟨(some 5), .op (.mv (.const (Value.int .i64 0))), none⟩])
  (.block 0 lo_laws_markOutMoveS_0))
  (.ghost (.kill [0, 5]) (.seq (.post (.reg [⟨(some 27), .op (.mv (.tmp 1)), none⟩,
    ⟨(some 4), .op (.mv (.tmp 27)), none⟩]) (.kill [1, 27]))
  .ret))))
theorem cf_laws_markOutMoveS : chkFn Try.prog i_laws_markOutMoveS ac_laws_markOutMoveS [.tmp 4] 28 = true := by decide +kernel
def fa_laws_markOutMoveS : FnA := ⟨ac_laws_markOutMoveS, [.tmp 4], 28, true, false, [], .any, none⟩

/-- The checked code of laws markOutMoveSS. -/
def lb_laws_markOutMoveSS_0 : AC := (.seq (.seq (.post (.reg [⟨(some 6), .op (.mv (.tmp 5)), none⟩,
    ⟨(some 7), .op (.mv (.tmp 0)), none⟩,
    ⟨(some 8), .op (.len false (.tmp 7)), none⟩,
    ⟨(some 9), .op (.bin .lss (.tmp 6) (.tmp 8)), none⟩]) (.kill [6, 7, 8]))
  (.cond (.tmp 9) (.ghost (.kill [9]) .skip)
  (.ghost (.kill [0, 5, 9]) (.exit 0))))
  (.seq (.block 1 (.post (.reg [⟨(some 12), .op (.mv (.tmp 0)), none⟩,
    ⟨(some 13), .op (.mv (.tmp 5)), none⟩,
    ⟨(some 14), .op (.iaddrS (.tmp 12) (.tmp 13) 1), none⟩,
    ⟨(some 15), .op (.load 1 false (.tmp 14)), none⟩,
    ⟨(some 16), .op (.mv (.tmp 1)), none⟩,
    ⟨(some 17), .call (.func i_laws_markOutMoveS) [(.tmp 15), (.tmp 16)], none⟩,
    ⟨(some 1), .op (.mv (.tmp 17)), none⟩]) (.kill [12, 13, 14, 15, 16, 17])))
  (.post (.reg [⟨(some 10), .op (.mv (.tmp 5)), none⟩,
    ⟨(some 11), .op (.bin .add (.tmp 10) (.const (Value.int .i64 1))), none⟩,
    ⟨(some 5), .op (.mv (.tmp 11)), none⟩]) (.kill [10, 11]))))
def lo_laws_markOutMoveSS_0 : AC := (.loop lb_laws_markOutMoveSS_0)
def ac_laws_markOutMoveSS : AC := (.seq (.post (.reg [⟨(some 4), .op (.mv (.const (Value.int .i64 0))), none⟩]) (.kill [4]))
  (.seq (.seq (.reg [⟨(some 5), .op (.mv (.const (Value.int .i64 0))), none⟩])
  (.block 0 lo_laws_markOutMoveSS_0))
  (.ghost (.kill [0, 5]) (.seq (.post (.reg [⟨(some 18), .op (.mv (.tmp 1)), none⟩,
    ⟨(some 4), .op (.mv (.tmp 18)), none⟩]) (.kill [1, 18]))
  .ret))))
theorem cf_laws_markOutMoveSS : chkFn Try.prog i_laws_markOutMoveSS ac_laws_markOutMoveSS [.tmp 4] 19 = true := by decide +kernel
def fa_laws_markOutMoveSS : FnA := ⟨ac_laws_markOutMoveSS, [.tmp 4], 19, true, false, [], .any, none⟩

/-- The checked code of laws markOutMoveSSS. -/
def lb_laws_markOutMoveSSS_0 : AC := (.seq (.seq (.post (.reg [⟨(some 6), .op (.mv (.tmp 5)), none⟩,
    ⟨(some 7), .op (.mv (.tmp 0)), none⟩,
    ⟨(some 8), .op (.len false (.tmp 7)), none⟩,
    ⟨(some 9), .op (.bin .lss (.tmp 6) (.tmp 8)), none⟩]) (.kill [6, 7, 8]))
  (.cond (.tmp 9) (.ghost (.kill [9]) .skip)
  (.ghost (.kill [0, 5, 9]) (.exit 0))))
  (.seq (.block 1 (.post (.reg [⟨(some 12), .op (.mv (.tmp 0)), none⟩,
    ⟨(some 13), .op (.mv (.tmp 5)), none⟩,
    ⟨(some 14), .op (.iaddrS (.tmp 12) (.tmp 13) 1), none⟩,
    ⟨(some 15), .op (.load 1 false (.tmp 14)), none⟩,
    ⟨(some 16), .op (.mv (.tmp 1)), none⟩,
    ⟨(some 17), .call (.func i_laws_markOutMoveSS) [(.tmp 15), (.tmp 16)], none⟩,
    ⟨(some 1), .op (.mv (.tmp 17)), none⟩]) (.kill [12, 13, 14, 15, 16, 17])))
  (.post (.reg [⟨(some 10), .op (.mv (.tmp 5)), none⟩,
    ⟨(some 11), .op (.bin .add (.tmp 10) (.const (Value.int .i64 1))), none⟩,
    ⟨(some 5), .op (.mv (.tmp 11)), none⟩]) (.kill [10, 11]))))
def lo_laws_markOutMoveSSS_0 : AC := (.loop lb_laws_markOutMoveSSS_0)
def ac_laws_markOutMoveSSS : AC := (.seq (.post (.reg [⟨(some 4), .op (.mv (.const (Value.int .i64 0))), none⟩]) (.kill [4]))
  (.seq (.seq (.reg [⟨(some 5), .op (.mv (.const (Value.int .i64 0))), none⟩])
  (.block 0 lo_laws_markOutMoveSSS_0))
  (.ghost (.kill [0, 5]) (.seq (.post (.reg [⟨(some 18), .op (.mv (.tmp 1)), none⟩,
    ⟨(some 4), .op (.mv (.tmp 18)), none⟩]) (.kill [1, 18]))
  .ret))))
theorem cf_laws_markOutMoveSSS : chkFn Try.prog i_laws_markOutMoveSSS ac_laws_markOutMoveSSS [.tmp 4] 19 = true := by decide +kernel
def fa_laws_markOutMoveSSS : FnA := ⟨ac_laws_markOutMoveSSS, [.tmp 4], 19, true, false, [], .any, none⟩

/-- The checked code of laws markRewriter. -/
def ac_laws_markRewriter : AC := (.seq (.post (.reg [⟨(some 2), .op (.box false (.tmp 0)), none⟩,
    ⟨(some 4), .op (.mv (.const (Value.int .i64 0))), none⟩]) (.kill [0, 4]))
  (.seq (.post (.reg [⟨(some 5), .op (.faddr (.tmp 2) 2), none⟩,
    ⟨(some 6), .op (.load 1 false (.tmp 5)), none⟩,
    ⟨(some 7), .op (.mv (.tmp 1)), none⟩,
    ⟨(some 8), .call (.func i_laws_markOutPushSS) [(.tmp 6), (.tmp 7)], none⟩,
    ⟨(some 1), .op (.mv (.tmp 8)), none⟩]) (.kill [5, 6, 7, 8]))
  (.seq (.post (.reg [⟨(some 9), .op (.faddr (.tmp 2) 3), none⟩,
    ⟨(some 10), .op (.load 1 false (.tmp 9)), none⟩,
    ⟨(some 11), .op (.mv (.tmp 1)), none⟩,
    ⟨(some 12), .call (.func i_laws_markOutMoveSSS) [(.tmp 10), (.tmp 11)], none⟩,
    ⟨(some 1), .op (.mv (.tmp 12)), none⟩]) (.kill [9, 10, 11, 12]))
  (.seq (.post (.reg [⟨(some 13), .op (.faddr (.tmp 2) 4), none⟩,
    ⟨(some 14), .op (.load 1 false (.tmp 13)), none⟩,
    ⟨(some 15), .op (.mv (.tmp 1)), none⟩,
    ⟨(some 16), .call (.func i_laws_markOutMoveSS) [(.tmp 14), (.tmp 15)], none⟩,
    ⟨(some 1), .op (.mv (.tmp 16)), none⟩]) (.kill [2, 13, 14, 15, 16]))
  (.seq (.post (.reg [⟨(some 17), .op (.mv (.tmp 1)), none⟩,
    ⟨(some 4), .op (.mv (.tmp 17)), none⟩]) (.kill [1, 17]))
  .ret)))))
theorem cf_laws_markRewriter : chkFn Try.prog i_laws_markRewriter ac_laws_markRewriter [.tmp 4] 18 = true := by decide +kernel
def fa_laws_markRewriter : FnA := ⟨ac_laws_markRewriter, [.tmp 4], 18, true, false, [], .any, none⟩

/-- The checked code of spec l00In. -/
def ac_spec_l00In : AC := (.seq (.post (.reg [⟨(some 6), .op (.mv (.const (Value.bool false))), none⟩]) (.kill [6]))
  (.seq (.post (.reg [⟨(some 7), .op (.mv (.tmp 0)), none⟩,
    ⟨(some 8), .op (.mv (.tmp 1)), none⟩,
    ⟨(some 9), .op (.bin .geq (.tmp 7) (.tmp 8)), none⟩,
    ⟨(some 10), .op (.mv (.tmp 9)), none⟩,
    ⟨(some 11), .op (.mv (.tmp 0)), some (10, true)⟩,
    ⟨(some 12), .op (.mv (.tmp 2)), some (10, true)⟩,
    ⟨(some 13), .op (.bin .leq (.tmp 11) (.tmp 12)), some (10, true)⟩,
    ⟨(some 14), .op (.pick (.tmp 10) (.tmp 13) (.const (Value.bool false))), none⟩,
    ⟨(some 6), .op (.mv (.tmp 14)), none⟩]) (.kill [0, 1, 2, 7, 8, 9, 10, 11, 12, 13, 14]))
  .ret))
theorem cf_spec_l00In : chkFn Try.prog i_spec_l00In ac_spec_l00In [.tmp 6] 15 = true := by decide +kernel
def fa_spec_l00In : FnA := ⟨ac_spec_l00In, [.tmp 6], 15, false, true, [], .any, none⟩

/-- The checked code of spec l01Symbol. -/
def lb_spec_l01Symbol_0 : AC := (.seq (.seq (.post (.reg [⟨(some 4), .op (.mv (.tmp 3)), none⟩,
    ⟨(some 5), .op (.bin .lss (.tmp 4) (.const (Value.int .i64 6))), none⟩]) (.kill [4]))
  (.cond (.tmp 5) (.ghost (.kill [5]) .skip)
  (.ghost (.kill [0, 3, 5]) (.exit 0))))
  (.seq (.block 1 (.seq (.post (.reg [⟨(some 8), .op (.mv (.tmp 3)), none⟩,
    ⟨(some 9), .op (.idxStr (.const (Value.string ⟨#[40, 91, 41, 93, 97, 98]⟩)) (.tmp 8)), none⟩,
    ⟨(some 10), .op (.mv (.tmp 0)), none⟩,
    ⟨(some 11), .op (.bin .eql (.tmp 9) (.tmp 10)), none⟩]) (.kill [8, 9, 10]))
  (.cond (.tmp 11) (.ghost (.kill [0, 11]) (.seq (.post (.reg [⟨(some 12), .op (.mv (.tmp 3)), none⟩,
    ⟨(some 2), .op (.mv (.tmp 12)), none⟩]) (.kill [3, 12]))
  .ret))
  (.ghost (.kill [11]) .skip))))
  (.post (.reg [⟨(some 6), .op (.mv (.tmp 3)), none⟩,
    ⟨(some 7), .op (.bin .add (.tmp 6) (.const (Value.int .i64 1))), none⟩,
    ⟨(some 3), .op (.mv (.tmp 7)), none⟩]) (.kill [6, 7]))))
def lo_spec_l01Symbol_0 : AC := (.loop lb_spec_l01Symbol_0)
def ac_spec_l01Symbol : AC := (.seq (.post (.reg [⟨(some 2), .op (.mv (.const (Value.int .i64 0))), none⟩]) (.kill [2]))
  (.seq (.seq (.reg [⟨(some 3), .op (.mv (.const (Value.int .i64 0))), none⟩])
  (.block 0 lo_spec_l01Symbol_0))
  (.ghost (.kill [0, 3]) (.seq (.reg [⟨(some 2), .op (.mv (.const (Value.int .i64 (-1)))), none⟩])
  .ret))))
theorem cf_spec_l01Symbol : chkFn Try.prog i_spec_l01Symbol ac_spec_l01Symbol [.tmp 2] 13 = true := by decide +kernel
def fa_spec_l01Symbol : FnA := ⟨ac_spec_l01Symbol, [.tmp 2], 13, false, true, [], .any, none⟩

/-- The checked code of spec l01Ok. -/
def lb_spec_l01Ok_0 : AC := (.seq (.seq (.post (.reg [⟨(some 4), .op (.mv (.tmp 3)), none⟩,
    ⟨(some 5), .op (.mv (.tmp 0)), none⟩,
    ⟨(some 6), .op (.len true (.tmp 5)), none⟩,
    ⟨(some 7), .op (.bin .lss (.tmp 4) (.tmp 6)), none⟩]) (.kill [4, 5, 6]))
  (.cond (.tmp 7) (.ghost (.kill [7]) .skip)
  (.ghost (.kill [3, 7]) (.exit 0))))
  (.seq (.block 1 (.seq (.post (.reg [⟨(some 10), .op (.mv (.tmp 0)), none⟩,
    ⟨(some 11), .op (.mv (.tmp 3)), none⟩,
    ⟨(some 12), .op (.idxStr (.tmp 10) (.tmp 11)), none⟩,
    ⟨(some 13), .call (.func i_spec_l01Symbol) [(.tmp 12)], none⟩,
    ⟨(some 14), .op (.bin .lss (.tmp 13) (.const (Value.int .i64 0))), none⟩]) (.kill [10, 11, 12, 13]))
  (.cond (.tmp 14) (.ghost (.kill [0, 3, 14]) (.seq (.reg [⟨(some 2), .op (.mv (.const (Value.bool false))), none⟩])
  .ret))
  (.ghost (.kill [14]) .skip))))
  (.post (.reg [⟨(some 8), .op (.mv (.tmp 3)), none⟩,
    ⟨(some 9), .op (.bin .add (.tmp 8) (.const (Value.int .i64 1))), none⟩,
    ⟨(some 3), .op (.mv (.tmp 9)), none⟩]) (.kill [8, 9]))))
def lo_spec_l01Ok_0 : AC := (.loop lb_spec_l01Ok_0)
def ac_spec_l01Ok : AC := (.seq (.post (.reg [⟨(some 2), .op (.mv (.const (Value.bool false))), none⟩]) (.kill [2]))
  (.seq (.seq (.reg [⟨(some 3), .op (.mv (.const (Value.int .i64 0))), none⟩])
  (.block 0 lo_spec_l01Ok_0))
  (.ghost (.kill [3]) (.seq (.post (.reg [⟨(some 15), .op (.mv (.tmp 0)), none⟩,
    ⟨(some 16), .op (.len true (.tmp 15)), none⟩,
    ⟨(some 17), .op (.bin .leq (.tmp 16) (.const (Value.int .i64 60))), none⟩,
    ⟨(some 2), .op (.mv (.tmp 17)), none⟩]) (.kill [0, 15, 16, 17]))
  .ret))))
theorem cf_spec_l01Ok : chkFn Try.prog i_spec_l01Ok ac_spec_l01Ok [.tmp 2] 18 = true := by decide +kernel
def fa_spec_l01Ok : FnA := ⟨ac_spec_l01Ok, [.tmp 2], 18, false, true, [], .any, none⟩

/-- The checked code of spec l06Out. -/
def ac_spec_l06Out : AC := (.seq (.post (.reg [⟨(some 2), .op (.mv (.const (Value.bool false))), none⟩]) (.kill [2]))
  (.seq (.post (.reg [⟨(some 3), .op (.mv (.tmp 0)), none⟩,
    ⟨(some 4), .op (.len true (.tmp 3)), none⟩,
    ⟨(some 5), .op (.bin .leq (.tmp 4) (.const (Value.int .i64 4))), none⟩,
    ⟨(some 6), .op (.mv (.tmp 5)), none⟩,
    ⟨(some 7), .op (.mv (.tmp 0)), some (6, true)⟩,
    ⟨(some 8), .call (.func i_spec_l01Ok) [(.tmp 7)], some (6, true)⟩,
    ⟨(some 9), .op (.pick (.tmp 6) (.tmp 8) (.const (Value.bool false))), none⟩,
    ⟨(some 2), .op (.mv (.tmp 9)), none⟩]) (.kill [0, 3, 4, 5, 6, 7, 8, 9]))
  .ret))
theorem cf_spec_l06Out : chkFn Try.prog i_spec_l06Out ac_spec_l06Out [.tmp 2] 10 = true := by decide +kernel
def fa_spec_l06Out : FnA := ⟨ac_spec_l06Out, [.tmp 2], 10, false, true, [], .any, none⟩

/-- The checked code of spec l06Moves. -/
def lb_spec_l06Moves_0 : AC := (.seq (.seq (.post (.reg [⟨(some 8), .op (.mv (.tmp 7)), none⟩,
    ⟨(some 9), .op (.mv (.tmp 0)), none⟩,
    ⟨(some 10), .op (.len false (.tmp 9)), none⟩,
    ⟨(some 11), .op (.bin .lss (.tmp 8) (.tmp 10)), none⟩]) (.kill [8, 9, 10]))
  (.cond (.tmp 11) (.ghost (.kill [11]) .skip)
  (.ghost (.kill [2, 7, 11]) (.exit 0))))
  (.seq (.block 1 (.seq (.post (.reg [⟨(some 14), .op (.mv (.tmp 0)), none⟩,
    ⟨(some 15), .op (.mv (.tmp 7)), none⟩,
    ⟨(some 16), .op (.iaddrS (.tmp 14) (.tmp 15) 2), none⟩,
    ⟨(some 17), .op (.faddr (.tmp 16) 0), none⟩,
    ⟨(some 18), .op (.load 1 false (.tmp 17)), none⟩,
    ⟨(some 19), .op (.mv (.tmp 2)), none⟩,
    ⟨(some 20), .op (.bin .sub (.tmp 19) (.const (Value.int .i64 1))), none⟩,
    ⟨(some 21), .call (.func i_spec_l00In) [(.tmp 18), (.const (Value.int .i64 0)), (.tmp 20)], none⟩,
    ⟨(some 22), .op (.un .not (.tmp 21)), none⟩,
    ⟨(some 23), .op (.mv (.tmp 22)), none⟩,
    ⟨(some 24), .op (.mv (.tmp 0)), some (23, false)⟩,
    ⟨(some 25), .op (.mv (.tmp 7)), some (23, false)⟩,
    ⟨(some 26), .op (.iaddrS (.tmp 24) (.tmp 25) 2), some (23, false)⟩,
    ⟨(some 27), .op (.faddr (.tmp 26) 1), some (23, false)⟩,
    ⟨(some 28), .op (.load 1 false (.tmp 27)), some (23, false)⟩,
    ⟨(some 29), .call (.func i_spec_l06Out) [(.tmp 28)], some (23, false)⟩,
    ⟨(some 30), .op (.un .not (.tmp 29)), some (23, false)⟩,
    ⟨(some 31), .op (.pick (.tmp 23) (.const (Value.bool true)) (.tmp 30)), none⟩]) (.kill [14, 15, 16, 17, 18, 19, 20, 21, 22, 23, 24, 25, 26, 27, 28, 29, 30]))
  (.cond (.tmp 31) (.ghost (.kill [0, 1, 2, 7, 31]) (.seq (.reg [⟨(some 6), .op (.mv (.const (Value.bool false))), none⟩])
  .ret))
  (.ghost (.kill [31]) .skip))))
  (.post (.reg [⟨(some 12), .op (.mv (.tmp 7)), none⟩,
    ⟨(some 13), .op (.bin .add (.tmp 12) (.const (Value.int .i64 1))), none⟩,
    ⟨(some 7), .op (.mv (.tmp 13)), none⟩]) (.kill [12, 13]))))
def lo_spec_l06Moves_0 : AC := (.loop lb_spec_l06Moves_0)
def ac_spec_l06Moves : AC := (.seq (.post (.reg [⟨(some 6), .op (.mv (.const (Value.bool false))), none⟩]) (.kill [6]))
  (.seq (.seq (.reg [⟨(some 7), .op (.mv (.const (Value.int .i64 0))), none⟩])
  (.block 0 lo_spec_l06Moves_0))
  (.ghost (.kill [2, 7]) (.seq (.post (.reg [⟨(some 32), .op (.mv (.tmp 0)), none⟩,
    ⟨(some 33), .op (.len false (.tmp 32)), none⟩,
    ⟨(some 34), .op (.mv (.tmp 1)), none⟩,
    ⟨(some 35), .op (.bin .eql (.tmp 33) (.tmp 34)), none⟩,
    ⟨(some 6), .op (.mv (.tmp 35)), none⟩]) (.kill [0, 1, 32, 33, 34, 35]))
  .ret))))
theorem cf_spec_l06Moves : chkFn Try.prog i_spec_l06Moves ac_spec_l06Moves [.tmp 6] 36 = true := by decide +kernel
def fa_spec_l06Moves : FnA := ⟨ac_spec_l06Moves, [.tmp 6], 36, false, true, [], .any, none⟩

/-- The checked code of spec l06Ok. -/
def lb_spec_l06Ok_0 : AC := (.post (.seq (.seq (.post (.reg [⟨(some 88), .op (.mv (.tmp 5)), none⟩,
    ⟨(some 89), .op (.bin .lss (.tmp 88) (.const (Value.int .i64 2))), none⟩]) (.kill [88]))
  (.cond (.tmp 89) (.ghost (.kill [89]) .skip)
  (.ghost (.kill [5, 89]) (.exit 2))))
  (.seq (.block 3 (.seq (.post (.reg [⟨(some 92), .op (.mv (.tmp 0)), none⟩,
    ⟨(some 93), .op (.nilc (.tmp 92)), none⟩,
    ⟨(some 94), .op (.faddr (.tmp 93) 2), none⟩,
    ⟨(some 95), .op (.load 1 false (.tmp 94)), none⟩,
    ⟨(some 96), .op (.mv (.tmp 4)), none⟩,
    ⟨(some 97), .op (.iaddrS (.tmp 95) (.tmp 96) 1), none⟩,
    ⟨(some 98), .op (.load 1 false (.tmp 97)), none⟩,
    ⟨(some 99), .op (.mv (.tmp 5)), none⟩,
    ⟨(some 100), .op (.iaddrS (.tmp 98) (.tmp 99) 3), none⟩,
    ⟨(some 101), .op (.load 3 true (.tmp 100)), none⟩,
    ⟨(some 6), .op (.alloc (Value.agg #[Value.int .i64 0, Value.int .i64 0, Value.string ⟨#[]⟩])), none⟩,
    ⟨none, .op (.store 3 (.tmp 6) (.tmp 101)), none⟩]) (.kill [92, 93, 94, 95, 96, 97, 98, 99, 100, 101]))
  (.seq (.post (.draw [⟨0, ⟨(some 102), .op (.faddr (.tmp 6) 0), none⟩, []⟩,
    ⟨1, ⟨(some 103), .op (.load 1 false (.tmp 102)), none⟩, []⟩,
    ⟨2, ⟨(some 104), .op (.mv (.tmp 3)), none⟩, []⟩,
    ⟨3, ⟨(some 105), .op (.bin .sub (.tmp 104) (.const (Value.int .i64 1))), none⟩, []⟩,
    ⟨4, ⟨(some 106), .call (.func i_spec_l00In) [(.tmp 103), (.const (Value.int .i64 0)), (.tmp 105)], none⟩, []⟩,
    ⟨5, ⟨(some 107), .op (.un .not (.tmp 106)), none⟩, []⟩,
    ⟨6, ⟨(some 108), .op (.mv (.tmp 107)), none⟩, []⟩,
    ⟨7, ⟨(some 109), .op (.faddr (.tmp 6) 1), some (108, false)⟩, []⟩,
    ⟨8, ⟨(some 110), .op (.load 1 false (.tmp 109)), some (108, false)⟩, []⟩,
    ⟨9, ⟨(some 111), .op (.mv (.tmp 0)), some (108, false)⟩, []⟩,
    ⟨10, ⟨(some 112), .op (.nilc (.tmp 111)), some (108, false)⟩, []⟩,
    ⟨11, ⟨(some 113), .op (.faddr (.tmp 112) 0), some (108, false)⟩, []⟩,
    ⟨12, ⟨(some 114), .op (.load 1 false (.tmp 113)), some (108, false)⟩, []⟩,
    ⟨13, ⟨(some 115), .op (.bin .sub (.tmp 114) (.const (Value.int .i64 1))), some (108, false)⟩, []⟩,
    ⟨14, ⟨(some 116), .call (.func i_spec_l00In) [(.tmp 110), (.const (Value.int .i64 0)), (.tmp 115)], some (108, false)⟩, []⟩,
    ⟨15, ⟨(some 117), .op (.un .not (.tmp 116)), some (108, false)⟩, []⟩,
    ⟨16, ⟨(some 118), .op (.pick (.tmp 108) (.const (Value.bool true)) (.tmp 117)), none⟩, []⟩,
    ⟨17, ⟨(some 119), .op (.mv (.tmp 118)), none⟩, []⟩,
    ⟨18, ⟨(some 120), .op (.faddr (.tmp 6) 2), some (119, false)⟩, []⟩,
    ⟨19, ⟨(some 121), .op (.load 1 false (.tmp 120)), some (119, false)⟩, []⟩,
    ⟨20, ⟨(some 122), .call (.func i_spec_l06Out) [(.tmp 121)], some (119, false)⟩, []⟩,
    ⟨21, ⟨(some 123), .op (.un .not (.tmp 122)), some (119, false)⟩, []⟩,
    ⟨22, ⟨(some 124), .op (.pick (.tmp 119) (.const (Value.bool true)) (.tmp 123)), none⟩, []⟩,
    ⟨23, ⟨(some 125), .op (.mv (.tmp 124)), none⟩, []⟩,
    ⟨24, ⟨(some 126), .op (.mv (.tmp 0)), some (125, false)⟩, []⟩,
    ⟨25, ⟨(some 127), .op (.nilc (.tmp 126)), some (125, false)⟩, []⟩,
    ⟨26, ⟨(some 128), .op (.faddr (.tmp 127) 3), some (125, false)⟩, []⟩,
    ⟨27, ⟨(some 129), .op (.load 1 false (.tmp 128)), some (125, false)⟩, []⟩,
    ⟨28, ⟨(some 130), .op (.mv (.tmp 4)), some (125, false)⟩, []⟩,
    ⟨29, ⟨(some 131), .op (.iaddrS (.tmp 129) (.tmp 130) 1), some (125, false)⟩, []⟩,
    ⟨30, ⟨(some 132), .op (.load 1 false (.tmp 131)), some (125, false)⟩, []⟩,
    ⟨31, ⟨(some 133), .op (.mv (.tmp 5)), some (125, false)⟩, []⟩,
    ⟨32, ⟨(some 134), .op (.iaddrS (.tmp 132) (.tmp 133) 1), some (125, false)⟩, []⟩,
    ⟨33, ⟨(some 135), .op (.load 1 false (.tmp 134)), some (125, false)⟩, []⟩,
    ⟨34, ⟨(some 136), .op (.mv (.tmp 0)), some (125, false)⟩, []⟩,
    ⟨35, ⟨(some 137), .op (.nilc (.tmp 136)), some (125, false)⟩, []⟩,
    ⟨36, ⟨(some 138), .op (.faddr (.tmp 137) 0), some (125, false)⟩, []⟩,
    ⟨37, ⟨(some 139), .op (.load 1 false (.tmp 138)), some (125, false)⟩, []⟩,
    ⟨38, ⟨(some 140), .op (.bin .add (.tmp 139) (.const (Value.int .i64 1))), some (125, false)⟩, []⟩,
    ⟨39, ⟨(some 141), .op (.mv (.tmp 3)), some (125, false)⟩, []⟩,
    ⟨40, ⟨(some 142), .call (.func i_spec_l06Moves) [(.tmp 135), (.tmp 140), (.tmp 141)], some (125, false)⟩, []⟩,
    ⟨41, ⟨(some 143), .op (.un .not (.tmp 142)), some (125, false)⟩, []⟩,
    ⟨42, ⟨(some 144), .op (.pick (.tmp 125) (.const (Value.bool true)) (.tmp 143)), none⟩, []⟩]
    [0, 1, 0, 4, 15, 31, 63, 127, 255, 127, 639, 1663, 3711, 7807, 16383, 32767, 65535, 131071, 262143, 524287, 1048575, 2097151, 4194303, 8388607, 16777215, 33554431, 67108863, 134217727, 16777215, 536870911, 1073741823, 16777215, 4294967295, 8589934591, 16777215, 17196646399, 51556384767, 120275861503, 257714814975, 16777215, 1099511627775, 2199023255551, 4398046511103]) (.kill [6, 102, 103, 104, 105, 106, 107, 108, 109, 110, 111, 112, 113, 114, 115, 116, 117, 118, 119, 120, 121, 122, 123, 124, 125, 126, 127, 128, 129, 130, 131, 132, 133, 134, 135, 136, 137, 138, 139, 140, 141, 142, 143]))
  (.cond (.tmp 144) (.ghost (.kill [0, 3, 4, 5, 144]) (.seq (.reg [⟨(some 2), .op (.mv (.const (Value.bool false))), none⟩])
  .ret))
  (.ghost (.kill [144]) .skip)))))
  (.post (.reg [⟨(some 90), .op (.mv (.tmp 5)), none⟩,
    ⟨(some 91), .op (.bin .add (.tmp 90) (.const (Value.int .i64 1))), none⟩,
    ⟨(some 5), .op (.mv (.tmp 91)), none⟩]) (.kill [90, 91])))) .nv)
def lo_spec_l06Ok_0 : AC := (.loop lb_spec_l06Ok_0)
def lb_spec_l06Ok_1 : AC := (.post (.seq (.seq (.post (.reg [⟨(some 51), .op (.mv (.tmp 4)), none⟩,
    ⟨(some 52), .op (.mv (.tmp 3)), none⟩,
    ⟨(some 53), .op (.bin .lss (.tmp 51) (.tmp 52)), none⟩]) (.kill [51, 52]))
  (.cond (.tmp 53) (.ghost (.kill [53]) .skip)
  (.ghost (.kill [0, 3, 4, 53]) (.exit 0))))
  (.seq (.block 1 (.seq (.seq (.post (.reg [⟨(some 56), .op (.mv (.tmp 0)), none⟩,
    ⟨(some 57), .op (.nilc (.tmp 56)), none⟩,
    ⟨(some 58), .op (.faddr (.tmp 57) 2), none⟩,
    ⟨(some 59), .op (.load 1 false (.tmp 58)), none⟩,
    ⟨(some 60), .op (.mv (.tmp 4)), none⟩,
    ⟨(some 61), .op (.iaddrS (.tmp 59) (.tmp 60) 1), none⟩,
    ⟨(some 62), .op (.load 1 false (.tmp 61)), none⟩,
    ⟨(some 63), .op (.len false (.tmp 62)), none⟩,
    ⟨(some 64), .op (.bin .neq (.tmp 63) (.const (Value.int .i64 2))), none⟩,
    ⟨(some 65), .op (.mv (.tmp 64)), none⟩,
    ⟨(some 66), .op (.mv (.tmp 0)), some (65, false)⟩,
    ⟨(some 67), .op (.nilc (.tmp 66)), some (65, false)⟩,
    ⟨(some 68), .op (.faddr (.tmp 67) 3), some (65, false)⟩,
    ⟨(some 69), .op (.load 1 false (.tmp 68)), some (65, false)⟩,
    ⟨(some 70), .op (.mv (.tmp 4)), some (65, false)⟩,
    ⟨(some 71), .op (.iaddrS (.tmp 69) (.tmp 70) 1), some (65, false)⟩,
    ⟨(some 72), .op (.load 1 false (.tmp 71)), some (65, false)⟩,
    ⟨(some 73), .op (.len false (.tmp 72)), some (65, false)⟩,
    ⟨(some 74), .op (.bin .neq (.tmp 73) (.const (Value.int .i64 2))), some (65, false)⟩,
    ⟨(some 75), .op (.pick (.tmp 65) (.const (Value.bool true)) (.tmp 74)), none⟩,
    ⟨(some 76), .op (.mv (.tmp 75)), none⟩,
    ⟨(some 77), .op (.mv (.tmp 0)), some (76, false)⟩,
    ⟨(some 78), .op (.nilc (.tmp 77)), some (76, false)⟩,
    ⟨(some 79), .op (.faddr (.tmp 78) 4), some (76, false)⟩,
    ⟨(some 80), .op (.load 1 false (.tmp 79)), some (76, false)⟩,
    ⟨(some 81), .op (.mv (.tmp 4)), some (76, false)⟩,
    ⟨(some 82), .op (.iaddrS (.tmp 80) (.tmp 81) 1), some (76, false)⟩,
    ⟨(some 83), .op (.load 1 false (.tmp 82)), some (76, false)⟩,
    ⟨(some 84), .op (.mv (.tmp 3)), some (76, false)⟩,
    ⟨(some 85), .call (.func i_spec_l06Moves) [(.tmp 83), (.const (Value.int .i64 2)), (.tmp 84)], some (76, false)⟩,
    ⟨(some 86), .op (.un .not (.tmp 85)), some (76, false)⟩,
    ⟨(some 87), .op (.pick (.tmp 76) (.const (Value.bool true)) (.tmp 86)), none⟩]) (.kill [56, 57, 58, 59, 60, 61, 62, 63, 64, 65, 66, 67, 68, 69, 70, 71, 72, 73, 74, 75, 76, 77, 78, 79, 80, 81, 82, 83, 84, 85, 86]))
  (.cond (.tmp 87) (.ghost (.kill [0, 3, 4, 87]) (.seq (.reg [⟨(some 2), .op (.mv (.const (Value.bool false))), none⟩])
  .ret))
  (.ghost (.kill [87]) .skip)))
  (.seq (.reg [⟨(some 5), .op (.mv (.const (Value.int .i64 0))), none⟩])
  (.post (.block 2 (.ghost .nv lo_spec_l06Ok_0)) .nv))))
  (.ghost (.kill [5]) (.post (.reg [⟨(some 54), .op (.mv (.tmp 4)), none⟩,
    ⟨(some 55), .op (.bin .add (.tmp 54) (.const (Value.int .i64 1))), none⟩,
    ⟨(some 4), .op (.mv (.tmp 55)), none⟩]) (.kill [54, 55]))))) .nv)
def lo_spec_l06Ok_1 : AC := (.loop lb_spec_l06Ok_1)
def ac_spec_l06Ok : AC := (.seq (.post (.reg [⟨(some 2), .op (.mv (.const (Value.bool false))), none⟩]) (.kill [2]))
  (.seq (.post (.reg [⟨(some 7), .op (.mv (.tmp 0)), none⟩,
    ⟨(some 8), .op (.nilc (.tmp 7)), none⟩,
    ⟨(some 9), .op (.faddr (.tmp 8) 2), none⟩,
    ⟨(some 10), .op (.load 1 false (.tmp 9)), none⟩,
    ⟨(some 11), .op (.len false (.tmp 10)), none⟩,
    ⟨(some 3), .op (.mv (.tmp 11)), none⟩]) (.kill [7, 8, 9, 10, 11]))
  (.seq (.seq (.post (.reg [⟨(some 12), .op (.mv (.tmp 3)), none⟩,
    ⟨(some 13), .call (.func i_spec_l00In) [(.tmp 12), (.const (Value.int .i64 1)), (.const (Value.int .i64 8))], none⟩,
    ⟨(some 14), .op (.un .not (.tmp 13)), none⟩,
    ⟨(some 15), .op (.mv (.tmp 14)), none⟩,
    ⟨(some 16), .op (.mv (.tmp 0)), some (15, false)⟩,
    ⟨(some 17), .op (.nilc (.tmp 16)), some (15, false)⟩,
    ⟨(some 18), .op (.faddr (.tmp 17) 0), some (15, false)⟩,
    ⟨(some 19), .op (.load 1 false (.tmp 18)), some (15, false)⟩,
    ⟨(some 20), .call (.func i_spec_l00In) [(.tmp 19), (.const (Value.int .i64 1)), (.const (Value.int .i64 8))], some (15, false)⟩,
    ⟨(some 21), .op (.un .not (.tmp 20)), some (15, false)⟩,
    ⟨(some 22), .op (.pick (.tmp 15) (.const (Value.bool true)) (.tmp 21)), none⟩,
    ⟨(some 23), .op (.mv (.tmp 22)), none⟩,
    ⟨(some 24), .op (.mv (.tmp 0)), some (23, false)⟩,
    ⟨(some 25), .op (.nilc (.tmp 24)), some (23, false)⟩,
    ⟨(some 26), .op (.faddr (.tmp 25) 1), some (23, false)⟩,
    ⟨(some 27), .op (.load 1 false (.tmp 26)), some (23, false)⟩,
    ⟨(some 28), .op (.mv (.tmp 3)), some (23, false)⟩,
    ⟨(some 29), .op (.bin .sub (.tmp 28) (.const (Value.int .i64 1))), some (23, false)⟩,
    ⟨(some 30), .call (.func i_spec_l00In) [(.tmp 27), (.const (Value.int .i64 0)), (.tmp 29)], some (23, false)⟩,
    ⟨(some 31), .op (.un .not (.tmp 30)), some (23, false)⟩,
    ⟨(some 32), .op (.pick (.tmp 23) (.const (Value.bool true)) (.tmp 31)), none⟩,
    ⟨(some 33), .op (.mv (.tmp 32)), none⟩,
    ⟨(some 34), .op (.mv (.tmp 0)), some (33, false)⟩,
    ⟨(some 35), .op (.nilc (.tmp 34)), some (33, false)⟩,
    ⟨(some 36), .op (.faddr (.tmp 35) 3), some (33, false)⟩,
    ⟨(some 37), .op (.load 1 false (.tmp 36)), some (33, false)⟩,
    ⟨(some 38), .op (.len false (.tmp 37)), some (33, false)⟩,
    ⟨(some 39), .op (.mv (.tmp 3)), some (33, false)⟩,
    ⟨(some 40), .op (.bin .neq (.tmp 38) (.tmp 39)), some (33, false)⟩,
    ⟨(some 41), .op (.pick (.tmp 33) (.const (Value.bool true)) (.tmp 40)), none⟩,
    ⟨(some 42), .op (.mv (.tmp 41)), none⟩,
    ⟨(some 43), .op (.mv (.tmp 0)), some (42, false)⟩,
    ⟨(some 44), .op (.nilc (.tmp 43)), some (42, false)⟩,
    ⟨(some 45), .op (.faddr (.tmp 44) 4), some (42, false)⟩,
    ⟨(some 46), .op (.load 1 false (.tmp 45)), some (42, false)⟩,
    ⟨(some 47), .op (.len false (.tmp 46)), some (42, false)⟩,
    ⟨(some 48), .op (.mv (.tmp 3)), some (42, false)⟩,
    ⟨(some 49), .op (.bin .neq (.tmp 47) (.tmp 48)), some (42, false)⟩,
    ⟨(some 50), .op (.pick (.tmp 42) (.const (Value.bool true)) (.tmp 49)), none⟩]) (.kill [12, 13, 14, 15, 16, 17, 18, 19, 20, 21, 22, 23, 24, 25, 26, 27, 28, 29, 30, 31, 32, 33, 34, 35, 36, 37, 38, 39, 40, 41, 42, 43, 44, 45, 46, 47, 48, 49]))
  (.cond (.tmp 50) (.ghost (.kill [0, 3, 50]) (.seq (.reg [⟨(some 2), .op (.mv (.const (Value.bool false))), none⟩])
  .ret))
  (.ghost (.kill [50]) .skip)))
  (.seq (.seq (.reg [⟨(some 4), .op (.mv (.const (Value.int .i64 0))), none⟩])
  (.post (.block 0 (.ghost .nv lo_spec_l06Ok_1)) .nv))
  (.ghost (.kill [0, 3, 4]) (.seq (.reg [⟨(some 2), .op (.mv (.const (Value.bool true))), none⟩])
  .ret))))))
theorem cf_spec_l06Ok : chkFn Try.prog i_spec_l06Ok ac_spec_l06Ok [.tmp 2] 145 = true := by decide +kernel
def fa_spec_l06Ok : FnA := ⟨ac_spec_l06Ok, [.tmp 2], 145, false, true, [], .any, none⟩

/-- The checked code of spec l00Own. -/
def ac_spec_l00Own : AC := (.seq (.post (.reg [⟨(some 2), .op (.mv (.const (Value.slice none 0 0))), none⟩]) (.kill [2]))
  (.seq (.post (.post (.reg [⟨(some 3), .op (.lits true 1 0 (Value.int .i64 0) []), none⟩,
    ⟨(some 4), .op (.mv (.tmp 0)), none⟩,
    ⟨(some 5), .op (.append (.tmp 3) (.tmp 4) 1 8), none⟩,
    ⟨(some 2), .op (.mv (.tmp 5)), none⟩]) (.kill [0, 3, 4, 5])) .nv)
  .ret))
theorem cf_spec_l00Own : chkFn Try.prog i_spec_l00Own ac_spec_l00Own [.tmp 2] 6 = true := by decide +kernel
def fa_spec_l00Own : FnA := ⟨ac_spec_l00Own, [.tmp 2], 6, false, false, [], .any, none⟩

/-- The checked code of spec l01Return. -/
def ac_spec_l01Return : AC := (.seq (.post (.reg [⟨(some 2), .op (.mv (.const (Value.bool false))), none⟩]) (.kill [2]))
  (.seq (.post (.reg [⟨(some 3), .op (.mv (.tmp 0)), none⟩,
    ⟨(some 4), .op (.bin .eql (.tmp 3) (.const (Value.int .u8 41))), none⟩,
    ⟨(some 5), .op (.mv (.tmp 4)), none⟩,
    ⟨(some 6), .op (.mv (.tmp 0)), some (5, false)⟩,
    ⟨(some 7), .op (.bin .eql (.tmp 6) (.const (Value.int .u8 93))), some (5, false)⟩,
    ⟨(some 8), .op (.pick (.tmp 5) (.const (Value.bool true)) (.tmp 7)), none⟩,
    ⟨(some 2), .op (.mv (.tmp 8)), none⟩]) (.kill [0, 3, 4, 5, 6, 7, 8]))
  .ret))
theorem cf_spec_l01Return : chkFn Try.prog i_spec_l01Return ac_spec_l01Return [.tmp 2] 9 = true := by decide +kernel
def fa_spec_l01Return : FnA := ⟨ac_spec_l01Return, [.tmp 2], 9, false, true, [], .any, none⟩

/-- The checked code of spec l01Call. -/
def ac_spec_l01Call : AC := (.seq (.post (.reg [⟨(some 2), .op (.mv (.const (Value.bool false))), none⟩]) (.kill [2]))
  (.seq (.post (.reg [⟨(some 3), .op (.mv (.tmp 0)), none⟩,
    ⟨(some 4), .op (.bin .eql (.tmp 3) (.const (Value.int .u8 40))), none⟩,
    ⟨(some 5), .op (.mv (.tmp 4)), none⟩,
    ⟨(some 6), .op (.mv (.tmp 0)), some (5, false)⟩,
    ⟨(some 7), .op (.bin .eql (.tmp 6) (.const (Value.int .u8 91))), some (5, false)⟩,
    ⟨(some 8), .op (.pick (.tmp 5) (.const (Value.bool true)) (.tmp 7)), none⟩,
    ⟨(some 2), .op (.mv (.tmp 8)), none⟩]) (.kill [0, 3, 4, 5, 6, 7, 8]))
  .ret))
theorem cf_spec_l01Call : chkFn Try.prog i_spec_l01Call ac_spec_l01Call [.tmp 2] 9 = true := by decide +kernel
def fa_spec_l01Call : FnA := ⟨ac_spec_l01Call, [.tmp 2], 9, false, true, [], .any, none⟩

/-- The checked code of spec l06Run  read. -/
def ac_P_spec_l06Run_read : AC := (.seq (.reg [⟨(some 4), .op (.mv (.const (Value.int .i64 0))), none⟩])
  (.seq (.seq (.post (.reg [⟨(some 8), .op (.mv (.tmp 1)), none⟩,
    ⟨(some 9), .op (.bin .eql (.tmp 8) (.const (Value.int .u8 91))), none⟩,
    ⟨(some 10), .op (.mv (.tmp 9)), none⟩,
    ⟨(some 11), .op (.mv (.tmp 1)), some (10, false)⟩,
    ⟨(some 12), .op (.bin .eql (.tmp 11) (.const (Value.int .u8 93))), some (10, false)⟩,
    ⟨(some 13), .op (.pick (.tmp 10) (.const (Value.bool true)) (.tmp 12)), none⟩,
    ⟨(some 14), .op (.mv (.tmp 13)), none⟩,
    ⟨(some 15), .op (.mv (.tmp 1)), some (14, false)⟩,
    ⟨(some 16), .op (.bin .eql (.tmp 15) (.const (Value.int .u8 98))), some (14, false)⟩,
    ⟨(some 17), .op (.pick (.tmp 14) (.const (Value.bool true)) (.tmp 16)), none⟩]) (.kill [8, 9, 10, 11, 12, 13, 14, 15, 16]))
  (.cond (.tmp 17) (.ghost (.kill [4, 17]) (.reg [⟨(some 4), .op (.mv (.const (Value.int .i64 1))), none⟩]))
  (.ghost (.kill [17]) .skip)))
  (.seq (.seq (.post (.reg [⟨(some 18), .op (.mv (.tmp 1)), none⟩,
    ⟨(some 19), .call (.func i_spec_l01Call) [(.tmp 18)], none⟩]) (.kill [18]))
  (.cond (.tmp 19) (.ghost (.kill [1, 19]) (.seq (.post (.draw [⟨0, ⟨(some 20), .op (.mv (.tmp 0)), none⟩, []⟩,
    ⟨1, ⟨(some 21), .op (.nilc (.tmp 20)), none⟩, []⟩,
    ⟨2, ⟨(some 22), .op (.faddr (.tmp 21) 0), none⟩, []⟩,
    ⟨3, ⟨(some 23), .op (.load 1 false (.tmp 22)), none⟩, []⟩,
    ⟨4, ⟨(some 24), .op (.nilc (.tmp 23)), none⟩, []⟩,
    ⟨5, ⟨(some 25), .op (.faddr (.tmp 24) 2), none⟩, []⟩,
    ⟨6, ⟨(some 26), .op (.load 1 false (.tmp 25)), none⟩, []⟩,
    ⟨7, ⟨(some 27), .op (.mv (.tmp 0)), none⟩, []⟩,
    ⟨8, ⟨(some 28), .op (.nilc (.tmp 27)), none⟩, []⟩,
    ⟨9, ⟨(some 29), .op (.faddr (.tmp 28) 1), none⟩, []⟩,
    ⟨10, ⟨(some 30), .op (.load 1 false (.tmp 29)), none⟩, []⟩,
    ⟨11, ⟨(some 31), .op (.iaddrS (.tmp 26) (.tmp 30) 1), none⟩, []⟩,
    ⟨12, ⟨(some 32), .op (.load 1 false (.tmp 31)), none⟩, []⟩,
    ⟨13, ⟨(some 33), .op (.mv (.tmp 4)), none⟩, []⟩,
    ⟨14, ⟨(some 34), .op (.iaddrS (.tmp 32) (.tmp 33) 3), none⟩, []⟩,
    ⟨15, ⟨(some 35), .op (.load 3 true (.tmp 34)), none⟩, []⟩,
    ⟨16, ⟨(some 5), .op (.alloc (Value.agg #[Value.int .i64 0, Value.int .i64 0, Value.string ⟨#[]⟩])), none⟩, [3, 6, 10, 11, 12, 14, 15]⟩,
    ⟨17, ⟨none, .op (.store 3 (.tmp 5) (.tmp 35)), none⟩, []⟩]
    [0, 1, 3, 7, 15, 31, 63, 0, 128, 384, 896, 2047, 4095, 0, 16383, 32767, 0, 131071]) (.kill [4, 20, 21, 22, 23, 24, 25, 26, 27, 28, 29, 30, 31, 32, 33, 34, 35]))
  (.seq (.post (.reg [⟨(some 36), .op (.mv (.tmp 0)), none⟩,
    ⟨(some 37), .op (.faddr (.tmp 5) 0), none⟩,
    ⟨(some 38), .op (.load 1 false (.tmp 37)), none⟩,
    ⟨(some 39), .op (.nilc (.tmp 36)), none⟩,
    ⟨(some 40), .op (.faddr (.tmp 39) 1), none⟩,
    ⟨none, .op (.store 1 (.tmp 40) (.tmp 38)), none⟩]) (.kill [36, 37, 38, 39, 40]))
  (.seq (.post (.post (.draw [⟨0, ⟨(some 41), .op (.mv (.tmp 0)), none⟩, []⟩,
    ⟨1, ⟨(some 42), .op (.mv (.tmp 0)), none⟩, []⟩,
    ⟨2, ⟨(some 43), .op (.nilc (.tmp 42)), none⟩, []⟩,
    ⟨3, ⟨(some 44), .op (.faddr (.tmp 43) 2), none⟩, []⟩,
    ⟨4, ⟨(some 45), .op (.load 1 false (.tmp 44)), none⟩, []⟩,
    ⟨5, ⟨(some 46), .op (.faddr (.tmp 5) 1), none⟩, []⟩,
    ⟨6, ⟨(some 47), .op (.load 1 false (.tmp 46)), none⟩, []⟩,
    ⟨7, ⟨(some 48), .op (.lits true 1 1 (Value.int .i64 0) [(0, (.tmp 47))]), none⟩, []⟩,
    ⟨8, ⟨(some 49), .op (.append (.tmp 45) (.tmp 48) 1 8), none⟩, []⟩,
    ⟨9, ⟨(some 50), .op (.nilc (.tmp 41)), none⟩, []⟩,
    ⟨10, ⟨(some 51), .op (.faddr (.tmp 50) 2), none⟩, []⟩,
    ⟨11, ⟨none, .op (.store 1 (.tmp 51) (.tmp 49)), none⟩, []⟩]
    [0, 0, 2, 6, 14, 0, 32, 96, 254, 511, 1023, 2047]) (.kill [41, 42, 43, 44, 45, 46, 47, 48, 49, 50, 51])) .nv)
  (.seq (.post (.post (.draw [⟨0, ⟨(some 52), .op (.mv (.tmp 0)), none⟩, []⟩,
    ⟨1, ⟨(some 53), .op (.mv (.tmp 0)), none⟩, []⟩,
    ⟨2, ⟨(some 54), .op (.nilc (.tmp 53)), none⟩, []⟩,
    ⟨3, ⟨(some 55), .op (.faddr (.tmp 54) 3), none⟩, []⟩,
    ⟨4, ⟨(some 56), .op (.load 1 false (.tmp 55)), none⟩, []⟩,
    ⟨5, ⟨(some 57), .op (.faddr (.tmp 5) 2), none⟩, []⟩,
    ⟨6, ⟨(some 58), .op (.load 1 false (.tmp 57)), none⟩, []⟩,
    ⟨7, ⟨(some 59), .op (.append (.tmp 56) (.tmp 58) 1 1), none⟩, []⟩,
    ⟨8, ⟨(some 60), .op (.nilc (.tmp 52)), none⟩, []⟩,
    ⟨9, ⟨(some 61), .op (.faddr (.tmp 60) 3), none⟩, []⟩,
    ⟨10, ⟨none, .op (.store 1 (.tmp 61) (.tmp 59)), none⟩, []⟩]
    [0, 0, 2, 6, 14, 0, 32, 126, 255, 511, 1023]) (.kill [0, 5, 52, 53, 54, 55, 56, 57, 58, 59, 60, 61])) .nv)
  .ret)))))
  (.ghost (.kill [19]) .skip)))
  (.seq (.post (.draw [⟨0, ⟨(some 62), .op (.mv (.tmp 0)), none⟩, []⟩,
    ⟨1, ⟨(some 63), .op (.nilc (.tmp 62)), none⟩, []⟩,
    ⟨2, ⟨(some 64), .op (.faddr (.tmp 63) 0), none⟩, []⟩,
    ⟨3, ⟨(some 65), .op (.load 1 false (.tmp 64)), none⟩, []⟩,
    ⟨4, ⟨(some 66), .op (.nilc (.tmp 65)), none⟩, []⟩,
    ⟨5, ⟨(some 67), .op (.faddr (.tmp 66) 4), none⟩, []⟩,
    ⟨6, ⟨(some 68), .op (.load 1 false (.tmp 67)), none⟩, []⟩,
    ⟨7, ⟨(some 69), .op (.mv (.tmp 0)), none⟩, []⟩,
    ⟨8, ⟨(some 70), .op (.nilc (.tmp 69)), none⟩, []⟩,
    ⟨9, ⟨(some 71), .op (.faddr (.tmp 70) 1), none⟩, []⟩,
    ⟨10, ⟨(some 72), .op (.load 1 false (.tmp 71)), none⟩, []⟩,
    ⟨11, ⟨(some 73), .op (.iaddrS (.tmp 68) (.tmp 72) 1), none⟩, []⟩,
    ⟨12, ⟨(some 74), .op (.load 1 false (.tmp 73)), none⟩, []⟩,
    ⟨13, ⟨(some 75), .op (.mv (.tmp 4)), none⟩, []⟩,
    ⟨14, ⟨(some 76), .op (.iaddrS (.tmp 74) (.tmp 75) 2), none⟩, []⟩,
    ⟨15, ⟨(some 77), .op (.load 2 true (.tmp 76)), none⟩, []⟩,
    ⟨16, ⟨(some 6), .op (.alloc (Value.agg #[Value.int .i64 0, Value.string ⟨#[]⟩])), none⟩, [3, 6, 10, 11, 12, 14, 15]⟩,
    ⟨17, ⟨none, .op (.store 2 (.tmp 6) (.tmp 77)), none⟩, []⟩]
    [0, 1, 3, 7, 15, 31, 63, 0, 128, 384, 896, 2047, 4095, 0, 16383, 32767, 0, 131071]) (.kill [62, 63, 64, 65, 66, 67, 68, 69, 70, 71, 72, 73, 74, 75, 76, 77]))
  (.seq (.seq (.post (.reg [⟨(some 78), .op (.mv (.tmp 1)), none⟩,
    ⟨(some 79), .call (.func i_spec_l01Return) [(.tmp 78)], none⟩]) (.kill [1, 78]))
  (.cond (.tmp 79) (.ghost (.kill [79]) (.seq (.post (.reg [⟨(some 80), .op (.mv (.tmp 0)), none⟩,
    ⟨(some 81), .op (.nilc (.tmp 80)), none⟩,
    ⟨(some 82), .op (.faddr (.tmp 81) 0), none⟩,
    ⟨(some 83), .op (.load 1 false (.tmp 82)), none⟩,
    ⟨(some 84), .op (.nilc (.tmp 83)), none⟩,
    ⟨(some 85), .op (.faddr (.tmp 84) 0), none⟩,
    ⟨(some 86), .op (.load 1 false (.tmp 85)), none⟩,
    ⟨(some 7), .op (.mv (.tmp 86)), none⟩]) (.kill [80, 81, 82, 83, 84, 85, 86]))
  (.seq (.seq (.post (.reg [⟨(some 87), .op (.mv (.tmp 0)), none⟩,
    ⟨(some 88), .op (.nilc (.tmp 87)), none⟩,
    ⟨(some 89), .op (.faddr (.tmp 88) 2), none⟩,
    ⟨(some 90), .op (.load 1 false (.tmp 89)), none⟩,
    ⟨(some 91), .op (.len false (.tmp 90)), none⟩,
    ⟨(some 92), .op (.bin .gtr (.tmp 91) (.const (Value.int .i64 0))), none⟩]) (.kill [87, 88, 89, 90, 91]))
  (.cond (.tmp 92) (.ghost (.kill [7, 92]) (.seq (.post (.draw [⟨0, ⟨(some 93), .op (.mv (.tmp 0)), none⟩, []⟩,
    ⟨1, ⟨(some 94), .op (.nilc (.tmp 93)), none⟩, []⟩,
    ⟨2, ⟨(some 95), .op (.faddr (.tmp 94) 2), none⟩, []⟩,
    ⟨3, ⟨(some 96), .op (.load 1 false (.tmp 95)), none⟩, []⟩,
    ⟨4, ⟨(some 97), .op (.mv (.tmp 0)), none⟩, []⟩,
    ⟨5, ⟨(some 98), .op (.nilc (.tmp 97)), none⟩, []⟩,
    ⟨6, ⟨(some 99), .op (.faddr (.tmp 98) 2), none⟩, []⟩,
    ⟨7, ⟨(some 100), .op (.load 1 false (.tmp 99)), none⟩, []⟩,
    ⟨8, ⟨(some 101), .op (.len false (.tmp 100)), none⟩, []⟩,
    ⟨9, ⟨(some 102), .op (.bin .sub (.tmp 101) (.const (Value.int .i64 1))), none⟩, []⟩,
    ⟨10, ⟨(some 103), .op (.iaddrS (.tmp 96) (.tmp 102) 1), none⟩, []⟩,
    ⟨11, ⟨(some 104), .op (.load 1 false (.tmp 103)), none⟩, []⟩,
    ⟨12, ⟨(some 7), .op (.mv (.tmp 104)), none⟩, []⟩]
    [0, 1, 3, 7, 0, 16, 48, 112, 240, 496, 1023, 2047, 4095]) (.kill [93, 94, 95, 96, 97, 98, 99, 100, 101, 102, 103, 104]))
  (.post (.post (.draw [⟨0, ⟨(some 105), .op (.mv (.tmp 0)), none⟩, []⟩,
    ⟨1, ⟨(some 106), .op (.mv (.tmp 0)), none⟩, []⟩,
    ⟨2, ⟨(some 107), .op (.nilc (.tmp 106)), none⟩, []⟩,
    ⟨3, ⟨(some 108), .op (.faddr (.tmp 107) 2), none⟩, []⟩,
    ⟨4, ⟨(some 109), .op (.load 1 false (.tmp 108)), none⟩, []⟩,
    ⟨5, ⟨(some 110), .op (.mv (.tmp 0)), none⟩, []⟩,
    ⟨6, ⟨(some 111), .op (.nilc (.tmp 110)), none⟩, []⟩,
    ⟨7, ⟨(some 112), .op (.faddr (.tmp 111) 2), none⟩, []⟩,
    ⟨8, ⟨(some 113), .op (.load 1 false (.tmp 112)), none⟩, []⟩,
    ⟨9, ⟨(some 114), .op (.len false (.tmp 113)), none⟩, []⟩,
    ⟨10, ⟨(some 115), .op (.bin .sub (.tmp 114) (.const (Value.int .i64 1))), none⟩, []⟩,
    ⟨11, ⟨(some 116), .op (.slcS (.tmp 109) none (some (.tmp 115)) none 1), none⟩, []⟩,
    ⟨12, ⟨(some 117), .op (.nilc (.tmp 105)), none⟩, []⟩,
    ⟨13, ⟨(some 118), .op (.faddr (.tmp 117) 2), none⟩, []⟩,
    ⟨14, ⟨none, .op (.store 1 (.tmp 118) (.tmp 116)), none⟩, []⟩]
    [0, 0, 2, 6, 14, 0, 32, 96, 224, 480, 992, 2046, 4095, 8191, 16383]) (.kill [105, 106, 107, 108, 109, 110, 111, 112, 113, 114, 115, 116, 117, 118])) .nv)))
  (.ghost (.kill [92]) .skip)))
  (.post (.draw [⟨0, ⟨(some 119), .op (.mv (.tmp 0)), none⟩, []⟩,
    ⟨1, ⟨(some 120), .op (.nilc (.tmp 119)), none⟩, []⟩,
    ⟨2, ⟨(some 121), .op (.faddr (.tmp 120) 0), none⟩, []⟩,
    ⟨3, ⟨(some 122), .op (.load 1 false (.tmp 121)), none⟩, []⟩,
    ⟨4, ⟨(some 123), .op (.nilc (.tmp 122)), none⟩, []⟩,
    ⟨5, ⟨(some 124), .op (.faddr (.tmp 123) 3), none⟩, []⟩,
    ⟨6, ⟨(some 125), .op (.load 1 false (.tmp 124)), none⟩, []⟩,
    ⟨7, ⟨(some 126), .op (.mv (.tmp 0)), none⟩, []⟩,
    ⟨8, ⟨(some 127), .op (.nilc (.tmp 126)), none⟩, []⟩,
    ⟨9, ⟨(some 128), .op (.faddr (.tmp 127) 1), none⟩, []⟩,
    ⟨10, ⟨(some 129), .op (.load 1 false (.tmp 128)), none⟩, []⟩,
    ⟨11, ⟨(some 130), .op (.iaddrS (.tmp 125) (.tmp 129) 1), none⟩, []⟩,
    ⟨12, ⟨(some 131), .op (.load 1 false (.tmp 130)), none⟩, []⟩,
    ⟨13, ⟨(some 132), .op (.mv (.tmp 4)), none⟩, []⟩,
    ⟨14, ⟨(some 133), .op (.iaddrS (.tmp 131) (.tmp 132) 1), none⟩, []⟩,
    ⟨15, ⟨(some 134), .op (.load 1 false (.tmp 133)), none⟩, []⟩,
    ⟨16, ⟨(some 135), .op (.mv (.tmp 7)), none⟩, []⟩,
    ⟨17, ⟨(some 136), .op (.iaddrS (.tmp 134) (.tmp 135) 2), none⟩, []⟩,
    ⟨18, ⟨(some 137), .op (.load 2 true (.tmp 136)), none⟩, []⟩,
    ⟨19, ⟨none, .op (.store 2 (.tmp 6) (.tmp 137)), none⟩, []⟩]
    [0, 1, 3, 7, 15, 31, 63, 0, 128, 384, 896, 2047, 4095, 0, 16383, 32767, 0, 131071, 262143, 524287]) (.kill [4, 7, 119, 120, 121, 122, 123, 124, 125, 126, 127, 128, 129, 130, 131, 132, 133, 134, 135, 136, 137])))))
  (.ghost (.kill [4, 79]) .skip)))
  (.seq (.post (.reg [⟨(some 138), .op (.mv (.tmp 0)), none⟩,
    ⟨(some 139), .op (.faddr (.tmp 6) 0), none⟩,
    ⟨(some 140), .op (.load 1 false (.tmp 139)), none⟩,
    ⟨(some 141), .op (.nilc (.tmp 138)), none⟩,
    ⟨(some 142), .op (.faddr (.tmp 141) 1), none⟩,
    ⟨none, .op (.store 1 (.tmp 142) (.tmp 140)), none⟩]) (.kill [138, 139, 140, 141, 142]))
  (.post (.post (.draw [⟨0, ⟨(some 143), .op (.mv (.tmp 0)), none⟩, []⟩,
    ⟨1, ⟨(some 144), .op (.mv (.tmp 0)), none⟩, []⟩,
    ⟨2, ⟨(some 145), .op (.nilc (.tmp 144)), none⟩, []⟩,
    ⟨3, ⟨(some 146), .op (.faddr (.tmp 145) 3), none⟩, []⟩,
    ⟨4, ⟨(some 147), .op (.load 1 false (.tmp 146)), none⟩, []⟩,
    ⟨5, ⟨(some 148), .op (.faddr (.tmp 6) 1), none⟩, []⟩,
    ⟨6, ⟨(some 149), .op (.load 1 false (.tmp 148)), none⟩, []⟩,
    ⟨7, ⟨(some 150), .op (.append (.tmp 147) (.tmp 149) 1 1), none⟩, []⟩,
    ⟨8, ⟨(some 151), .op (.nilc (.tmp 143)), none⟩, []⟩,
    ⟨9, ⟨(some 152), .op (.faddr (.tmp 151) 3), none⟩, []⟩,
    ⟨10, ⟨none, .op (.store 1 (.tmp 152) (.tmp 150)), none⟩, []⟩]
    [0, 0, 2, 6, 14, 0, 32, 126, 255, 511, 1023]) (.kill [0, 6, 143, 144, 145, 146, 147, 148, 149, 150, 151, 152])) .nv)))))))
theorem cf_P_spec_l06Run_read : chkFn Try.prog i_P_spec_l06Run_read ac_P_spec_l06Run_read [] 153 = true := by decide +kernel
def fa_P_spec_l06Run_read : FnA := ⟨ac_P_spec_l06Run_read, [], 153, true, false, [], .any, none⟩

/-- The checked code of spec l06Reads. -/
def lb_spec_l06Reads_0 : AC := (.post (.seq (.seq (.post (.reg [⟨(some 17), .op (.mv (.tmp 10)), none⟩,
    ⟨(some 18), .op (.mv (.tmp 3)), none⟩,
    ⟨(some 19), .op (.len true (.tmp 18)), none⟩,
    ⟨(some 20), .op (.bin .lss (.tmp 17) (.tmp 19)), none⟩]) (.kill [17, 18, 19]))
  (.cond (.tmp 20) (.ghost (.kill [20]) .skip)
  (.ghost (.kill [3, 10, 20]) (.exit 0))))
  (.seq (.block 1 (.post (.reg [⟨(some 23), .op (.mv (.tmp 9)), none⟩,
    ⟨(some 24), .op (.mv (.tmp 3)), none⟩,
    ⟨(some 25), .op (.mv (.tmp 10)), none⟩,
    ⟨(some 26), .op (.idxStr (.tmp 24) (.tmp 25)), none⟩,
    ⟨(some 27), .call (.func i_P_spec_l06Run_read) [(.tmp 23), (.tmp 26)], none⟩]) (.kill [23, 24, 25, 26, 27])))
  (.post (.reg [⟨(some 21), .op (.mv (.tmp 10)), none⟩,
    ⟨(some 22), .op (.bin .add (.tmp 21) (.const (Value.int .i64 1))), none⟩,
    ⟨(some 10), .op (.mv (.tmp 22)), none⟩]) (.kill [21, 22])))) .nv)
def lo_spec_l06Reads_0 : AC := (.loop lb_spec_l06Reads_0)
def ac_spec_l06Reads : AC := (.seq (.post (.reg [⟨(some 8), .op (.mv (.const (Value.pointer none))), none⟩]) (.kill [8]))
  (.seq (.post (.reg [⟨(some 11), .op (.mv (.tmp 0)), none⟩,
    ⟨(some 12), .op (.mv (.tmp 1)), none⟩,
    ⟨(some 13), .op (.mv (.tmp 2)), none⟩,
    ⟨(some 14), .call (.func i_spec_l00Own) [(.tmp 13)], none⟩,
    ⟨(some 15), .op (.build [Value.pointer none, Value.int .i64 0, Value.slice none 0 0, Value.slice none 0 0] [(0, 1, (.tmp 11)), (1, 1, (.tmp 12)), (2, 1, (.tmp 14))]), none⟩,
    ⟨(some 16), .op (.box false (.tmp 15)), none⟩,
    ⟨(some 9), .op (.mv (.tmp 16)), none⟩]) (.kill [0, 1, 2, 11, 12, 13, 14, 15, 16]))
  (.seq (.seq (.reg [⟨(some 10), .op (.mv (.const (Value.int .i64 0))), none⟩])
  (.post (.block 0 (.ghost (.ow 9 (some 3) 1) (.ghost .nv lo_spec_l06Reads_0))) .nv))
  (.ghost (.kill [3, 10]) (.seq (.post (.reg [⟨(some 28), .op (.mv (.tmp 9)), none⟩,
    ⟨(some 8), .op (.mv (.tmp 28)), none⟩]) (.kill [9, 28]))
  .ret)))))
theorem cf_spec_l06Reads : chkFn Try.prog i_spec_l06Reads ac_spec_l06Reads [.tmp 8] 29 = true := by decide +kernel
def fa_spec_l06Reads : FnA := ⟨ac_spec_l06Reads, [.tmp 8], 29, false, false, [], .any, none⟩

/-- The checked code of spec l01Partners. -/
def lb_spec_l01Partners_0 : AC := (.post (.seq (.seq (.post (.reg [⟨(some 9), .op (.mv (.tmp 5)), none⟩,
    ⟨(some 10), .op (.mv (.tmp 0)), none⟩,
    ⟨(some 11), .op (.len true (.tmp 10)), none⟩,
    ⟨(some 12), .op (.bin .lss (.tmp 9) (.tmp 11)), none⟩]) (.kill [9, 10, 11]))
  (.cond (.tmp 12) (.ghost (.kill [12]) .skip)
  (.ghost (.kill [0, 4, 5, 12]) (.exit 0))))
  (.seq (.block 1 (.block 2 (.seq (.post (.reg [⟨(some 19), .op (.mv (.tmp 0)), none⟩,
    ⟨(some 20), .op (.mv (.tmp 5)), none⟩,
    ⟨(some 21), .op (.idxStr (.tmp 19) (.tmp 20)), none⟩,
    ⟨(some 22), .call (.func i_spec_l01Call) [(.tmp 21)], none⟩,
    ⟨(some 18), .op (.mv (.tmp 22)), none⟩]) (.kill [19, 20, 21, 22]))
  (.cond (.tmp 18) (.ghost (.kill [18]) (.seq (.post (.post (.reg [⟨(some 23), .op (.mv (.tmp 3)), none⟩,
    ⟨(some 24), .op (.lits true 1 1 (Value.int .i64 0) [(0, (.const (Value.int .i64 (-2))))]), none⟩,
    ⟨(some 25), .op (.append (.tmp 23) (.tmp 24) 1 8), none⟩,
    ⟨(some 3), .op (.mv (.tmp 25)), none⟩]) (.kill [23, 24, 25])) .nv)
  (.post (.post (.reg [⟨(some 26), .op (.mv (.tmp 4)), none⟩,
    ⟨(some 27), .op (.mv (.tmp 5)), none⟩,
    ⟨(some 28), .op (.lits true 1 1 (Value.int .i64 0) [(0, (.tmp 27))]), none⟩,
    ⟨(some 29), .op (.append (.tmp 26) (.tmp 28) 1 8), none⟩,
    ⟨(some 4), .op (.mv (.tmp 29)), none⟩]) (.kill [26, 27, 28, 29])) .nv)))
  (.ghost (.kill [18]) (.seq (.post (.reg [⟨(some 31), .op (.mv (.tmp 0)), none⟩,
    ⟨(some 32), .op (.mv (.tmp 5)), none⟩,
    ⟨(some 33), .op (.idxStr (.tmp 31) (.tmp 32)), none⟩,
    ⟨(some 34), .call (.func i_spec_l01Return) [(.tmp 33)], none⟩,
    ⟨(some 35), .op (.mv (.tmp 34)), none⟩,
    ⟨(some 36), .op (.mv (.tmp 4)), some (35, true)⟩,
    ⟨(some 37), .op (.len false (.tmp 36)), some (35, true)⟩,
    ⟨(some 38), .op (.bin .gtr (.tmp 37) (.const (Value.int .i64 0))), some (35, true)⟩,
    ⟨(some 39), .op (.pick (.tmp 35) (.tmp 38) (.const (Value.bool false))), none⟩,
    ⟨(some 30), .op (.mv (.tmp 39)), none⟩]) (.kill [31, 32, 33, 34, 35, 36, 37, 38, 39]))
  (.cond (.tmp 30) (.ghost (.kill [30]) (.seq (.post (.reg [⟨(some 40), .op (.mv (.tmp 4)), none⟩,
    ⟨(some 41), .op (.mv (.tmp 4)), none⟩,
    ⟨(some 42), .op (.len false (.tmp 41)), none⟩,
    ⟨(some 43), .op (.bin .sub (.tmp 42) (.const (Value.int .i64 1))), none⟩,
    ⟨(some 44), .op (.iaddrS (.tmp 40) (.tmp 43) 1), none⟩,
    ⟨(some 45), .op (.load 1 false (.tmp 44)), none⟩,
    ⟨(some 6), .op (.mv (.tmp 45)), none⟩]) (.kill [40, 41, 42, 43, 44, 45]))
  (.seq (.post (.post (.reg [⟨(some 46), .op (.mv (.tmp 4)), none⟩,
    ⟨(some 47), .op (.mv (.tmp 4)), none⟩,
    ⟨(some 48), .op (.len false (.tmp 47)), none⟩,
    ⟨(some 49), .op (.bin .sub (.tmp 48) (.const (Value.int .i64 1))), none⟩,
    ⟨(some 50), .op (.slcS (.tmp 46) none (some (.tmp 49)) none 1), none⟩,
    ⟨(some 4), .op (.mv (.tmp 50)), none⟩]) (.kill [46, 47, 48, 49, 50])) .nv)
  (.seq (.post (.reg [⟨(some 51), .op (.mv (.tmp 3)), none⟩,
    ⟨(some 52), .op (.mv (.tmp 6)), none⟩,
    ⟨(some 53), .op (.mv (.tmp 5)), none⟩,
    ⟨(some 54), .op (.iaddrS (.tmp 51) (.tmp 52) 1), none⟩,
    ⟨none, .op (.store 1 (.tmp 54) (.tmp 53)), none⟩]) (.kill [51, 52, 53, 54]))
  (.post (.post (.reg [⟨(some 55), .op (.mv (.tmp 3)), none⟩,
    ⟨(some 56), .op (.mv (.tmp 6)), none⟩,
    ⟨(some 57), .op (.lits true 1 1 (Value.int .i64 0) [(0, (.tmp 56))]), none⟩,
    ⟨(some 58), .op (.append (.tmp 55) (.tmp 57) 1 8), none⟩,
    ⟨(some 3), .op (.mv (.tmp 58)), none⟩]) (.kill [6, 55, 56, 57, 58])) .nv)))))
  (.ghost (.kill [30]) (.seq (.post (.reg [⟨(some 60), .op (.mv (.tmp 0)), none⟩,
    ⟨(some 61), .op (.mv (.tmp 5)), none⟩,
    ⟨(some 62), .op (.idxStr (.tmp 60) (.tmp 61)), none⟩,
    ⟨(some 63), .call (.func i_spec_l01Return) [(.tmp 62)], none⟩,
    ⟨(some 59), .op (.mv (.tmp 63)), none⟩]) (.kill [60, 61, 62, 63]))
  (.cond (.tmp 59) (.ghost (.kill [59]) (.post (.post (.reg [⟨(some 64), .op (.mv (.tmp 3)), none⟩,
    ⟨(some 65), .op (.lits true 1 1 (Value.int .i64 0) [(0, (.const (Value.int .i64 (-2))))]), none⟩,
    ⟨(some 66), .op (.append (.tmp 64) (.tmp 65) 1 8), none⟩,
    ⟨(some 3), .op (.mv (.tmp 66)), none⟩]) (.kill [64, 65, 66])) .nv))
  (.ghost (.kill [59]) (.post (.post (.reg [⟨(some 15), .op (.mv (.tmp 3)), none⟩,
    ⟨(some 16), .op (.lits true 1 1 (Value.int .i64 0) [(0, (.const (Value.int .i64 (-1))))]), none⟩,
    ⟨(some 17), .op (.append (.tmp 15) (.tmp 16) 1 8), none⟩,
    ⟨(some 3), .op (.mv (.tmp 17)), none⟩]) (.kill [15, 16, 17])) .nv))))))))))))
  (.post (.reg [⟨(some 13), .op (.mv (.tmp 5)), none⟩,
    ⟨(some 14), .op (.bin .add (.tmp 13) (.const (Value.int .i64 1))), none⟩,
    ⟨(some 5), .op (.mv (.tmp 14)), none⟩]) (.kill [13, 14])))) .nv)
def lo_spec_l01Partners_0 : AC := (.loop lb_spec_l01Partners_0)
def ac_spec_l01Partners : AC := (.seq (.post (.reg [⟨(some 2), .op (.mv (.const (Value.slice none 0 0))), none⟩]) (.kill [2]))
  (.seq (.post (.reg [⟨(some 7), .op (.lits true 1 0 (Value.int .i64 0) []), none⟩,
    ⟨(some 3), .op (.mv (.tmp 7)), none⟩]) (.kill [7]))
  (.seq (.post (.reg [⟨(some 8), .op (.lits true 1 0 (Value.int .i64 0) []), none⟩,
    ⟨(some 4), .op (.mv (.tmp 8)), none⟩]) (.kill [8]))
  (.seq (.seq (.reg [⟨(some 5), .op (.mv (.const (Value.int .i64 0))), none⟩])
  (.post (.block 0 (.ghost (.ow 3 none 1) (.ghost (.ow 4 none 1) (.ghost .nv lo_spec_l01Partners_0)))) .nv))
  (.ghost (.kill [0, 4, 5]) (.seq (.post (.reg [⟨(some 67), .op (.mv (.tmp 3)), none⟩,
    ⟨(some 2), .op (.mv (.tmp 67)), none⟩]) (.kill [3, 67]))
  .ret))))))
theorem cf_spec_l01Partners : chkFn Try.prog i_spec_l01Partners ac_spec_l01Partners [.tmp 2] 68 = true := by decide +kernel
def fa_spec_l01Partners : FnA := ⟨ac_spec_l01Partners, [.tmp 2], 68, false, true, [], .any, none⟩

/-- The checked code of spec l01Pending. -/
def lb_spec_l01Pending_0 : AC := (.seq (.seq (.post (.reg [⟨(some 10), .op (.mv (.tmp 7)), none⟩,
    ⟨(some 11), .op (.mv (.tmp 0)), none⟩,
    ⟨(some 12), .op (.len true (.tmp 11)), none⟩,
    ⟨(some 13), .op (.bin .lss (.tmp 10) (.tmp 12)), none⟩]) (.kill [10, 11, 12]))
  (.cond (.tmp 13) (.ghost (.kill [13]) .skip)
  (.ghost (.kill [0, 4, 7, 13]) (.exit 0))))
  (.seq (.block 1 (.seq (.seq (.post (.reg [⟨(some 16), .op (.mv (.tmp 4)), none⟩,
    ⟨(some 17), .op (.mv (.tmp 7)), none⟩,
    ⟨(some 18), .op (.iaddrS (.tmp 16) (.tmp 17) 1), none⟩,
    ⟨(some 19), .op (.load 1 false (.tmp 18)), none⟩,
    ⟨(some 20), .op (.bin .eql (.tmp 19) (.const (Value.int .i64 (-2)))), none⟩,
    ⟨(some 21), .op (.mv (.tmp 20)), none⟩,
    ⟨(some 22), .op (.mv (.tmp 0)), some (21, true)⟩,
    ⟨(some 23), .op (.mv (.tmp 7)), some (21, true)⟩,
    ⟨(some 24), .op (.idxStr (.tmp 22) (.tmp 23)), some (21, true)⟩,
    ⟨(some 25), .call (.func i_spec_l01Return) [(.tmp 24)], some (21, true)⟩,
    ⟨(some 26), .op (.pick (.tmp 21) (.tmp 25) (.const (Value.bool false))), none⟩]) (.kill [16, 17, 18, 19, 20, 21, 22, 23, 24, 25]))
  (.cond (.tmp 26) (.ghost (.kill [26]) (.post (.reg [⟨(some 27), .op (.mv (.tmp 5)), none⟩,
    ⟨(some 28), .op (.bin .add (.tmp 27) (.const (Value.int .i64 1))), none⟩,
    ⟨(some 5), .op (.mv (.tmp 28)), none⟩]) (.kill [27, 28])))
  (.ghost (.kill [26]) .skip)))
  (.seq (.post (.reg [⟨(some 29), .op (.mv (.tmp 4)), none⟩,
    ⟨(some 30), .op (.mv (.tmp 7)), none⟩,
    ⟨(some 31), .op (.iaddrS (.tmp 29) (.tmp 30) 1), none⟩,
    ⟨(some 32), .op (.load 1 false (.tmp 31)), none⟩,
    ⟨(some 33), .op (.bin .eql (.tmp 32) (.const (Value.int .i64 (-2)))), none⟩,
    ⟨(some 34), .op (.mv (.tmp 33)), none⟩,
    ⟨(some 35), .op (.mv (.tmp 0)), some (34, true)⟩,
    ⟨(some 36), .op (.mv (.tmp 7)), some (34, true)⟩,
    ⟨(some 37), .op (.idxStr (.tmp 35) (.tmp 36)), some (34, true)⟩,
    ⟨(some 38), .call (.func i_spec_l01Call) [(.tmp 37)], some (34, true)⟩,
    ⟨(some 39), .op (.pick (.tmp 34) (.tmp 38) (.const (Value.bool false))), none⟩]) (.kill [29, 30, 31, 32, 33, 34, 35, 36, 37, 38]))
  (.cond (.tmp 39) (.ghost (.kill [39]) (.post (.reg [⟨(some 40), .op (.mv (.tmp 6)), none⟩,
    ⟨(some 41), .op (.bin .add (.tmp 40) (.const (Value.int .i64 1))), none⟩,
    ⟨(some 6), .op (.mv (.tmp 41)), none⟩]) (.kill [40, 41])))
  (.ghost (.kill [39]) .skip)))))
  (.post (.reg [⟨(some 14), .op (.mv (.tmp 7)), none⟩,
    ⟨(some 15), .op (.bin .add (.tmp 14) (.const (Value.int .i64 1))), none⟩,
    ⟨(some 7), .op (.mv (.tmp 15)), none⟩]) (.kill [14, 15]))))
def lo_spec_l01Pending_0 : AC := (.loop lb_spec_l01Pending_0)
def ac_spec_l01Pending : AC := (.seq (.post (.reg [⟨(some 2), .op (.mv (.const (Value.int .i64 0))), none⟩,
    ⟨(some 3), .op (.mv (.const (Value.int .i64 0))), none⟩]) (.kill [2, 3]))
  (.seq (.post (.reg [⟨(some 8), .op (.mv (.tmp 0)), none⟩,
    ⟨(some 9), .call (.func i_spec_l01Partners) [(.tmp 8)], none⟩,
    ⟨(some 4), .op (.mv (.tmp 9)), none⟩]) (.kill [8, 9]))
  (.seq (.reg [⟨(some 5), .op (.mv (.const (Value.int .i64 0))), none⟩])
  (.seq (.reg [⟨(some 6), .op (.mv (.const (Value.int .i64 0))), none⟩])
  (.seq (.seq (.reg [⟨(some 7), .op (.mv (.const (Value.int .i64 0))), none⟩])
  (.block 0 lo_spec_l01Pending_0))
  (.ghost (.kill [0, 4, 7]) (.seq (.post (.reg [⟨(some 42), .op (.mv (.tmp 5)), none⟩,
    ⟨(some 43), .op (.mv (.tmp 6)), none⟩,
    ⟨(some 2), .op (.mv (.tmp 42)), none⟩,
    ⟨(some 3), .op (.mv (.tmp 43)), none⟩]) (.kill [5, 6, 42, 43]))
  .ret)))))))
theorem cf_spec_l01Pending : chkFn Try.prog i_spec_l01Pending ac_spec_l01Pending [.tmp 2, .tmp 3] 44 = true := by decide +kernel
def fa_spec_l01Pending : FnA := ⟨ac_spec_l01Pending, [.tmp 2, .tmp 3], 44, false, true, [], .any, none⟩

/-- The checked code of spec l06Has. -/
def ac_spec_l06Has : AC := (.seq (.post (.reg [⟨(some 6), .op (.mv (.const (Value.bool false))), none⟩]) (.kill [6]))
  (.seq (.post (.reg [⟨(some 10), .op (.mv (.tmp 0)), none⟩,
    ⟨(some 11), .call (.func i_spec_l01Pending) [(.tmp 10)], none⟩,
    ⟨(some 9), .op (.mv (.tmp 11)), none⟩,
    ⟨(some 12), .op (.ext (.tmp 9) 0), none⟩,
    ⟨(some 13), .op (.ext (.tmp 9) 1), none⟩,
    ⟨(some 7), .op (.mv (.tmp 12)), none⟩,
    ⟨(some 8), .op (.mv (.tmp 13)), none⟩]) (.kill [0, 9, 10, 11, 12, 13]))
  (.seq (.post (.reg [⟨(some 14), .op (.mv (.tmp 7)), none⟩,
    ⟨(some 15), .op (.mv (.tmp 1)), none⟩,
    ⟨(some 16), .op (.bin .eql (.tmp 14) (.tmp 15)), none⟩,
    ⟨(some 17), .op (.mv (.tmp 16)), none⟩,
    ⟨(some 18), .op (.mv (.tmp 8)), some (17, true)⟩,
    ⟨(some 19), .op (.mv (.tmp 2)), some (17, true)⟩,
    ⟨(some 20), .op (.bin .eql (.tmp 18) (.tmp 19)), some (17, true)⟩,
    ⟨(some 21), .op (.pick (.tmp 17) (.tmp 20) (.const (Value.bool false))), none⟩,
    ⟨(some 6), .op (.mv (.tmp 21)), none⟩]) (.kill [1, 2, 7, 8, 14, 15, 16, 17, 18, 19, 20, 21]))
  .ret)))
theorem cf_spec_l06Has : chkFn Try.prog i_spec_l06Has ac_spec_l06Has [.tmp 6] 22 = true := by decide +kernel
def fa_spec_l06Has : FnA := ⟨ac_spec_l06Has, [.tmp 6], 22, false, true, [], .any, none⟩

/-- The checked code of spec l06Structural. -/
def lb_spec_l06Structural_0 : AC := (.seq (.seq (.post (.reg [⟨(some 47), .op (.mv (.tmp 5)), none⟩,
    ⟨(some 48), .op (.mv (.tmp 0)), none⟩,
    ⟨(some 49), .op (.nilc (.tmp 48)), none⟩,
    ⟨(some 50), .op (.faddr (.tmp 49) 3), none⟩,
    ⟨(some 51), .op (.load 1 false (.tmp 50)), none⟩,
    ⟨(some 52), .op (.mv (.tmp 3)), none⟩,
    ⟨(some 53), .op (.iaddrS (.tmp 51) (.tmp 52) 1), none⟩,
    ⟨(some 54), .op (.load 1 false (.tmp 53)), none⟩,
    ⟨(some 55), .op (.mv (.tmp 4)), none⟩,
    ⟨(some 56), .op (.iaddrS (.tmp 54) (.tmp 55) 1), none⟩,
    ⟨(some 57), .op (.load 1 false (.tmp 56)), none⟩,
    ⟨(some 58), .op (.len false (.tmp 57)), none⟩,
    ⟨(some 59), .op (.bin .lss (.tmp 47) (.tmp 58)), none⟩]) (.kill [47, 48, 49, 50, 51, 52, 53, 54, 55, 56, 57, 58]))
  (.cond (.tmp 59) (.ghost (.kill [59]) .skip)
  (.ghost (.kill [5, 59]) (.exit 4))))
  (.seq (.block 5 (.seq (.post (.reg [⟨(some 62), .op (.mv (.tmp 0)), none⟩,
    ⟨(some 63), .op (.nilc (.tmp 62)), none⟩,
    ⟨(some 64), .op (.faddr (.tmp 63) 3), none⟩,
    ⟨(some 65), .op (.load 1 false (.tmp 64)), none⟩,
    ⟨(some 66), .op (.mv (.tmp 3)), none⟩,
    ⟨(some 67), .op (.iaddrS (.tmp 65) (.tmp 66) 1), none⟩,
    ⟨(some 68), .op (.load 1 false (.tmp 67)), none⟩,
    ⟨(some 69), .op (.mv (.tmp 4)), none⟩,
    ⟨(some 70), .op (.iaddrS (.tmp 68) (.tmp 69) 1), none⟩,
    ⟨(some 71), .op (.load 1 false (.tmp 70)), none⟩,
    ⟨(some 72), .op (.mv (.tmp 5)), none⟩,
    ⟨(some 73), .op (.iaddrS (.tmp 71) (.tmp 72) 2), none⟩,
    ⟨(some 74), .op (.faddr (.tmp 73) 1), none⟩,
    ⟨(some 75), .op (.load 1 false (.tmp 74)), none⟩,
    ⟨(some 76), .call (.func i_spec_l06Has) [(.tmp 75), (.const (Value.int .i64 1)), (.const (Value.int .i64 0))], none⟩,
    ⟨(some 77), .op (.un .not (.tmp 76)), none⟩]) (.kill [62, 63, 64, 65, 66, 67, 68, 69, 70, 71, 72, 73, 74, 75, 76]))
  (.cond (.tmp 77) (.ghost (.kill [0, 3, 4, 5, 77]) (.seq (.reg [⟨(some 2), .op (.mv (.const (Value.bool false))), none⟩])
  .ret))
  (.ghost (.kill [77]) .skip))))
  (.post (.reg [⟨(some 60), .op (.mv (.tmp 5)), none⟩,
    ⟨(some 61), .op (.bin .add (.tmp 60) (.const (Value.int .i64 1))), none⟩,
    ⟨(some 5), .op (.mv (.tmp 61)), none⟩]) (.kill [60, 61]))))
def lo_spec_l06Structural_0 : AC := (.loop lb_spec_l06Structural_0)
def lb_spec_l06Structural_1 : AC := (.seq (.seq (.post (.reg [⟨(some 15), .op (.mv (.tmp 4)), none⟩,
    ⟨(some 16), .op (.bin .lss (.tmp 15) (.const (Value.int .i64 2))), none⟩]) (.kill [15]))
  (.cond (.tmp 16) (.ghost (.kill [16]) .skip)
  (.ghost (.kill [4, 16]) (.exit 2))))
  (.seq (.block 3 (.seq (.seq (.post (.reg [⟨(some 19), .op (.mv (.tmp 0)), none⟩,
    ⟨(some 20), .op (.nilc (.tmp 19)), none⟩,
    ⟨(some 21), .op (.faddr (.tmp 20) 2), none⟩,
    ⟨(some 22), .op (.load 1 false (.tmp 21)), none⟩,
    ⟨(some 23), .op (.mv (.tmp 3)), none⟩,
    ⟨(some 24), .op (.iaddrS (.tmp 22) (.tmp 23) 1), none⟩,
    ⟨(some 25), .op (.load 1 false (.tmp 24)), none⟩,
    ⟨(some 26), .op (.mv (.tmp 4)), none⟩,
    ⟨(some 27), .op (.iaddrS (.tmp 25) (.tmp 26) 3), none⟩,
    ⟨(some 28), .op (.faddr (.tmp 27) 2), none⟩,
    ⟨(some 29), .op (.load 1 false (.tmp 28)), none⟩,
    ⟨(some 30), .call (.func i_spec_l06Has) [(.tmp 29), (.const (Value.int .i64 0)), (.const (Value.int .i64 1))], none⟩,
    ⟨(some 31), .op (.un .not (.tmp 30)), none⟩,
    ⟨(some 32), .op (.mv (.tmp 31)), none⟩,
    ⟨(some 33), .op (.mv (.tmp 0)), some (32, false)⟩,
    ⟨(some 34), .op (.nilc (.tmp 33)), some (32, false)⟩,
    ⟨(some 35), .op (.faddr (.tmp 34) 4), some (32, false)⟩,
    ⟨(some 36), .op (.load 1 false (.tmp 35)), some (32, false)⟩,
    ⟨(some 37), .op (.mv (.tmp 3)), some (32, false)⟩,
    ⟨(some 38), .op (.iaddrS (.tmp 36) (.tmp 37) 1), some (32, false)⟩,
    ⟨(some 39), .op (.load 1 false (.tmp 38)), some (32, false)⟩,
    ⟨(some 40), .op (.mv (.tmp 4)), some (32, false)⟩,
    ⟨(some 41), .op (.iaddrS (.tmp 39) (.tmp 40) 2), some (32, false)⟩,
    ⟨(some 42), .op (.faddr (.tmp 41) 1), some (32, false)⟩,
    ⟨(some 43), .op (.load 1 false (.tmp 42)), some (32, false)⟩,
    ⟨(some 44), .call (.func i_spec_l06Has) [(.tmp 43), (.const (Value.int .i64 0)), (.const (Value.int .i64 0))], some (32, false)⟩,
    ⟨(some 45), .op (.un .not (.tmp 44)), some (32, false)⟩,
    ⟨(some 46), .op (.pick (.tmp 32) (.const (Value.bool true)) (.tmp 45)), none⟩]) (.kill [19, 20, 21, 22, 23, 24, 25, 26, 27, 28, 29, 30, 31, 32, 33, 34, 35, 36, 37, 38, 39, 40, 41, 42, 43, 44, 45]))
  (.cond (.tmp 46) (.ghost (.kill [0, 3, 4, 46]) (.seq (.reg [⟨(some 2), .op (.mv (.const (Value.bool false))), none⟩])
  .ret))
  (.ghost (.kill [46]) .skip)))
  (.seq (.reg [⟨(some 5), .op (.mv (.const (Value.int .i64 0))), none⟩])
  (.block 4 lo_spec_l06Structural_0))))
  (.ghost (.kill [5]) (.post (.reg [⟨(some 17), .op (.mv (.tmp 4)), none⟩,
    ⟨(some 18), .op (.bin .add (.tmp 17) (.const (Value.int .i64 1))), none⟩,
    ⟨(some 4), .op (.mv (.tmp 18)), none⟩]) (.kill [17, 18])))))
def lo_spec_l06Structural_1 : AC := (.loop lb_spec_l06Structural_1)
def lb_spec_l06Structural_2 : AC := (.seq (.seq (.post (.reg [⟨(some 6), .op (.mv (.tmp 3)), none⟩,
    ⟨(some 7), .op (.mv (.tmp 0)), none⟩,
    ⟨(some 8), .op (.nilc (.tmp 7)), none⟩,
    ⟨(some 9), .op (.faddr (.tmp 8) 2), none⟩,
    ⟨(some 10), .op (.load 1 false (.tmp 9)), none⟩,
    ⟨(some 11), .op (.len false (.tmp 10)), none⟩,
    ⟨(some 12), .op (.bin .lss (.tmp 6) (.tmp 11)), none⟩]) (.kill [6, 7, 8, 9, 10, 11]))
  (.cond (.tmp 12) (.ghost (.kill [12]) .skip)
  (.ghost (.kill [0, 3, 12]) (.exit 0))))
  (.seq (.block 1 (.seq (.reg [⟨(some 4), .op (.mv (.const (Value.int .i64 0))), none⟩])
  (.block 2 lo_spec_l06Structural_1)))
  (.ghost (.kill [4]) (.post (.reg [⟨(some 13), .op (.mv (.tmp 3)), none⟩,
    ⟨(some 14), .op (.bin .add (.tmp 13) (.const (Value.int .i64 1))), none⟩,
    ⟨(some 3), .op (.mv (.tmp 14)), none⟩]) (.kill [13, 14])))))
def lo_spec_l06Structural_2 : AC := (.loop lb_spec_l06Structural_2)
def ac_spec_l06Structural : AC := (.seq (.post (.reg [⟨(some 2), .op (.mv (.const (Value.bool false))), none⟩]) (.kill [2]))
  (.seq (.seq (.reg [⟨(some 3), .op (.mv (.const (Value.int .i64 0))), none⟩])
  (.block 0 lo_spec_l06Structural_2))
  (.ghost (.kill [0, 3]) (.seq (.reg [⟨(some 2), .op (.mv (.const (Value.bool true))), none⟩])
  .ret))))
theorem cf_spec_l06Structural : chkFn Try.prog i_spec_l06Structural ac_spec_l06Structural [.tmp 2] 78 = true := by decide +kernel
def fa_spec_l06Structural : FnA := ⟨ac_spec_l06Structural, [.tmp 2], 78, false, true, [], .any, none⟩

/-- The checked code of spec ComposeRewriters. -/
def lb_spec_ComposeRewriters_0 : AC := (.seq (.seq (.post (.reg [⟨(some 150), .op (.mv (.tmp 22)), none⟩,
    ⟨(some 151), .op (.faddr (.tmp 9) 0), none⟩,
    ⟨(some 152), .op (.load 1 false (.tmp 151)), none⟩,
    ⟨(some 153), .op (.bin .leq (.tmp 150) (.tmp 152)), none⟩]) (.kill [150, 151, 152]))
  (.cond (.tmp 153) (.ghost (.kill [153]) .skip)
  (.ghost (.kill [22, 153]) (.exit 4))))
  (.seq (.block 5 (.seq (.post (.reg [⟨(some 156), .op (.lits true 1 0 (Value.int .i64 0) []), none⟩,
    ⟨(some 23), .op (.mv (.tmp 156)), none⟩]) (.kill [156]))
  (.seq (.seq (.post (.reg [⟨(some 157), .op (.mv (.tmp 22)), none⟩,
    ⟨(some 158), .op (.faddr (.tmp 9) 0), none⟩,
    ⟨(some 159), .op (.load 1 false (.tmp 158)), none⟩,
    ⟨(some 160), .op (.bin .lss (.tmp 157) (.tmp 159)), none⟩]) (.kill [157, 158, 159]))
  (.cond (.tmp 160) (.ghost (.kill [160]) (.post (.post (.reg [⟨(some 161), .op (.mv (.tmp 23)), none⟩,
    ⟨(some 162), .op (.mv (.tmp 22)), none⟩,
    ⟨(some 163), .op (.mv (.tmp 7)), none⟩,
    ⟨(some 164), .op (.bin .rem (.tmp 162) (.tmp 163)), none⟩,
    ⟨(some 165), .op (.lits true 1 1 (Value.int .i64 0) [(0, (.tmp 164))]), none⟩,
    ⟨(some 166), .op (.append (.tmp 161) (.tmp 165) 1 8), none⟩,
    ⟨(some 23), .op (.mv (.tmp 166)), none⟩]) (.kill [161, 162, 163, 164, 165, 166])) (.fz 23)))
  (.ghost (.kill [160]) .skip)))
  (.seq (.post (.draw [⟨0, ⟨(some 167), .op (.faddr (.tmp 2) 3), none⟩, []⟩,
    ⟨1, ⟨(some 168), .op (.load 1 false (.tmp 167)), none⟩, []⟩,
    ⟨2, ⟨(some 169), .op (.mv (.tmp 11)), none⟩, []⟩,
    ⟨3, ⟨(some 170), .op (.iaddrS (.tmp 168) (.tmp 169) 1), none⟩, []⟩,
    ⟨4, ⟨(some 171), .op (.load 1 false (.tmp 170)), none⟩, []⟩,
    ⟨5, ⟨(some 172), .op (.mv (.tmp 16)), none⟩, []⟩,
    ⟨6, ⟨(some 173), .op (.iaddrS (.tmp 171) (.tmp 172) 1), none⟩, []⟩,
    ⟨7, ⟨(some 174), .op (.load 1 false (.tmp 173)), none⟩, []⟩,
    ⟨8, ⟨(some 175), .op (.mv (.tmp 22)), none⟩, []⟩,
    ⟨9, ⟨(some 176), .op (.mv (.tmp 7)), none⟩, []⟩,
    ⟨10, ⟨(some 177), .op (.bin .quo (.tmp 175) (.tmp 176)), none⟩, []⟩,
    ⟨11, ⟨(some 178), .op (.iaddrS (.tmp 174) (.tmp 177) 2), none⟩, []⟩,
    ⟨12, ⟨(some 179), .op (.load 2 true (.tmp 178)), none⟩, []⟩,
    ⟨13, ⟨(some 24), .op (.alloc (Value.agg #[Value.int .i64 0, Value.string ⟨#[]⟩])), none⟩, [1, 3, 4, 6, 7, 11, 12]⟩,
    ⟨14, ⟨none, .op (.store 2 (.tmp 24) (.tmp 179)), none⟩, []⟩]
    [0, 1, 0, 7, 15, 0, 63, 127, 0, 0, 768, 2047, 4095, 0, 16383]) (.kill [167, 168, 169, 170, 171, 172, 173, 174, 175, 176, 177, 178, 179]))
  (.seq (.post (.reg [⟨(some 180), .op (.mv (.tmp 12)), none⟩,
    ⟨(some 181), .op (.mv (.tmp 23)), none⟩,
    ⟨(some 182), .op (.faddr (.tmp 24) 1), none⟩,
    ⟨(some 183), .op (.load 1 false (.tmp 182)), none⟩,
    ⟨(some 184), .call (.func i_spec_l06Reads) [(.tmp 3), (.tmp 180), (.tmp 181), (.tmp 183)], none⟩,
    ⟨(some 25), .op (.mv (.tmp 184)), none⟩]) (.kill [23, 180, 181, 182, 183, 184]))
  (.post (.draw [⟨0, ⟨(some 185), .op (.mv (.tmp 21)), none⟩, []⟩,
    ⟨1, ⟨(some 186), .op (.faddr (.tmp 24) 0), none⟩, []⟩,
    ⟨2, ⟨(some 187), .op (.load 1 false (.tmp 186)), none⟩, []⟩,
    ⟨3, ⟨(some 188), .op (.mv (.tmp 6)), none⟩, []⟩,
    ⟨4, ⟨(some 189), .op (.bin .mul (.tmp 187) (.tmp 188)), none⟩, []⟩,
    ⟨5, ⟨(some 190), .op (.mv (.tmp 25)), none⟩, []⟩,
    ⟨6, ⟨(some 191), .op (.nilc (.tmp 190)), none⟩, []⟩,
    ⟨7, ⟨(some 192), .op (.faddr (.tmp 191) 1), none⟩, []⟩,
    ⟨8, ⟨(some 193), .op (.load 1 false (.tmp 192)), none⟩, []⟩,
    ⟨9, ⟨(some 194), .op (.bin .add (.tmp 189) (.tmp 193)), none⟩, []⟩,
    ⟨10, ⟨(some 195), .op (.mv (.tmp 25)), none⟩, []⟩,
    ⟨11, ⟨(some 196), .op (.nilc (.tmp 195)), none⟩, []⟩,
    ⟨12, ⟨(some 197), .op (.faddr (.tmp 196) 3), none⟩, []⟩,
    ⟨13, ⟨(some 198), .op (.load 1 false (.tmp 197)), none⟩, []⟩,
    ⟨14, ⟨(some 199), .op (.b2s (.tmp 198)), none⟩, []⟩,
    ⟨15, ⟨(some 200), .op (.build [Value.int .i64 0, Value.string ⟨#[]⟩] [(0, 1, (.tmp 194)), (1, 1, (.tmp 199))]), none⟩, []⟩,
    ⟨16, ⟨(some 201), .op (.lits true 2 1 (Value.agg #[Value.int .i64 0, Value.string ⟨#[]⟩]) [(0, (.tmp 200))]), none⟩, []⟩,
    ⟨17, ⟨(some 202), .op (.append (.tmp 185) (.tmp 201) 2 24), none⟩, []⟩,
    ⟨18, ⟨(some 21), .op (.mv (.tmp 202)), none⟩, []⟩]
    [0, 0, 2, 0, 14, 0, 32, 96, 224, 510, 0, 1024, 3072, 7168, 15360, 32766, 65534, 131071, 262143]) (.kill [24, 25, 185, 186, 187, 188, 189, 190, 191, 192, 193, 194, 195, 196, 197, 198, 199, 200, 201, 202])))))))
  (.post (.reg [⟨(some 154), .op (.mv (.tmp 22)), none⟩,
    ⟨(some 155), .op (.bin .add (.tmp 154) (.const (Value.int .i64 1))), none⟩,
    ⟨(some 22), .op (.mv (.tmp 155)), none⟩]) (.kill [154, 155]))))
def lo_spec_ComposeRewriters_0 : AC := (.loop lb_spec_ComposeRewriters_0)
def lb_spec_ComposeRewriters_1 : AC := (.seq (.seq (.post (.reg [⟨(some 72), .op (.mv (.tmp 16)), none⟩,
    ⟨(some 73), .op (.bin .lss (.tmp 72) (.const (Value.int .i64 2))), none⟩]) (.kill [72]))
  (.cond (.tmp 73) (.ghost (.kill [73]) .skip)
  (.ghost (.kill [11, 12, 16, 73]) (.exit 2))))
  (.seq (.block 3 (.seq (.post (.reg [⟨(some 76), .op (.faddr (.tmp 2) 2), none⟩,
    ⟨(some 77), .op (.load 1 false (.tmp 76)), none⟩,
    ⟨(some 78), .op (.mv (.tmp 11)), none⟩,
    ⟨(some 79), .op (.iaddrS (.tmp 77) (.tmp 78) 1), none⟩,
    ⟨(some 80), .op (.load 1 false (.tmp 79)), none⟩,
    ⟨(some 81), .op (.mv (.tmp 16)), none⟩,
    ⟨(some 82), .op (.iaddrS (.tmp 80) (.tmp 81) 3), none⟩,
    ⟨(some 83), .op (.load 3 true (.tmp 82)), none⟩,
    ⟨(some 17), .op (.alloc (Value.agg #[Value.int .i64 0, Value.int .i64 0, Value.string ⟨#[]⟩])), none⟩,
    ⟨none, .op (.store 3 (.tmp 17) (.tmp 83)), none⟩]) (.kill [76, 77, 78, 79, 80, 81, 82, 83]))
  (.seq (.post (.reg [⟨(some 84), .op (.mv (.tmp 12)), none⟩,
    ⟨(some 85), .op (.lits true 1 0 (Value.int .i64 0) []), none⟩,
    ⟨(some 86), .op (.faddr (.tmp 17) 2), none⟩,
    ⟨(some 87), .op (.load 1 false (.tmp 86)), none⟩,
    ⟨(some 88), .call (.func i_spec_l06Reads) [(.tmp 3), (.tmp 84), (.tmp 85), (.tmp 87)], none⟩,
    ⟨(some 18), .op (.mv (.tmp 88)), none⟩]) (.kill [84, 85, 86, 87, 88]))
  (.seq (.post (.draw [⟨0, ⟨(some 89), .op (.mv (.tmp 13)), none⟩, []⟩,
    ⟨1, ⟨(some 90), .op (.faddr (.tmp 17) 0), none⟩, []⟩,
    ⟨2, ⟨(some 91), .op (.load 1 false (.tmp 90)), none⟩, []⟩,
    ⟨3, ⟨(some 92), .op (.mv (.tmp 6)), none⟩, []⟩,
    ⟨4, ⟨(some 93), .op (.bin .mul (.tmp 91) (.tmp 92)), none⟩, []⟩,
    ⟨5, ⟨(some 94), .op (.mv (.tmp 18)), none⟩, []⟩,
    ⟨6, ⟨(some 95), .op (.nilc (.tmp 94)), none⟩, []⟩,
    ⟨7, ⟨(some 96), .op (.faddr (.tmp 95) 1), none⟩, []⟩,
    ⟨8, ⟨(some 97), .op (.load 1 false (.tmp 96)), none⟩, []⟩,
    ⟨9, ⟨(some 98), .op (.bin .add (.tmp 93) (.tmp 97)), none⟩, []⟩,
    ⟨10, ⟨(some 99), .op (.faddr (.tmp 17) 1), none⟩, []⟩,
    ⟨11, ⟨(some 100), .op (.load 1 false (.tmp 99)), none⟩, []⟩,
    ⟨12, ⟨(some 101), .op (.mv (.tmp 7)), none⟩, []⟩,
    ⟨13, ⟨(some 102), .op (.bin .mul (.tmp 100) (.tmp 101)), none⟩, []⟩,
    ⟨14, ⟨(some 103), .op (.mv (.tmp 18)), none⟩, []⟩,
    ⟨15, ⟨(some 104), .op (.nilc (.tmp 103)), none⟩, []⟩,
    ⟨16, ⟨(some 105), .op (.faddr (.tmp 104) 2), none⟩, []⟩,
    ⟨17, ⟨(some 106), .op (.load 1 false (.tmp 105)), none⟩, []⟩,
    ⟨18, ⟨(some 107), .op (.iaddrS (.tmp 106) (.const (Value.int .i64 0)) 1), none⟩, []⟩,
    ⟨19, ⟨(some 108), .op (.load 1 false (.tmp 107)), none⟩, []⟩,
    ⟨20, ⟨(some 109), .op (.bin .add (.tmp 102) (.tmp 108)), none⟩, []⟩,
    ⟨21, ⟨(some 110), .op (.mv (.tmp 18)), none⟩, []⟩,
    ⟨22, ⟨(some 111), .op (.nilc (.tmp 110)), none⟩, []⟩,
    ⟨23, ⟨(some 112), .op (.faddr (.tmp 111) 3), none⟩, []⟩,
    ⟨24, ⟨(some 113), .op (.load 1 false (.tmp 112)), none⟩, []⟩,
    ⟨25, ⟨(some 114), .op (.b2s (.tmp 113)), none⟩, []⟩,
    ⟨26, ⟨(some 115), .op (.build [Value.int .i64 0, Value.int .i64 0, Value.string ⟨#[]⟩] [(0, 1, (.tmp 98)), (1, 1, (.tmp 109)), (2, 1, (.tmp 114))]), none⟩, []⟩,
    ⟨27, ⟨(some 116), .op (.lits true 3 1 (Value.agg #[Value.int .i64 0, Value.int .i64 0, Value.string ⟨#[]⟩]) [(0, (.tmp 115))]), none⟩, []⟩,
    ⟨28, ⟨(some 117), .op (.append (.tmp 89) (.tmp 116) 3 32), none⟩, []⟩,
    ⟨29, ⟨(some 13), .op (.mv (.tmp 117)), none⟩, []⟩]
    [0, 0, 2, 0, 14, 0, 32, 96, 224, 510, 0, 1024, 0, 7168, 0, 16384, 49152, 114688, 245760, 507904, 1047552, 0, 2097152, 6291456, 14680064, 31457280, 67108862, 134217726, 268435455, 536870911]) (.kill [17, 18, 89, 90, 91, 92, 93, 94, 95, 96, 97, 98, 99, 100, 101, 102, 103, 104, 105, 106, 107, 108, 109, 110, 111, 112, 113, 114, 115, 116, 117]))
  (.seq (.post (.reg [⟨(some 118), .op (.faddr (.tmp 2) 4), none⟩,
    ⟨(some 119), .op (.load 1 false (.tmp 118)), none⟩,
    ⟨(some 120), .op (.mv (.tmp 11)), none⟩,
    ⟨(some 121), .op (.iaddrS (.tmp 119) (.tmp 120) 1), none⟩,
    ⟨(some 122), .op (.load 1 false (.tmp 121)), none⟩,
    ⟨(some 123), .op (.mv (.tmp 16)), none⟩,
    ⟨(some 124), .op (.iaddrS (.tmp 122) (.tmp 123) 2), none⟩,
    ⟨(some 125), .op (.load 2 true (.tmp 124)), none⟩,
    ⟨(some 19), .op (.alloc (Value.agg #[Value.int .i64 0, Value.string ⟨#[]⟩])), none⟩,
    ⟨none, .op (.store 2 (.tmp 19) (.tmp 125)), none⟩]) (.kill [118, 119, 120, 121, 122, 123, 124, 125]))
  (.seq (.post (.reg [⟨(some 126), .op (.mv (.tmp 12)), none⟩,
    ⟨(some 127), .op (.lits true 1 0 (Value.int .i64 0) []), none⟩,
    ⟨(some 128), .op (.faddr (.tmp 19) 1), none⟩,
    ⟨(some 129), .op (.load 1 false (.tmp 128)), none⟩,
    ⟨(some 130), .call (.func i_spec_l06Reads) [(.tmp 3), (.tmp 126), (.tmp 127), (.tmp 129)], none⟩,
    ⟨(some 20), .op (.mv (.tmp 130)), none⟩]) (.kill [126, 127, 128, 129, 130]))
  (.seq (.post (.draw [⟨0, ⟨(some 131), .op (.mv (.tmp 14)), none⟩, []⟩,
    ⟨1, ⟨(some 132), .op (.faddr (.tmp 19) 0), none⟩, []⟩,
    ⟨2, ⟨(some 133), .op (.load 1 false (.tmp 132)), none⟩, []⟩,
    ⟨3, ⟨(some 134), .op (.mv (.tmp 6)), none⟩, []⟩,
    ⟨4, ⟨(some 135), .op (.bin .mul (.tmp 133) (.tmp 134)), none⟩, []⟩,
    ⟨5, ⟨(some 136), .op (.mv (.tmp 20)), none⟩, []⟩,
    ⟨6, ⟨(some 137), .op (.nilc (.tmp 136)), none⟩, []⟩,
    ⟨7, ⟨(some 138), .op (.faddr (.tmp 137) 1), none⟩, []⟩,
    ⟨8, ⟨(some 139), .op (.load 1 false (.tmp 138)), none⟩, []⟩,
    ⟨9, ⟨(some 140), .op (.bin .add (.tmp 135) (.tmp 139)), none⟩, []⟩,
    ⟨10, ⟨(some 141), .op (.mv (.tmp 20)), none⟩, []⟩,
    ⟨11, ⟨(some 142), .op (.nilc (.tmp 141)), none⟩, []⟩,
    ⟨12, ⟨(some 143), .op (.faddr (.tmp 142) 3), none⟩, []⟩,
    ⟨13, ⟨(some 144), .op (.load 1 false (.tmp 143)), none⟩, []⟩,
    ⟨14, ⟨(some 145), .op (.b2s (.tmp 144)), none⟩, []⟩,
    ⟨15, ⟨(some 146), .op (.build [Value.int .i64 0, Value.string ⟨#[]⟩] [(0, 1, (.tmp 140)), (1, 1, (.tmp 145))]), none⟩, []⟩,
    ⟨16, ⟨(some 147), .op (.lits true 2 1 (Value.agg #[Value.int .i64 0, Value.string ⟨#[]⟩]) [(0, (.tmp 146))]), none⟩, []⟩,
    ⟨17, ⟨(some 148), .op (.append (.tmp 131) (.tmp 147) 2 24), none⟩, []⟩,
    ⟨18, ⟨(some 14), .op (.mv (.tmp 148)), none⟩, []⟩]
    [0, 0, 2, 0, 14, 0, 32, 96, 224, 510, 0, 1024, 3072, 7168, 15360, 32766, 65534, 131071, 262143]) (.kill [19, 20, 131, 132, 133, 134, 135, 136, 137, 138, 139, 140, 141, 142, 143, 144, 145, 146, 147, 148]))
  (.seq (.post (.reg [⟨(some 149), .op (.lits true 2 0 (Value.agg #[Value.int .i64 0, Value.string ⟨#[]⟩]) []), none⟩,
    ⟨(some 21), .op (.mv (.tmp 149)), none⟩]) (.kill [149]))
  (.seq (.seq (.reg [⟨(some 22), .op (.mv (.const (Value.int .i64 0))), none⟩])
  (.block 4 (.ghost (.ow 9 (some 2) 1) (.ghost (.ow 9 (some 3) 1) (.ghost (.ow 9 (some 4) 1) (.ghost (.ow 13 none 3) (.ghost (.ow 14 none 2) (.ghost (.ow 15 none 1) (.ghost (.ow 21 none 2) lo_spec_ComposeRewriters_0)))))))))
  (.ghost (.kill [22]) (.post (.reg [⟨(some 203), .op (.mv (.tmp 15)), none⟩,
    ⟨(some 204), .op (.mv (.tmp 21)), none⟩,
    ⟨(some 205), .op (.lits true 1 1 (Value.slice none 0 0) [(0, (.tmp 204))]), none⟩,
    ⟨(some 206), .op (.append (.tmp 203) (.tmp 205) 1 24), none⟩,
    ⟨(some 15), .op (.mv (.tmp 206)), none⟩]) (.kill [21, 203, 204, 205, 206]))))))))))))
  (.post (.reg [⟨(some 74), .op (.mv (.tmp 16)), none⟩,
    ⟨(some 75), .op (.bin .add (.tmp 74) (.const (Value.int .i64 1))), none⟩,
    ⟨(some 16), .op (.mv (.tmp 75)), none⟩]) (.kill [74, 75]))))
def lo_spec_ComposeRewriters_1 : AC := (.loop lb_spec_ComposeRewriters_1)
def lb_spec_ComposeRewriters_2 : AC := (.seq (.seq (.post (.reg [⟨(some 58), .op (.mv (.tmp 10)), none⟩,
    ⟨(some 59), .op (.mv (.tmp 8)), none⟩,
    ⟨(some 60), .op (.bin .lss (.tmp 58) (.tmp 59)), none⟩]) (.kill [58, 59]))
  (.cond (.tmp 60) (.ghost (.kill [60]) .skip)
  (.ghost (.kill [2, 3, 6, 7, 8, 10, 60]) (.exit 0))))
  (.seq (.block 1 (.seq (.post (.reg [⟨(some 63), .op (.mv (.tmp 10)), none⟩,
    ⟨(some 64), .op (.mv (.tmp 6)), none⟩,
    ⟨(some 65), .op (.bin .quo (.tmp 63) (.tmp 64)), none⟩,
    ⟨(some 11), .op (.mv (.tmp 65)), none⟩]) (.kill [63, 64, 65]))
  (.seq (.post (.reg [⟨(some 66), .op (.mv (.tmp 10)), none⟩,
    ⟨(some 67), .op (.mv (.tmp 6)), none⟩,
    ⟨(some 68), .op (.bin .rem (.tmp 66) (.tmp 67)), none⟩,
    ⟨(some 12), .op (.mv (.tmp 68)), none⟩]) (.kill [66, 67, 68]))
  (.seq (.post (.reg [⟨(some 69), .op (.lits true 3 0 (Value.agg #[Value.int .i64 0, Value.int .i64 0, Value.string ⟨#[]⟩]) []), none⟩,
    ⟨(some 13), .op (.mv (.tmp 69)), none⟩]) (.kill [69]))
  (.seq (.post (.reg [⟨(some 70), .op (.lits true 2 0 (Value.agg #[Value.int .i64 0, Value.string ⟨#[]⟩]) []), none⟩,
    ⟨(some 14), .op (.mv (.tmp 70)), none⟩]) (.kill [70]))
  (.seq (.post (.reg [⟨(some 71), .op (.lits true 1 0 (Value.slice none 0 0) []), none⟩,
    ⟨(some 15), .op (.mv (.tmp 71)), none⟩]) (.kill [71]))
  (.seq (.seq (.reg [⟨(some 16), .op (.mv (.const (Value.int .i64 0))), none⟩])
  (.block 2 (.ghost (.ow 9 (some 2) 1) (.ghost (.ow 9 (some 3) 1) (.ghost (.ow 9 (some 4) 1) (.ghost (.ow 13 none 3) (.ghost (.ow 14 none 2) (.ghost (.ow 15 none 1) lo_spec_ComposeRewriters_1))))))))
  (.ghost (.kill [11, 12, 16]) (.seq (.post (.reg [⟨(some 207), .op (.faddr (.tmp 9) 2), none⟩,
    ⟨(some 208), .op (.load 1 false (.tmp 207)), none⟩,
    ⟨(some 209), .op (.mv (.tmp 13)), none⟩,
    ⟨(some 210), .op (.lits true 1 1 (Value.slice none 0 0) [(0, (.tmp 209))]), none⟩,
    ⟨(some 211), .op (.append (.tmp 208) (.tmp 210) 1 24), none⟩,
    ⟨(some 212), .op (.faddr (.tmp 9) 2), none⟩,
    ⟨none, .op (.store 1 (.tmp 212) (.tmp 211)), none⟩]) (.kill [13, 207, 208, 209, 210, 211, 212]))
  (.seq (.post (.reg [⟨(some 213), .op (.faddr (.tmp 9) 4), none⟩,
    ⟨(some 214), .op (.load 1 false (.tmp 213)), none⟩,
    ⟨(some 215), .op (.mv (.tmp 14)), none⟩,
    ⟨(some 216), .op (.lits true 1 1 (Value.slice none 0 0) [(0, (.tmp 215))]), none⟩,
    ⟨(some 217), .op (.append (.tmp 214) (.tmp 216) 1 24), none⟩,
    ⟨(some 218), .op (.faddr (.tmp 9) 4), none⟩,
    ⟨none, .op (.store 1 (.tmp 218) (.tmp 217)), none⟩]) (.kill [14, 213, 214, 215, 216, 217, 218]))
  (.post (.reg [⟨(some 219), .op (.faddr (.tmp 9) 3), none⟩,
    ⟨(some 220), .op (.load 1 false (.tmp 219)), none⟩,
    ⟨(some 221), .op (.mv (.tmp 15)), none⟩,
    ⟨(some 222), .op (.lits true 1 1 (Value.slice none 0 0) [(0, (.tmp 221))]), none⟩,
    ⟨(some 223), .op (.append (.tmp 220) (.tmp 222) 1 24), none⟩,
    ⟨(some 224), .op (.faddr (.tmp 9) 3), none⟩,
    ⟨none, .op (.store 1 (.tmp 224) (.tmp 223)), none⟩]) (.kill [15, 219, 220, 221, 222, 223, 224]))))))))))))
  (.post (.reg [⟨(some 61), .op (.mv (.tmp 10)), none⟩,
    ⟨(some 62), .op (.bin .add (.tmp 61) (.const (Value.int .i64 1))), none⟩,
    ⟨(some 10), .op (.mv (.tmp 62)), none⟩]) (.kill [61, 62]))))
def lo_spec_ComposeRewriters_2 : AC := (.loop lb_spec_ComposeRewriters_2)
def ac_spec_ComposeRewriters : AC := (.seq (.post (.reg [⟨(some 2), .op (.box true (.tmp 0)), none⟩,
    ⟨(some 3), .op (.box true (.tmp 1)), none⟩,
    ⟨(some 4), .op (.alloc (Value.agg #[Value.int .i64 0, Value.int .i64 0, Value.slice none 0 0, Value.slice none 0 0, Value.slice none 0 0])), none⟩,
    ⟨(some 5), .op (.mv (.const (Value.int .i64 0))), none⟩]) (.kill [0, 1, 5]))
  (.seq (.seq (.post (.reg [⟨(some 26), .call (.func i_spec_l06Ok) [(.tmp 2)], none⟩,
    ⟨(some 27), .op (.un .not (.tmp 26)), none⟩,
    ⟨(some 28), .op (.mv (.tmp 27)), none⟩,
    ⟨(some 29), .call (.func i_spec_l06Ok) [(.tmp 3)], some (28, false)⟩,
    ⟨(some 30), .op (.un .not (.tmp 29)), some (28, false)⟩,
    ⟨(some 31), .op (.pick (.tmp 28) (.const (Value.bool true)) (.tmp 30)), none⟩]) (.kill [26, 27, 28, 29, 30]))
  (.cond (.tmp 31) (.ghost (.kill [2, 3, 31]) (.seq (.post (.reg [⟨(some 32), .op (.build [Value.int .i64 0, Value.int .i64 0, Value.slice none 0 0, Value.slice none 0 0, Value.slice none 0 0] []), none⟩,
    ⟨none, .op (.store 5 (.tmp 4) (.tmp 32)), none⟩,
    ⟨(some 5), .op (.mv (.const (Value.int .i64 1))), none⟩]) (.kill [32]))
  .ret))
  (.ghost (.kill [31]) .skip)))
  (.seq (.seq (.post (.reg [⟨(some 33), .call (.func i_spec_l06Structural) [(.tmp 2)], none⟩,
    ⟨(some 34), .op (.un .not (.tmp 33)), none⟩]) (.kill [33]))
  (.cond (.tmp 34) (.ghost (.kill [2, 3, 34]) (.seq (.post (.reg [⟨(some 35), .op (.build [Value.int .i64 0, Value.int .i64 0, Value.slice none 0 0, Value.slice none 0 0, Value.slice none 0 0] []), none⟩,
    ⟨none, .op (.store 5 (.tmp 4) (.tmp 35)), none⟩,
    ⟨(some 5), .op (.mv (.const (Value.int .i64 4))), none⟩]) (.kill [35]))
  .ret))
  (.ghost (.kill [34]) .skip)))
  (.seq (.post (.reg [⟨(some 36), .op (.faddr (.tmp 3) 2), none⟩,
    ⟨(some 37), .op (.load 1 false (.tmp 36)), none⟩,
    ⟨(some 38), .op (.len false (.tmp 37)), none⟩,
    ⟨(some 6), .op (.mv (.tmp 38)), none⟩]) (.kill [36, 37, 38]))
  (.seq (.post (.reg [⟨(some 39), .op (.faddr (.tmp 3) 0), none⟩,
    ⟨(some 40), .op (.load 1 false (.tmp 39)), none⟩,
    ⟨(some 7), .op (.mv (.tmp 40)), none⟩]) (.kill [39, 40]))
  (.seq (.post (.reg [⟨(some 41), .op (.faddr (.tmp 2) 2), none⟩,
    ⟨(some 42), .op (.load 1 false (.tmp 41)), none⟩,
    ⟨(some 43), .op (.len false (.tmp 42)), none⟩,
    ⟨(some 44), .op (.mv (.tmp 6)), none⟩,
    ⟨(some 45), .op (.bin .mul (.tmp 43) (.tmp 44)), none⟩,
    ⟨(some 8), .op (.mv (.tmp 45)), none⟩]) (.kill [41, 42, 43, 44, 45]))
  (.seq (.post (.reg [⟨(some 46), .op (.faddr (.tmp 2) 0), none⟩,
    ⟨(some 47), .op (.load 1 false (.tmp 46)), none⟩,
    ⟨(some 48), .op (.mv (.tmp 7)), none⟩,
    ⟨(some 49), .op (.bin .mul (.tmp 47) (.tmp 48)), none⟩,
    ⟨(some 50), .op (.faddr (.tmp 2) 1), none⟩,
    ⟨(some 51), .op (.load 1 false (.tmp 50)), none⟩,
    ⟨(some 52), .op (.mv (.tmp 6)), none⟩,
    ⟨(some 53), .op (.bin .mul (.tmp 51) (.tmp 52)), none⟩,
    ⟨(some 54), .op (.faddr (.tmp 3) 1), none⟩,
    ⟨(some 55), .op (.load 1 false (.tmp 54)), none⟩,
    ⟨(some 56), .op (.bin .add (.tmp 53) (.tmp 55)), none⟩,
    ⟨(some 57), .op (.build [Value.int .i64 0, Value.int .i64 0, Value.slice none 0 0, Value.slice none 0 0, Value.slice none 0 0] [(0, 1, (.tmp 49)), (1, 1, (.tmp 56))]), none⟩,
    ⟨(some 9), .op (.alloc (Value.agg #[Value.int .i64 0, Value.int .i64 0, Value.slice none 0 0, Value.slice none 0 0, Value.slice none 0 0])), none⟩,
    ⟨none, .op (.store 5 (.tmp 9) (.tmp 57)), none⟩]) (.kill [46, 47, 48, 49, 50, 51, 52, 53, 54, 55, 56, 57]))
  (.seq (.seq (.reg [⟨(some 10), .op (.mv (.const (Value.int .i64 0))), none⟩])
  (.block 0 (.ghost (.ow 9 (some 2) 1) (.ghost (.ow 9 (some 3) 1) (.ghost (.ow 9 (some 4) 1) lo_spec_ComposeRewriters_2)))))
  (.ghost (.kill [2, 3, 6, 7, 8, 10]) (.seq (.seq (.post (.reg [⟨(some 225), .call (.func i_spec_l06Ok) [(.tmp 9)], none⟩,
    ⟨(some 226), .op (.un .not (.tmp 225)), none⟩]) (.kill [225]))
  (.cond (.tmp 226) (.ghost (.kill [9, 226]) (.seq (.post (.reg [⟨(some 227), .op (.build [Value.int .i64 0, Value.int .i64 0, Value.slice none 0 0, Value.slice none 0 0, Value.slice none 0 0] []), none⟩,
    ⟨none, .op (.store 5 (.tmp 4) (.tmp 227)), none⟩,
    ⟨(some 5), .op (.mv (.const (Value.int .i64 3))), none⟩]) (.kill [227]))
  .ret))
  (.ghost (.kill [226]) .skip)))
  (.seq (.post (.reg [⟨(some 228), .op (.load 5 true (.tmp 9)), none⟩,
    ⟨none, .op (.store 5 (.tmp 4) (.tmp 228)), none⟩,
    ⟨(some 5), .op (.mv (.const (Value.int .i64 0))), none⟩]) (.kill [9, 228]))
  .ret)))))))))))
theorem cf_spec_ComposeRewriters : chkFn Try.prog i_spec_ComposeRewriters ac_spec_ComposeRewriters [.cell 4 5 true, .tmp 5] 229 = true := by decide +kernel
def fa_spec_ComposeRewriters : FnA := ⟨ac_spec_ComposeRewriters, [.cell 4 5 true, .tmp 5], 229, false, true, [(.agg [.any, .any, (.lst 1 (.lst 3 .any)), (.lst 1 (.lst 1 (.lst 2 .any))), (.lst 1 (.lst 2 .any))]), (.agg [.any, .any, (.lst 1 (.lst 3 .any)), (.lst 1 (.lst 1 (.lst 2 .any))), (.lst 1 (.lst 2 .any))])], .any, none⟩

/-- The checked code of impl within. -/
def ac_impl_within : AC := (.seq (.post (.reg [⟨(some 6), .op (.mv (.const (Value.bool false))), none⟩]) (.kill [6]))
  (.seq (.post (.reg [⟨(some 7), .op (.mv (.tmp 0)), none⟩,
    ⟨(some 8), .op (.mv (.tmp 1)), none⟩,
    ⟨(some 9), .op (.bin .geq (.tmp 7) (.tmp 8)), none⟩,
    ⟨(some 10), .op (.mv (.tmp 9)), none⟩,
    ⟨(some 11), .op (.mv (.tmp 0)), some (10, true)⟩,
    ⟨(some 12), .op (.mv (.tmp 2)), some (10, true)⟩,
    ⟨(some 13), .op (.bin .leq (.tmp 11) (.tmp 12)), some (10, true)⟩,
    ⟨(some 14), .op (.pick (.tmp 10) (.tmp 13) (.const (Value.bool false))), none⟩,
    ⟨(some 6), .op (.mv (.tmp 14)), none⟩]) (.kill [0, 1, 2, 7, 8, 9, 10, 11, 12, 13, 14]))
  .ret))
theorem cf_impl_within : chkFn Try.prog i_impl_within ac_impl_within [.tmp 6] 15 = true := by decide +kernel
def fa_impl_within : FnA := ⟨ac_impl_within, [.tmp 6], 15, false, true, [], .any, none⟩

/-- The checked code of impl OutPush . -/
def ac_impl_size_L_impl_OutPush : AC := (.seq (.post (.reg [⟨(some 2), .op (.mv (.const (Value.int .i64 0))), none⟩]) (.kill [2]))
  (.seq (.post (.reg [⟨(some 3), .op (.mv (.tmp 0)), none⟩,
    ⟨(some 4), .op (.len false (.tmp 3)), none⟩,
    ⟨(some 2), .op (.mv (.tmp 4)), none⟩]) (.kill [0, 3, 4]))
  .ret))
theorem cf_impl_size_L_impl_OutPush : chkFn Try.prog i_impl_size_L_impl_OutPush ac_impl_size_L_impl_OutPush [.tmp 2] 5 = true := by decide +kernel
def fa_impl_size_L_impl_OutPush : FnA := ⟨ac_impl_size_L_impl_OutPush, [.tmp 2], 5, false, true, [], .any, none⟩

/-- The checked code of stringslite IndexByte. -/
def ac_internal_stringslite_IndexByte : AC := (.seq (.post (.reg [⟨(some 4), .op (.mv (.const (Value.int .i64 0))), none⟩]) (.kill [4]))
  (.seq (.post (.reg [⟨(some 5), .op (.mv (.tmp 0)), none⟩,
    ⟨(some 6), .op (.mv (.tmp 1)), none⟩,
    ⟨(some 7), .op (.idxb i_internal_bytealg_IndexByteString (.tmp 5) (.tmp 6)), none⟩,
    ⟨(some 4), .op (.mv (.tmp 7)), none⟩]) (.kill [0, 1, 5, 6, 7]))
  .ret))
theorem cf_internal_stringslite_IndexByte : chkFn Try.prog i_internal_stringslite_IndexByte ac_internal_stringslite_IndexByte [.tmp 4] 8 = true := by decide +kernel
def fa_internal_stringslite_IndexByte : FnA := ⟨ac_internal_stringslite_IndexByte, [.tmp 4], 8, false, true, [], .any, none⟩

/-- The checked code of strings IndexByte. -/
def ac_strings_IndexByte : AC := (.seq (.post (.reg [⟨(some 4), .op (.mv (.const (Value.int .i64 0))), none⟩]) (.kill [4]))
  (.seq (.post (.reg [⟨(some 5), .op (.mv (.tmp 0)), none⟩,
    ⟨(some 6), .op (.mv (.tmp 1)), none⟩,
    ⟨(some 7), .call (.func i_internal_stringslite_IndexByte) [(.tmp 5), (.tmp 6)], none⟩,
    ⟨(some 4), .op (.mv (.tmp 7)), none⟩]) (.kill [0, 1, 5, 6, 7]))
  .ret))
theorem cf_strings_IndexByte : chkFn Try.prog i_strings_IndexByte ac_strings_IndexByte [.tmp 4] 8 = true := by decide +kernel
def fa_strings_IndexByte : FnA := ⟨ac_strings_IndexByte, [.tmp 4], 8, false, true, [], .any, none⟩

/-- The checked code of impl ValidWord. -/
def lb_impl_ValidWord_0 : AC := (.seq (.reg [⟨(some 7), .op (.bin .lss (.tmp 6) (.tmp 5)), none⟩])
  (.seq (.cond (.tmp 7) (.ghost (.kill [7]) .skip)
  (.ghost (.kill [5, 6, 7]) (.exit 0)))
  (.seq (.block 1 (.seq (.post (.reg [⟨(some 8), .op (.mv (.tmp 6)), none⟩,
    ⟨(some 3), .op (.mv (.tmp 8)), none⟩]) (.kill [8]))
  (.seq (.post (.reg [⟨(some 9), .op (.mv (.tmp 0)), none⟩,
    ⟨(some 10), .op (.mv (.tmp 3)), none⟩,
    ⟨(some 11), .op (.idxStr (.tmp 9) (.tmp 10)), none⟩,
    ⟨(some 12), .call (.func i_strings_IndexByte) [(.const (Value.string ⟨#[40, 91, 41, 93, 97, 98]⟩)), (.tmp 11)], none⟩,
    ⟨(some 13), .op (.bin .lss (.tmp 12) (.const (Value.int .i64 0))), none⟩]) (.kill [3, 9, 10, 11, 12]))
  (.cond (.tmp 13) (.ghost (.kill [0, 5, 6, 13]) (.seq (.reg [⟨(some 2), .op (.mv (.const (Value.bool false))), none⟩])
  .ret))
  (.ghost (.kill [13]) .skip)))))
  (.post (.reg [⟨(some 14), .op (.bin .add (.tmp 6) (.const (Value.int .i64 1))), none⟩,
    ⟨(some 6), .op (.mv (.tmp 14)), none⟩]) (.kill [14])))))
def lo_impl_ValidWord_0 : AC := (.loop lb_impl_ValidWord_0)
def ac_impl_ValidWord : AC := (.seq (.post (.reg [⟨(some 2), .op (.mv (.const (Value.bool false))), none⟩]) (.kill [2]))
  (.seq (.seq (.post (.reg [⟨(some 4), .op (.mv (.tmp 0)), none⟩,
    ⟨(some 5), .op (.len true (.tmp 4)), none⟩,
    ⟨(some 6), .op (.mv (.const (Value.int .i64 0))), none⟩]) (.kill [4]))
  (.block 0 lo_impl_ValidWord_0))
  (.ghost (.kill [5, 6]) (.seq (.post (.reg [⟨(some 15), .op (.mv (.tmp 0)), none⟩,
    ⟨(some 16), .op (.len true (.tmp 15)), none⟩,
    ⟨(some 17), .op (.bin .leq (.tmp 16) (.const (Value.int .i64 60))), none⟩,
    ⟨(some 2), .op (.mv (.tmp 17)), none⟩]) (.kill [0, 15, 16, 17]))
  .ret))))
theorem cf_impl_ValidWord : chkFn Try.prog i_impl_ValidWord ac_impl_ValidWord [.tmp 2] 18 = true := by decide +kernel
def fa_impl_ValidWord : FnA := ⟨ac_impl_ValidWord, [.tmp 2], 18, false, true, [], .any, none⟩

/-- The checked code of impl isOut. -/
def ac_impl_isOut : AC := (.seq (.post (.reg [⟨(some 2), .op (.mv (.const (Value.bool false))), none⟩]) (.kill [2]))
  (.seq (.post (.reg [⟨(some 3), .op (.mv (.tmp 0)), none⟩,
    ⟨(some 4), .call (.func i_impl_ValidWord) [(.tmp 3)], none⟩,
    ⟨(some 5), .op (.mv (.tmp 4)), none⟩,
    ⟨(some 6), .op (.mv (.tmp 0)), some (5, true)⟩,
    ⟨(some 7), .op (.len true (.tmp 6)), some (5, true)⟩,
    ⟨(some 8), .op (.bin .leq (.tmp 7) (.const (Value.int .i64 4))), some (5, true)⟩,
    ⟨(some 9), .op (.pick (.tmp 5) (.tmp 8) (.const (Value.bool false))), none⟩,
    ⟨(some 2), .op (.mv (.tmp 9)), none⟩]) (.kill [0, 3, 4, 5, 6, 7, 8, 9]))
  .ret))
theorem cf_impl_isOut : chkFn Try.prog i_impl_isOut ac_impl_isOut [.tmp 2] 10 = true := by decide +kernel
def fa_impl_isOut : FnA := ⟨ac_impl_isOut, [.tmp 2], 10, false, true, [], .any, none⟩

/-- The checked code of impl ValidRewriter 1. -/
def ac_impl_ValidRewriter_1 : AC := (.seq (.post (.reg [⟨(some 2), .op (.box true (.tmp 0)), none⟩,
    ⟨(some 3), .op (.mv (.const (Value.bool false))), none⟩]) (.kill [0, 3]))
  (.seq (.post (.reg [⟨(some 4), .op (.faddr (.tmp 2) 0), none⟩,
    ⟨(some 5), .op (.load 1 false (.tmp 4)), none⟩,
    ⟨(some 6), .op (.load 1 false (.tmp 1)), none⟩,
    ⟨(some 7), .op (.bin .sub (.tmp 6) (.const (Value.int .i64 1))), none⟩,
    ⟨(some 8), .call (.func i_impl_within) [(.tmp 5), (.const (Value.int .i64 0)), (.tmp 7)], none⟩,
    ⟨(some 9), .op (.mv (.tmp 8)), none⟩,
    ⟨(some 10), .op (.faddr (.tmp 2) 1), some (9, true)⟩,
    ⟨(some 11), .op (.load 1 false (.tmp 10)), some (9, true)⟩,
    ⟨(some 12), .call (.func i_impl_isOut) [(.tmp 11)], some (9, true)⟩,
    ⟨(some 13), .op (.pick (.tmp 9) (.tmp 12) (.const (Value.bool false))), none⟩,
    ⟨(some 3), .op (.mv (.tmp 13)), none⟩]) (.kill [1, 2, 4, 5, 6, 7, 8, 9, 10, 11, 12, 13]))
  .ret))
theorem cf_impl_ValidRewriter_1 : chkFn Try.prog i_impl_ValidRewriter_1 ac_impl_ValidRewriter_1 [.tmp 3] 14 = true := by decide +kernel
def fa_impl_ValidRewriter_1 : FnA := ⟨ac_impl_ValidRewriter_1, [.tmp 3], 14, false, true, [], .any, none⟩

/-- The checked code of impl OutMove . -/
def ac_impl_size_impl_OutMove : AC := (.seq (.post (.reg [⟨(some 2), .op (.mv (.const (Value.int .i64 0))), none⟩]) (.kill [2]))
  (.seq (.post (.reg [⟨(some 3), .op (.mv (.tmp 0)), none⟩,
    ⟨(some 4), .op (.len false (.tmp 3)), none⟩,
    ⟨(some 2), .op (.mv (.tmp 4)), none⟩]) (.kill [0, 3, 4]))
  .ret))
theorem cf_impl_size_impl_OutMove : chkFn Try.prog i_impl_size_impl_OutMove ac_impl_size_impl_OutMove [.tmp 2] 5 = true := by decide +kernel
def fa_impl_size_impl_OutMove : FnA := ⟨ac_impl_size_impl_OutMove, [.tmp 2], 5, false, true, [], .any, none⟩

/-- The checked code of impl OutMove . -/
def lb_slices_IndexFunc_L_impl_OutMove_0 : AC := (.seq (.reg [⟨(some 9), .op (.bin .lss (.tmp 8) (.tmp 7)), none⟩])
  (.seq (.cond (.tmp 9) (.ghost (.kill [9]) .skip)
  (.ghost (.kill [0, 1, 7, 8, 9]) (.exit 0)))
  (.seq (.block 1 (.seq (.post (.reg [⟨(some 10), .op (.mv (.tmp 8)), none⟩,
    ⟨(some 5), .op (.mv (.tmp 10)), none⟩]) (.kill [10]))
  (.seq (.post (.reg [⟨(some 11), .op (.mv (.tmp 1)), none⟩,
    ⟨(some 12), .op (.mv (.tmp 0)), none⟩,
    ⟨(some 13), .op (.mv (.tmp 5)), none⟩,
    ⟨(some 14), .op (.iaddrS (.tmp 12) (.tmp 13) 2), none⟩,
    ⟨(some 15), .op (.load 2 true (.tmp 14)), none⟩,
    ⟨(some 16), .call (.tmp 11) [(.tmp 15)], none⟩]) (.kill [11, 12, 13, 14, 15]))
  (.cond (.tmp 16) (.ghost (.kill [0, 1, 7, 8, 16]) (.seq (.post (.reg [⟨(some 17), .op (.mv (.tmp 5)), none⟩,
    ⟨(some 4), .op (.mv (.tmp 17)), none⟩]) (.kill [5, 17]))
  .ret))
  (.ghost (.kill [5, 16]) .skip)))))
  (.post (.reg [⟨(some 18), .op (.bin .add (.tmp 8) (.const (Value.int .i64 1))), none⟩,
    ⟨(some 8), .op (.mv (.tmp 18)), none⟩]) (.kill [18])))))
def lo_slices_IndexFunc_L_impl_OutMove_0 : AC := (.loop lb_slices_IndexFunc_L_impl_OutMove_0)
def ac_slices_IndexFunc_L_impl_OutMove : AC := (.seq (.post (.reg [⟨(some 4), .op (.mv (.const (Value.int .i64 0))), none⟩]) (.kill [4]))
  (.seq (.seq (.post (.reg [⟨(some 6), .op (.mv (.tmp 0)), none⟩,
    ⟨(some 7), .op (.len false (.tmp 6)), none⟩,
    ⟨(some 8), .op (.mv (.const (Value.int .i64 0))), none⟩]) (.kill [6]))
  (.block 0 lo_slices_IndexFunc_L_impl_OutMove_0))
  (.ghost (.kill [0, 1, 7, 8]) (.seq (.reg [⟨(some 4), .op (.mv (.const (Value.int .i64 (-1)))), none⟩])
  .ret))))
theorem cf_slices_IndexFunc_L_impl_OutMove : chkFn Try.prog i_slices_IndexFunc_L_impl_OutMove ac_slices_IndexFunc_L_impl_OutMove [.tmp 4] 19 = true := by decide +kernel
def fa_slices_IndexFunc_L_impl_OutMove : FnA := ⟨ac_slices_IndexFunc_L_impl_OutMove, [.tmp 4], 19, false, true, [], .any, none⟩

/-- The checked code of impl OutMove . -/
def ac_slices_ContainsFunc_L_impl_OutMove : AC := (.seq (.post (.reg [⟨(some 4), .op (.mv (.const (Value.bool false))), none⟩]) (.kill [4]))
  (.seq (.post (.reg [⟨(some 5), .op (.mv (.tmp 0)), none⟩,
    ⟨(some 6), .op (.mv (.tmp 1)), none⟩,
    ⟨(some 7), .call (.func i_slices_IndexFunc_L_impl_OutMove) [(.tmp 5), (.tmp 6)], none⟩,
    ⟨(some 8), .op (.bin .geq (.tmp 7) (.const (Value.int .i64 0))), none⟩,
    ⟨(some 4), .op (.mv (.tmp 8)), none⟩]) (.kill [0, 1, 5, 6, 7, 8]))
  .ret))
theorem cf_slices_ContainsFunc_L_impl_OutMove : chkFn Try.prog i_slices_ContainsFunc_L_impl_OutMove ac_slices_ContainsFunc_L_impl_OutMove [.tmp 4] 9 = true := by decide +kernel
def fa_slices_ContainsFunc_L_impl_OutMove : FnA := ⟨ac_slices_ContainsFunc_L_impl_OutMove, [.tmp 4], 9, false, true, [], .any, none⟩

/-- The checked code of impl ValidRewriter 2 1. -/
def ac_impl_ValidRewriter_2_1 : AC := (.seq (.post (.reg [⟨(some 2), .op (.box true (.tmp 0)), none⟩,
    ⟨(some 3), .op (.mv (.const (Value.bool false))), none⟩]) (.kill [0, 3]))
  (.seq (.post (.reg [⟨(some 4), .op (.load 1 false (.tmp 1)), none⟩,
    ⟨(some 5), .op (.load 2 true (.tmp 2)), none⟩,
    ⟨(some 6), .call (.tmp 4) [(.tmp 5)], none⟩,
    ⟨(some 7), .op (.un .not (.tmp 6)), none⟩,
    ⟨(some 3), .op (.mv (.tmp 7)), none⟩]) (.kill [1, 2, 4, 5, 6, 7]))
  .ret))
theorem cf_impl_ValidRewriter_2_1 : chkFn Try.prog i_impl_ValidRewriter_2_1 ac_impl_ValidRewriter_2_1 [.tmp 3] 8 = true := by decide +kernel
def fa_impl_ValidRewriter_2_1 : FnA := ⟨ac_impl_ValidRewriter_2_1, [.tmp 3], 8, false, true, [], .any, none⟩

/-- The checked code of impl ValidRewriter 2. -/
def ac_impl_ValidRewriter_2 : AC := (.seq (.post (.reg [⟨(some 5), .op (.mv (.const (Value.bool false))), none⟩]) (.kill [5]))
  (.seq (.post (.reg [⟨(some 6), .op (.mv (.tmp 0)), none⟩,
    ⟨(some 7), .call (.func i_impl_size_impl_OutMove) [(.tmp 6)], none⟩,
    ⟨(some 8), .op (.mv (.tmp 1)), none⟩,
    ⟨(some 9), .op (.bin .eql (.tmp 7) (.tmp 8)), none⟩,
    ⟨(some 10), .op (.mv (.tmp 9)), none⟩,
    ⟨(some 11), .op (.mv (.tmp 0)), some (10, true)⟩,
    ⟨(some 12), .op (.mkfn i_impl_ValidRewriter_2_1 [(.tmp 2)]), some (10, true)⟩,
    ⟨(some 13), .call (.func i_slices_ContainsFunc_L_impl_OutMove) [(.tmp 11), (.tmp 12)], some (10, true)⟩,
    ⟨(some 14), .op (.un .not (.tmp 13)), some (10, true)⟩,
    ⟨(some 15), .op (.pick (.tmp 10) (.tmp 14) (.const (Value.bool false))), none⟩,
    ⟨(some 5), .op (.mv (.tmp 15)), none⟩]) (.kill [0, 1, 2, 6, 7, 8, 9, 10, 11, 12, 13, 14, 15]))
  .ret))
theorem cf_impl_ValidRewriter_2 : chkFn Try.prog i_impl_ValidRewriter_2 ac_impl_ValidRewriter_2 [.tmp 5] 16 = true := by decide +kernel
def fa_impl_ValidRewriter_2 : FnA := ⟨ac_impl_ValidRewriter_2, [.tmp 5], 16, false, true, [], .any, none⟩

/-- The checked code of impl OutMove . -/
def ac_impl_size_L_L_impl_OutMove : AC := (.seq (.post (.reg [⟨(some 2), .op (.mv (.const (Value.int .i64 0))), none⟩]) (.kill [2]))
  (.seq (.post (.reg [⟨(some 3), .op (.mv (.tmp 0)), none⟩,
    ⟨(some 4), .op (.len false (.tmp 3)), none⟩,
    ⟨(some 2), .op (.mv (.tmp 4)), none⟩]) (.kill [0, 3, 4]))
  .ret))
theorem cf_impl_size_L_L_impl_OutMove : chkFn Try.prog i_impl_size_L_L_impl_OutMove ac_impl_size_L_L_impl_OutMove [.tmp 2] 5 = true := by decide +kernel
def fa_impl_size_L_L_impl_OutMove : FnA := ⟨ac_impl_size_L_L_impl_OutMove, [.tmp 2], 5, false, true, [], .any, none⟩

/-- The checked code of impl OutMove . -/
def ac_impl_size_L_impl_OutMove : AC := (.seq (.post (.reg [⟨(some 2), .op (.mv (.const (Value.int .i64 0))), none⟩]) (.kill [2]))
  (.seq (.post (.reg [⟨(some 3), .op (.mv (.tmp 0)), none⟩,
    ⟨(some 4), .op (.len false (.tmp 3)), none⟩,
    ⟨(some 2), .op (.mv (.tmp 4)), none⟩]) (.kill [0, 3, 4]))
  .ret))
theorem cf_impl_size_L_impl_OutMove : chkFn Try.prog i_impl_size_L_impl_OutMove ac_impl_size_L_impl_OutMove [.tmp 2] 5 = true := by decide +kernel
def fa_impl_size_L_impl_OutMove : FnA := ⟨ac_impl_size_L_impl_OutMove, [.tmp 2], 5, false, true, [], .any, none⟩

/-- The checked code of impl ValidRewriter. -/
def lb_impl_ValidRewriter_0 : AC := (.post (.seq (.reg [⟨(some 76), .op (.bin .lss (.tmp 75) (.const (Value.int .i64 2))), none⟩])
  (.seq (.cond (.tmp 76) (.ghost (.kill [76]) .skip)
  (.ghost (.kill [6, 75, 76]) (.exit 2)))
  (.seq (.block 3 (.seq (.post (.reg [⟨(some 77), .op (.mv (.tmp 75)), none⟩,
    ⟨(some 7), .op (.mv (.tmp 77)), none⟩]) (.kill [77]))
  (.seq (.post (.reg [⟨(some 78), .op (.faddr (.tmp 1) 2), none⟩,
    ⟨(some 79), .op (.load 1 false (.tmp 78)), none⟩,
    ⟨(some 80), .op (.mv (.tmp 6)), none⟩,
    ⟨(some 81), .op (.iaddrS (.tmp 79) (.tmp 80) 1), none⟩,
    ⟨(some 82), .op (.load 1 false (.tmp 81)), none⟩,
    ⟨(some 83), .op (.mv (.tmp 7)), none⟩,
    ⟨(some 84), .op (.iaddrS (.tmp 82) (.tmp 83) 3), none⟩,
    ⟨(some 85), .op (.load 3 true (.tmp 84)), none⟩,
    ⟨(some 8), .op (.alloc (Value.agg #[Value.int .i64 0, Value.int .i64 0, Value.string ⟨#[]⟩])), none⟩,
    ⟨none, .op (.store 3 (.tmp 8) (.tmp 85)), none⟩]) (.kill [78, 79, 80, 81, 82, 83, 84, 85]))
  (.seq (.post (.draw [⟨0, ⟨(some 86), .op (.load 1 false (.tmp 4)), none⟩, []⟩,
    ⟨1, ⟨(some 87), .op (.faddr (.tmp 8) 0), none⟩, []⟩,
    ⟨2, ⟨(some 88), .op (.load 1 false (.tmp 87)), none⟩, []⟩,
    ⟨3, ⟨(some 89), .op (.faddr (.tmp 8) 2), none⟩, []⟩,
    ⟨4, ⟨(some 90), .op (.load 1 false (.tmp 89)), none⟩, []⟩,
    ⟨5, ⟨(some 91), .op (.build [Value.int .i64 0, Value.string ⟨#[]⟩] [(0, 1, (.tmp 88)), (1, 1, (.tmp 90))]), none⟩, []⟩,
    ⟨6, ⟨(some 92), .call (.tmp 86) [(.tmp 91)], none⟩, []⟩,
    ⟨7, ⟨(some 93), .op (.un .not (.tmp 92)), none⟩, []⟩,
    ⟨8, ⟨(some 94), .op (.mv (.tmp 93)), none⟩, []⟩,
    ⟨9, ⟨(some 95), .op (.faddr (.tmp 8) 1), some (94, false)⟩, []⟩,
    ⟨10, ⟨(some 96), .op (.load 1 false (.tmp 95)), some (94, false)⟩, []⟩,
    ⟨11, ⟨(some 97), .op (.faddr (.tmp 1) 0), some (94, false)⟩, []⟩,
    ⟨12, ⟨(some 98), .op (.load 1 false (.tmp 97)), some (94, false)⟩, []⟩,
    ⟨13, ⟨(some 99), .op (.bin .sub (.tmp 98) (.const (Value.int .i64 1))), some (94, false)⟩, []⟩,
    ⟨14, ⟨(some 100), .call (.func i_impl_within) [(.tmp 96), (.const (Value.int .i64 0)), (.tmp 99)], some (94, false)⟩, []⟩,
    ⟨15, ⟨(some 101), .op (.un .not (.tmp 100)), some (94, false)⟩, []⟩,
    ⟨16, ⟨(some 102), .op (.pick (.tmp 94) (.const (Value.bool true)) (.tmp 101)), none⟩, []⟩,
    ⟨17, ⟨(some 103), .op (.mv (.tmp 102)), none⟩, []⟩,
    ⟨18, ⟨(some 104), .op (.mv (.tmp 5)), some (103, false)⟩, []⟩,
    ⟨19, ⟨(some 105), .op (.faddr (.tmp 1) 3), some (103, false)⟩, []⟩,
    ⟨20, ⟨(some 106), .op (.load 1 false (.tmp 105)), some (103, false)⟩, []⟩,
    ⟨21, ⟨(some 107), .op (.mv (.tmp 6)), some (103, false)⟩, []⟩,
    ⟨22, ⟨(some 108), .op (.iaddrS (.tmp 106) (.tmp 107) 1), some (103, false)⟩, []⟩,
    ⟨23, ⟨(some 109), .op (.load 1 false (.tmp 108)), some (103, false)⟩, []⟩,
    ⟨24, ⟨(some 110), .op (.mv (.tmp 7)), some (103, false)⟩, []⟩,
    ⟨25, ⟨(some 111), .op (.iaddrS (.tmp 109) (.tmp 110) 1), some (103, false)⟩, []⟩,
    ⟨26, ⟨(some 112), .op (.load 1 false (.tmp 111)), some (103, false)⟩, []⟩,
    ⟨27, ⟨(some 113), .op (.faddr (.tmp 1) 0), some (103, false)⟩, []⟩,
    ⟨28, ⟨(some 114), .op (.load 1 false (.tmp 113)), some (103, false)⟩, []⟩,
    ⟨29, ⟨(some 115), .op (.bin .add (.tmp 114) (.const (Value.int .i64 1))), some (103, false)⟩, []⟩,
    ⟨30, ⟨(some 116), .call (.tmp 104) [(.tmp 112), (.tmp 115)], some (103, false)⟩, []⟩,
    ⟨31, ⟨(some 117), .op (.un .not (.tmp 116)), some (103, false)⟩, []⟩,
    ⟨32, ⟨(some 118), .op (.pick (.tmp 103) (.const (Value.bool true)) (.tmp 117)), none⟩, []⟩]
    [0, 0, 2, 0, 8, 30, 63, 127, 255, 511, 1023, 511, 2559, 6655, 16383, 32767, 65535, 131071, 262143, 262143, 786431, 262143, 3932159, 8126463, 262143, 33292287, 66846719, 262143, 134479871, 402915327, 1073741823, 2147483647, 4294967295]) (.kill [7, 8, 86, 87, 88, 89, 90, 91, 92, 93, 94, 95, 96, 97, 98, 99, 100, 101, 102, 103, 104, 105, 106, 107, 108, 109, 110, 111, 112, 113, 114, 115, 116, 117]))
  (.cond (.tmp 118) (.ghost (.kill [1, 4, 5, 6, 45, 46, 75, 118]) (.seq (.reg [⟨(some 2), .op (.mv (.const (Value.bool false))), none⟩])
  .ret))
  (.ghost (.kill [118]) .skip))))))
  (.post (.reg [⟨(some 119), .op (.bin .add (.tmp 75) (.const (Value.int .i64 1))), none⟩,
    ⟨(some 75), .op (.mv (.tmp 119)), none⟩]) (.kill [119]))))) .nv)
def lo_impl_ValidRewriter_0 : AC := (.loop lb_impl_ValidRewriter_0)
def lb_impl_ValidRewriter_1 : AC := (.post (.seq (.reg [⟨(some 47), .op (.bin .lss (.tmp 46) (.tmp 45)), none⟩])
  (.seq (.cond (.tmp 47) (.ghost (.kill [47]) .skip)
  (.ghost (.kill [1, 4, 5, 45, 46, 47]) (.exit 0)))
  (.seq (.block 1 (.seq (.post (.reg [⟨(some 48), .op (.mv (.tmp 46)), none⟩,
    ⟨(some 6), .op (.mv (.tmp 48)), none⟩]) (.kill [48]))
  (.seq (.seq (.post (.reg [⟨(some 49), .op (.faddr (.tmp 1) 2), none⟩,
    ⟨(some 50), .op (.load 1 false (.tmp 49)), none⟩,
    ⟨(some 51), .op (.mv (.tmp 6)), none⟩,
    ⟨(some 52), .op (.iaddrS (.tmp 50) (.tmp 51) 1), none⟩,
    ⟨(some 53), .op (.load 1 false (.tmp 52)), none⟩,
    ⟨(some 54), .op (.len false (.tmp 53)), none⟩,
    ⟨(some 55), .op (.bin .neq (.tmp 54) (.const (Value.int .i64 2))), none⟩,
    ⟨(some 56), .op (.mv (.tmp 55)), none⟩,
    ⟨(some 57), .op (.faddr (.tmp 1) 3), some (56, false)⟩,
    ⟨(some 58), .op (.load 1 false (.tmp 57)), some (56, false)⟩,
    ⟨(some 59), .op (.mv (.tmp 6)), some (56, false)⟩,
    ⟨(some 60), .op (.iaddrS (.tmp 58) (.tmp 59) 1), some (56, false)⟩,
    ⟨(some 61), .op (.load 1 false (.tmp 60)), some (56, false)⟩,
    ⟨(some 62), .op (.len false (.tmp 61)), some (56, false)⟩,
    ⟨(some 63), .op (.bin .neq (.tmp 62) (.const (Value.int .i64 2))), some (56, false)⟩,
    ⟨(some 64), .op (.pick (.tmp 56) (.const (Value.bool true)) (.tmp 63)), none⟩,
    ⟨(some 65), .op (.mv (.tmp 64)), none⟩,
    ⟨(some 66), .op (.mv (.tmp 5)), some (65, false)⟩,
    ⟨(some 67), .op (.faddr (.tmp 1) 4), some (65, false)⟩,
    ⟨(some 68), .op (.load 1 false (.tmp 67)), some (65, false)⟩,
    ⟨(some 69), .op (.mv (.tmp 6)), some (65, false)⟩,
    ⟨(some 70), .op (.iaddrS (.tmp 68) (.tmp 69) 1), some (65, false)⟩,
    ⟨(some 71), .op (.load 1 false (.tmp 70)), some (65, false)⟩,
    ⟨(some 72), .call (.tmp 66) [(.tmp 71), (.const (Value.int .i64 2))], some (65, false)⟩,
    ⟨(some 73), .op (.un .not (.tmp 72)), some (65, false)⟩,
    ⟨(some 74), .op (.pick (.tmp 65) (.const (Value.bool true)) (.tmp 73)), none⟩]) (.kill [49, 50, 51, 52, 53, 54, 55, 56, 57, 58, 59, 60, 61, 62, 63, 64, 65, 66, 67, 68, 69, 70, 71, 72, 73]))
  (.cond (.tmp 74) (.ghost (.kill [1, 4, 5, 6, 45, 46, 74]) (.seq (.reg [⟨(some 2), .op (.mv (.const (Value.bool false))), none⟩])
  .ret))
  (.ghost (.kill [74]) .skip)))
  (.seq (.reg [⟨(some 75), .op (.mv (.const (Value.int .i64 0))), none⟩])
  (.post (.block 2 (.ghost .nv lo_impl_ValidRewriter_0)) .nv)))))
  (.ghost (.kill [6, 75]) (.post (.reg [⟨(some 120), .op (.bin .add (.tmp 46) (.const (Value.int .i64 1))), none⟩,
    ⟨(some 46), .op (.mv (.tmp 120)), none⟩]) (.kill [120])))))) .nv)
def lo_impl_ValidRewriter_1 : AC := (.loop lb_impl_ValidRewriter_1)
def ac_impl_ValidRewriter : AC := (.seq (.post (.reg [⟨(some 1), .op (.box true (.tmp 0)), none⟩,
    ⟨(some 2), .op (.mv (.const (Value.bool false))), none⟩]) (.kill [0, 2]))
  (.seq (.post (.reg [⟨(some 9), .op (.faddr (.tmp 1) 2), none⟩,
    ⟨(some 10), .op (.load 1 false (.tmp 9)), none⟩,
    ⟨(some 11), .call (.func i_impl_size_L_impl_OutPush) [(.tmp 10)], none⟩,
    ⟨(some 3), .op (.alloc (Value.int .i64 0)), none⟩,
    ⟨none, .op (.store 1 (.tmp 3) (.tmp 11)), none⟩]) (.kill [9, 10, 11]))
  (.seq (.post (.reg [⟨(some 12), .op (.mkfn i_impl_ValidRewriter_1 [(.tmp 3)]), none⟩,
    ⟨(some 4), .op (.alloc (Value.nilFunc)), none⟩,
    ⟨none, .op (.store 1 (.tmp 4) (.tmp 12)), none⟩]) (.kill [12]))
  (.seq (.post (.reg [⟨(some 13), .op (.mkfn i_impl_ValidRewriter_2 [(.tmp 4)]), none⟩,
    ⟨(some 5), .op (.mv (.tmp 13)), none⟩]) (.kill [13]))
  (.seq (.seq (.post (.draw [⟨0, ⟨(some 14), .op (.load 1 false (.tmp 3)), none⟩, []⟩,
    ⟨1, ⟨(some 15), .call (.func i_impl_within) [(.tmp 14), (.const (Value.int .i64 1)), (.const (Value.int .i64 8))], none⟩, []⟩,
    ⟨2, ⟨(some 16), .op (.un .not (.tmp 15)), none⟩, []⟩,
    ⟨3, ⟨(some 17), .op (.mv (.tmp 16)), none⟩, []⟩,
    ⟨4, ⟨(some 18), .op (.faddr (.tmp 1) 0), some (17, false)⟩, []⟩,
    ⟨5, ⟨(some 19), .op (.load 1 false (.tmp 18)), some (17, false)⟩, []⟩,
    ⟨6, ⟨(some 20), .call (.func i_impl_within) [(.tmp 19), (.const (Value.int .i64 1)), (.const (Value.int .i64 8))], some (17, false)⟩, []⟩,
    ⟨7, ⟨(some 21), .op (.un .not (.tmp 20)), some (17, false)⟩, []⟩,
    ⟨8, ⟨(some 22), .op (.pick (.tmp 17) (.const (Value.bool true)) (.tmp 21)), none⟩, []⟩,
    ⟨9, ⟨(some 23), .op (.mv (.tmp 22)), none⟩, []⟩,
    ⟨10, ⟨(some 24), .op (.faddr (.tmp 1) 1), some (23, false)⟩, []⟩,
    ⟨11, ⟨(some 25), .op (.load 1 false (.tmp 24)), some (23, false)⟩, []⟩,
    ⟨12, ⟨(some 26), .op (.load 1 false (.tmp 3)), some (23, false)⟩, []⟩,
    ⟨13, ⟨(some 27), .op (.bin .sub (.tmp 26) (.const (Value.int .i64 1))), some (23, false)⟩, []⟩,
    ⟨14, ⟨(some 28), .call (.func i_impl_within) [(.tmp 25), (.const (Value.int .i64 0)), (.tmp 27)], some (23, false)⟩, []⟩,
    ⟨15, ⟨(some 29), .op (.un .not (.tmp 28)), some (23, false)⟩, []⟩,
    ⟨16, ⟨(some 30), .op (.pick (.tmp 23) (.const (Value.bool true)) (.tmp 29)), none⟩, []⟩,
    ⟨17, ⟨(some 31), .op (.mv (.tmp 30)), none⟩, []⟩,
    ⟨18, ⟨(some 32), .op (.faddr (.tmp 1) 3), some (31, false)⟩, []⟩,
    ⟨19, ⟨(some 33), .op (.load 1 false (.tmp 32)), some (31, false)⟩, []⟩,
    ⟨21, ⟨(some 35), .op (.load 1 false (.tmp 3)), some (31, false)⟩, []⟩,
    ⟨20, ⟨(some 34), .call (.func i_impl_size_L_L_impl_OutMove) [(.tmp 33)], some (31, false)⟩, [21]⟩,
    ⟨22, ⟨(some 36), .op (.bin .neq (.tmp 34) (.tmp 35)), some (31, false)⟩, []⟩,
    ⟨23, ⟨(some 37), .op (.pick (.tmp 31) (.const (Value.bool true)) (.tmp 36)), none⟩, []⟩,
    ⟨24, ⟨(some 38), .op (.mv (.tmp 37)), none⟩, []⟩,
    ⟨25, ⟨(some 39), .op (.faddr (.tmp 1) 4), some (38, false)⟩, []⟩,
    ⟨26, ⟨(some 40), .op (.load 1 false (.tmp 39)), some (38, false)⟩, []⟩,
    ⟨28, ⟨(some 42), .op (.load 1 false (.tmp 3)), some (38, false)⟩, []⟩,
    ⟨27, ⟨(some 41), .call (.func i_impl_size_L_impl_OutMove) [(.tmp 40)], some (38, false)⟩, [28]⟩,
    ⟨29, ⟨(some 43), .op (.bin .neq (.tmp 41) (.tmp 42)), some (38, false)⟩, []⟩,
    ⟨30, ⟨(some 44), .op (.pick (.tmp 38) (.const (Value.bool true)) (.tmp 43)), none⟩, []⟩]
    [0, 1, 3, 7, 15, 31, 63, 127, 255, 511, 1023, 2047, 1023, 5119, 16383, 32767, 65535, 131071, 262143, 524287, 1048575, 262143, 4194303, 8388607, 16777215, 33554431, 67108863, 134217727, 33554431, 536870911, 1073741823]) (.kill [14, 15, 16, 17, 18, 19, 20, 21, 22, 23, 24, 25, 26, 27, 28, 29, 30, 31, 32, 33, 34, 35, 36, 37, 38, 39, 40, 41, 42, 43]))
  (.cond (.tmp 44) (.ghost (.kill [1, 3, 4, 5, 44]) (.seq (.reg [⟨(some 2), .op (.mv (.const (Value.bool false))), none⟩])
  .ret))
  (.ghost (.kill [44]) .skip)))
  (.seq (.seq (.post (.reg [⟨(some 45), .op (.load 1 false (.tmp 3)), none⟩,
    ⟨(some 46), .op (.mv (.const (Value.int .i64 0))), none⟩]) (.kill [3]))
  (.post (.block 0 (.ghost .nv lo_impl_ValidRewriter_1)) .nv))
  (.ghost (.kill [1, 4, 5, 45, 46]) (.seq (.reg [⟨(some 2), .op (.mv (.const (Value.bool true))), none⟩])
  .ret))))))))
theorem cf_impl_ValidRewriter : chkFn Try.prog i_impl_ValidRewriter ac_impl_ValidRewriter [.tmp 2] 121 = true := by decide +kernel
def fa_impl_ValidRewriter : FnA := ⟨ac_impl_ValidRewriter, [.tmp 2], 121, false, true, [], .any, none⟩

/-- The checked code of impl size int64 . -/
def ac_impl_size_int64 : AC := (.seq (.post (.reg [⟨(some 2), .op (.mv (.const (Value.int .i64 0))), none⟩]) (.kill [2]))
  (.seq (.post (.reg [⟨(some 3), .op (.mv (.tmp 0)), none⟩,
    ⟨(some 4), .op (.len false (.tmp 3)), none⟩,
    ⟨(some 2), .op (.mv (.tmp 4)), none⟩]) (.kill [0, 3, 4]))
  .ret))
theorem cf_impl_size_int64 : chkFn Try.prog i_impl_size_int64 ac_impl_size_int64 [.tmp 2] 5 = true := by decide +kernel
def fa_impl_size_int64 : FnA := ⟨ac_impl_size_int64, [.tmp 2], 5, false, true, [], .any, none⟩

/-- The checked code of impl isReturn. -/
def ac_impl_isReturn : AC := (.seq (.post (.reg [⟨(some 2), .op (.mv (.const (Value.bool false))), none⟩]) (.kill [2]))
  (.seq (.post (.reg [⟨(some 3), .op (.mv (.tmp 0)), none⟩,
    ⟨(some 4), .op (.bin .eql (.tmp 3) (.const (Value.int .u8 41))), none⟩,
    ⟨(some 5), .op (.mv (.tmp 4)), none⟩,
    ⟨(some 6), .op (.mv (.tmp 0)), some (5, false)⟩,
    ⟨(some 7), .op (.bin .eql (.tmp 6) (.const (Value.int .u8 93))), some (5, false)⟩,
    ⟨(some 8), .op (.pick (.tmp 5) (.const (Value.bool true)) (.tmp 7)), none⟩,
    ⟨(some 2), .op (.mv (.tmp 8)), none⟩]) (.kill [0, 3, 4, 5, 6, 7, 8]))
  .ret))
theorem cf_impl_isReturn : chkFn Try.prog i_impl_isReturn ac_impl_isReturn [.tmp 2] 9 = true := by decide +kernel
def fa_impl_isReturn : FnA := ⟨ac_impl_isReturn, [.tmp 2], 9, false, true, [], .any, none⟩

/-- The checked code of impl isCall. -/
def ac_impl_isCall : AC := (.seq (.post (.reg [⟨(some 2), .op (.mv (.const (Value.bool false))), none⟩]) (.kill [2]))
  (.seq (.post (.reg [⟨(some 3), .op (.mv (.tmp 0)), none⟩,
    ⟨(some 4), .op (.bin .eql (.tmp 3) (.const (Value.int .u8 40))), none⟩,
    ⟨(some 5), .op (.mv (.tmp 4)), none⟩,
    ⟨(some 6), .op (.mv (.tmp 0)), some (5, false)⟩,
    ⟨(some 7), .op (.bin .eql (.tmp 6) (.const (Value.int .u8 91))), some (5, false)⟩,
    ⟨(some 8), .op (.pick (.tmp 5) (.const (Value.bool true)) (.tmp 7)), none⟩,
    ⟨(some 2), .op (.mv (.tmp 8)), none⟩]) (.kill [0, 3, 4, 5, 6, 7, 8]))
  .ret))
theorem cf_impl_isCall : chkFn Try.prog i_impl_isCall ac_impl_isCall [.tmp 2] 9 = true := by decide +kernel
def fa_impl_isCall : FnA := ⟨ac_impl_isCall, [.tmp 2], 9, false, true, [], .any, none⟩

/-- The checked code of impl match. -/
def lb_impl_match_0 : AC := (.post (.seq (.reg [⟨(some 15), .op (.bin .lss (.tmp 14) (.tmp 13)), none⟩])
  (.seq (.cond (.tmp 15) (.ghost (.kill [15]) .skip)
  (.ghost (.kill [0, 13, 14, 15]) (.exit 0)))
  (.seq (.block 1 (.seq (.post (.reg [⟨(some 16), .op (.mv (.tmp 14)), none⟩,
    ⟨(some 4), .op (.mv (.tmp 16)), none⟩]) (.kill [16]))
  (.seq (.post (.reg [⟨(some 17), .op (.mv (.tmp 4)), none⟩,
    ⟨(some 5), .op (.mv (.tmp 17)), none⟩,
    ⟨(some 6), .op (.mv (.const (Value.int .i64 (-1)))), none⟩]) (.kill [17]))
  (.seq (.post (.reg [⟨(some 18), .op (.faddr (.tmp 3) 2), none⟩,
    ⟨(some 19), .op (.load 1 false (.tmp 18)), none⟩,
    ⟨(some 20), .op (.len false (.tmp 19)), none⟩,
    ⟨(some 7), .op (.mv (.tmp 20)), none⟩]) (.kill [18, 19, 20]))
  (.seq (.block 2 (.seq (.post (.reg [⟨(some 22), .op (.mv (.tmp 0)), none⟩,
    ⟨(some 23), .op (.mv (.tmp 4)), none⟩,
    ⟨(some 24), .op (.idxStr (.tmp 22) (.tmp 23)), none⟩,
    ⟨(some 25), .call (.func i_impl_isReturn) [(.tmp 24)], none⟩,
    ⟨(some 26), .op (.mv (.tmp 25)), none⟩,
    ⟨(some 27), .op (.mv (.tmp 7)), some (26, true)⟩,
    ⟨(some 28), .op (.bin .eql (.tmp 27) (.const (Value.int .i64 0))), some (26, true)⟩,
    ⟨(some 29), .op (.pick (.tmp 26) (.tmp 28) (.const (Value.bool false))), none⟩,
    ⟨(some 21), .op (.mv (.tmp 29)), none⟩]) (.kill [22, 23, 24, 25, 26, 27, 28, 29]))
  (.cond (.tmp 21) (.ghost (.kill [6, 7, 21]) (.seq (.reg [⟨(some 6), .op (.mv (.const (Value.int .i64 (-2)))), none⟩])
  (.post (.post (.reg [⟨(some 30), .op (.faddr (.tmp 3) 1), none⟩,
    ⟨(some 31), .op (.load 1 false (.tmp 30)), none⟩,
    ⟨(some 32), .op (.mv (.tmp 5)), none⟩,
    ⟨(some 33), .op (.lits true 1 1 (Value.int .i64 0) [(0, (.tmp 32))]), none⟩,
    ⟨(some 34), .op (.append (.tmp 31) (.tmp 33) 1 8), none⟩,
    ⟨(some 35), .op (.faddr (.tmp 3) 1), none⟩,
    ⟨none, .op (.store 1 (.tmp 35) (.tmp 34)), none⟩]) (.kill [30, 31, 32, 33, 34, 35])) .nv)))
  (.ghost (.kill [21]) (.seq (.post (.reg [⟨(some 37), .op (.mv (.tmp 0)), none⟩,
    ⟨(some 38), .op (.mv (.tmp 4)), none⟩,
    ⟨(some 39), .op (.idxStr (.tmp 37) (.tmp 38)), none⟩,
    ⟨(some 40), .call (.func i_impl_isReturn) [(.tmp 39)], none⟩,
    ⟨(some 36), .op (.mv (.tmp 40)), none⟩]) (.kill [37, 38, 39, 40]))
  (.cond (.tmp 36) (.ghost (.kill [6, 36]) (.seq (.post (.reg [⟨(some 41), .op (.faddr (.tmp 3) 2), none⟩,
    ⟨(some 42), .op (.load 1 false (.tmp 41)), none⟩,
    ⟨(some 43), .op (.mv (.tmp 7)), none⟩,
    ⟨(some 44), .op (.bin .sub (.tmp 43) (.const (Value.int .i64 1))), none⟩,
    ⟨(some 45), .op (.iaddrS (.tmp 42) (.tmp 44) 1), none⟩,
    ⟨(some 46), .op (.load 1 false (.tmp 45)), none⟩,
    ⟨(some 6), .op (.mv (.tmp 46)), none⟩]) (.kill [41, 42, 43, 44, 45, 46]))
  (.seq (.post (.reg [⟨(some 47), .op (.faddr (.tmp 3) 0), none⟩,
    ⟨(some 48), .op (.load 1 false (.tmp 47)), none⟩,
    ⟨(some 49), .op (.mv (.tmp 6)), none⟩,
    ⟨(some 50), .op (.mv (.tmp 5)), none⟩,
    ⟨(some 51), .op (.iaddrS (.tmp 48) (.tmp 49) 1), none⟩,
    ⟨none, .op (.store 1 (.tmp 51) (.tmp 50)), none⟩]) (.kill [47, 48, 49, 50, 51]))
  (.post (.post (.reg [⟨(some 52), .op (.faddr (.tmp 3) 2), none⟩,
    ⟨(some 53), .op (.load 1 false (.tmp 52)), none⟩,
    ⟨(some 54), .op (.mv (.tmp 7)), none⟩,
    ⟨(some 55), .op (.bin .sub (.tmp 54) (.const (Value.int .i64 1))), none⟩,
    ⟨(some 56), .op (.slcS (.tmp 53) none (some (.tmp 55)) none 1), none⟩,
    ⟨(some 57), .op (.faddr (.tmp 3) 2), none⟩,
    ⟨none, .op (.store 1 (.tmp 57) (.tmp 56)), none⟩]) (.kill [7, 52, 53, 54, 55, 56, 57])) .nv))))
  (.ghost (.kill [7, 36]) .skip)))))))
  (.seq (.reg [⟨(some 8), .op (.mv (.const (Value.int .i64 (-1)))), none⟩])
  (.seq (.seq (.post (.reg [⟨(some 58), .op (.faddr (.tmp 3) 2), none⟩,
    ⟨(some 59), .op (.load 1 false (.tmp 58)), none⟩,
    ⟨(some 60), .op (.len false (.tmp 59)), none⟩,
    ⟨(some 9), .op (.mv (.tmp 60)), none⟩]) (.kill [58, 59, 60]))
  (.seq (.post (.reg [⟨(some 61), .op (.mv (.tmp 9)), none⟩,
    ⟨(some 62), .op (.bin .gtr (.tmp 61) (.const (Value.int .i64 0))), none⟩]) (.kill [61]))
  (.cond (.tmp 62) (.ghost (.kill [8, 62]) (.post (.reg [⟨(some 63), .op (.faddr (.tmp 3) 2), none⟩,
    ⟨(some 64), .op (.load 1 false (.tmp 63)), none⟩,
    ⟨(some 65), .op (.mv (.tmp 9)), none⟩,
    ⟨(some 66), .op (.bin .sub (.tmp 65) (.const (Value.int .i64 1))), none⟩,
    ⟨(some 67), .op (.iaddrS (.tmp 64) (.tmp 66) 1), none⟩,
    ⟨(some 68), .op (.load 1 false (.tmp 67)), none⟩,
    ⟨(some 8), .op (.mv (.tmp 68)), none⟩]) (.kill [9, 63, 64, 65, 66, 67, 68])))
  (.ghost (.kill [9, 62]) .skip))))
  (.seq (.seq (.post (.reg [⟨(some 69), .op (.mv (.tmp 0)), none⟩,
    ⟨(some 70), .op (.mv (.tmp 4)), none⟩,
    ⟨(some 71), .op (.idxStr (.tmp 69) (.tmp 70)), none⟩,
    ⟨(some 72), .call (.func i_impl_isCall) [(.tmp 71)], none⟩]) (.kill [4, 69, 70, 71]))
  (.cond (.tmp 72) (.ghost (.kill [6, 72]) (.seq (.reg [⟨(some 6), .op (.mv (.const (Value.int .i64 (-2)))), none⟩])
  (.post (.post (.reg [⟨(some 73), .op (.faddr (.tmp 3) 2), none⟩,
    ⟨(some 74), .op (.load 1 false (.tmp 73)), none⟩,
    ⟨(some 75), .op (.mv (.tmp 5)), none⟩,
    ⟨(some 76), .op (.lits true 1 1 (Value.int .i64 0) [(0, (.tmp 75))]), none⟩,
    ⟨(some 77), .op (.append (.tmp 74) (.tmp 76) 1 8), none⟩,
    ⟨(some 78), .op (.faddr (.tmp 3) 2), none⟩,
    ⟨none, .op (.store 1 (.tmp 78) (.tmp 77)), none⟩]) (.kill [5, 73, 74, 75, 76, 77, 78])) .nv)))
  (.ghost (.kill [5, 72]) .skip)))
  (.seq (.post (.post (.draw [⟨0, ⟨(some 79), .op (.faddr (.tmp 3) 0), none⟩, []⟩,
    ⟨1, ⟨(some 80), .op (.load 1 false (.tmp 79)), none⟩, []⟩,
    ⟨2, ⟨(some 81), .op (.mv (.tmp 6)), none⟩, []⟩,
    ⟨3, ⟨(some 82), .op (.lits true 1 1 (Value.int .i64 0) [(0, (.tmp 81))]), none⟩, []⟩,
    ⟨5, ⟨(some 84), .op (.faddr (.tmp 3) 4), none⟩, []⟩,
    ⟨6, ⟨(some 85), .op (.load 1 false (.tmp 84)), none⟩, []⟩,
    ⟨7, ⟨(some 86), .op (.mv (.tmp 8)), none⟩, []⟩,
    ⟨8, ⟨(some 87), .op (.lits true 1 1 (Value.int .i64 0) [(0, (.tmp 86))]), none⟩, []⟩,
    ⟨4, ⟨(some 83), .op (.append (.tmp 80) (.tmp 82) 1 8), none⟩, [6]⟩,
    ⟨10, ⟨(some 89), .op (.faddr (.tmp 3) 0), none⟩, []⟩,
    ⟨9, ⟨(some 88), .op (.append (.tmp 85) (.tmp 87) 1 8), none⟩, []⟩,
    ⟨11, ⟨none, .op (.store 1 (.tmp 89) (.tmp 83)), none⟩, []⟩,
    ⟨12, ⟨(some 90), .op (.faddr (.tmp 3) 4), none⟩, []⟩,
    ⟨13, ⟨none, .op (.store 1 (.tmp 90) (.tmp 88)), none⟩, []⟩]
    [0, 1, 0, 4, 15, 0, 32, 0, 128, 511, 127, 2047, 4095, 8191]) (.kill [6, 8, 79, 80, 81, 82, 83, 84, 85, 86, 87, 88, 89, 90])) .nv)
  (.post (.post (.draw [⟨0, ⟨(some 91), .op (.faddr (.tmp 3) 3), none⟩, []⟩,
    ⟨1, ⟨(some 92), .op (.load 1 false (.tmp 91)), none⟩, []⟩,
    ⟨2, ⟨(some 93), .op (.faddr (.tmp 3) 2), none⟩, []⟩,
    ⟨3, ⟨(some 94), .op (.load 1 false (.tmp 93)), none⟩, []⟩,
    ⟨4, ⟨(some 95), .call (.func i_impl_size_int64) [(.tmp 94)], none⟩, [1]⟩,
    ⟨5, ⟨(some 96), .op (.lits true 1 1 (Value.int .i64 0) [(0, (.tmp 95))]), none⟩, []⟩,
    ⟨6, ⟨(some 97), .op (.append (.tmp 92) (.tmp 96) 1 8), none⟩, []⟩,
    ⟨7, ⟨(some 98), .op (.faddr (.tmp 3) 3), none⟩, []⟩,
    ⟨8, ⟨none, .op (.store 1 (.tmp 98) (.tmp 97)), none⟩, []⟩]
    [0, 1, 0, 4, 12, 28, 63, 127, 255]) (.kill [91, 92, 93, 94, 95, 96, 97, 98])) .nv))))))))))
  (.post (.reg [⟨(some 99), .op (.bin .add (.tmp 14) (.const (Value.int .i64 1))), none⟩,
    ⟨(some 14), .op (.mv (.tmp 99)), none⟩]) (.kill [99]))))) .nv)
def lo_impl_match_0 : AC := (.loop lb_impl_match_0)
def ac_impl_match : AC := (.seq (.reg [⟨(some 2), .op (.alloc (Value.agg #[Value.slice none 0 0, Value.slice none 0 0, Value.slice none 0 0, Value.slice none 0 0, Value.slice none 0 0])), none⟩])
  (.seq (.post (.reg [⟨(some 10), .op (.lits false 1 1 (Value.int .i64 0) [(0, (.const (Value.int .i64 0)))]), none⟩,
    ⟨(some 11), .op (.build [Value.slice none 0 0, Value.slice none 0 0, Value.slice none 0 0, Value.slice none 0 0, Value.slice none 0 0] [(3, 1, (.tmp 10))]), none⟩,
    ⟨(some 3), .op (.alloc (Value.agg #[Value.slice none 0 0, Value.slice none 0 0, Value.slice none 0 0, Value.slice none 0 0, Value.slice none 0 0])), none⟩,
    ⟨none, .op (.store 5 (.tmp 3) (.tmp 11)), none⟩]) (.kill [10, 11]))
  (.seq (.seq (.post (.reg [⟨(some 12), .op (.mv (.tmp 0)), none⟩,
    ⟨(some 13), .op (.len true (.tmp 12)), none⟩,
    ⟨(some 14), .op (.mv (.const (Value.int .i64 0))), none⟩]) (.kill [12]))
  (.post (.block 0 (.ghost (.ow 3 (some 0) 1) (.ghost (.ow 3 (some 1) 1) (.ghost (.ow 3 (some 2) 1) (.ghost (.ow 3 (some 3) 1) (.ghost (.ow 3 (some 4) 1) (.ghost .nv lo_impl_match_0))))))) .nv))
  (.ghost (.kill [0, 13, 14]) (.seq (.post (.reg [⟨(some 100), .op (.load 5 true (.tmp 3)), none⟩,
    ⟨none, .op (.store 5 (.tmp 2) (.tmp 100)), none⟩]) (.kill [3, 100]))
  .ret)))))
theorem cf_impl_match : chkFn Try.prog i_impl_match ac_impl_match [.cell 2 5 true] 101 = true := by decide +kernel
def fa_impl_match : FnA := ⟨ac_impl_match, [.cell 2 5 true], 101, false, true, [], .any, none⟩

/-- The checked code of impl isPending. -/
def ac_impl_isPending : AC := (.seq (.post (.reg [⟨(some 6), .op (.mv (.const (Value.bool false))), none⟩]) (.kill [6]))
  (.seq (.post (.reg [⟨(some 8), .op (.mv (.tmp 0)), none⟩,
    ⟨(some 9), .call (.func i_impl_match) [(.tmp 8)], none⟩,
    ⟨(some 7), .op (.alloc (Value.agg #[Value.slice none 0 0, Value.slice none 0 0, Value.slice none 0 0, Value.slice none 0 0, Value.slice none 0 0])), none⟩,
    ⟨none, .op (.store 5 (.tmp 7) (.tmp 9)), none⟩]) (.kill [0, 8, 9]))
  (.seq (.post (.reg [⟨(some 10), .op (.faddr (.tmp 7) 1), none⟩,
    ⟨(some 11), .op (.load 1 false (.tmp 10)), none⟩,
    ⟨(some 12), .op (.len false (.tmp 11)), none⟩,
    ⟨(some 13), .op (.mv (.tmp 1)), none⟩,
    ⟨(some 14), .op (.bin .eql (.tmp 12) (.tmp 13)), none⟩,
    ⟨(some 15), .op (.mv (.tmp 14)), none⟩,
    ⟨(some 16), .op (.faddr (.tmp 7) 2), some (15, true)⟩,
    ⟨(some 17), .op (.load 1 false (.tmp 16)), some (15, true)⟩,
    ⟨(some 18), .op (.len false (.tmp 17)), some (15, true)⟩,
    ⟨(some 19), .op (.mv (.tmp 2)), some (15, true)⟩,
    ⟨(some 20), .op (.bin .eql (.tmp 18) (.tmp 19)), some (15, true)⟩,
    ⟨(some 21), .op (.pick (.tmp 15) (.tmp 20) (.const (Value.bool false))), none⟩,
    ⟨(some 6), .op (.mv (.tmp 21)), none⟩]) (.kill [1, 2, 7, 10, 11, 12, 13, 14, 15, 16, 17, 18, 19, 20, 21]))
  .ret)))
theorem cf_impl_isPending : chkFn Try.prog i_impl_isPending ac_impl_isPending [.tmp 6] 22 = true := by decide +kernel
def fa_impl_isPending : FnA := ⟨ac_impl_isPending, [.tmp 6], 22, false, true, [], .any, none⟩

/-- The checked code of impl Rewriter  isStructural 1. -/
def ac_impl_Rewriter_isStructural_1 : AC := (.seq (.post (.reg [⟨(some 1), .op (.box true (.tmp 0)), none⟩,
    ⟨(some 2), .op (.mv (.const (Value.bool false))), none⟩]) (.kill [0, 2]))
  (.seq (.post (.reg [⟨(some 3), .op (.faddr (.tmp 1) 1), none⟩,
    ⟨(some 4), .op (.load 1 false (.tmp 3)), none⟩,
    ⟨(some 5), .call (.func i_impl_isPending) [(.tmp 4), (.const (Value.int .i64 1)), (.const (Value.int .i64 0))], none⟩,
    ⟨(some 6), .op (.un .not (.tmp 5)), none⟩,
    ⟨(some 2), .op (.mv (.tmp 6)), none⟩]) (.kill [1, 3, 4, 5, 6]))
  .ret))
theorem cf_impl_Rewriter_isStructural_1 : chkFn Try.prog i_impl_Rewriter_isStructural_1 ac_impl_Rewriter_isStructural_1 [.tmp 2] 7 = true := by decide +kernel
def fa_impl_Rewriter_isStructural_1 : FnA := ⟨ac_impl_Rewriter_isStructural_1, [.tmp 2], 7, false, true, [], .any, none⟩

end Go.Proofs.Ytjfpmpbdbpgofaa
