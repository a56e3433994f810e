/- The code of the functions, checked against the loaded program; printed by a program (gen2.py). -/
import Derived.Test.YtjfpmpbdbpgofaaProg
import Derived.Test.YtjfpmpbdbpgofaaAw25
set_option linter.unusedVariables false
set_option maxRecDepth 100000
namespace Go.Proofs.Ytjfpmpbdbpgofaa
open Aw

/-! The numbers of the functions. -/
def i_laws_FnExactRewriteOn : FuncId := 6
def i_laws_eqInt64S : FuncId := 25
def i_laws_markInt64S : FuncId := 28
def i_laws_heldInt64S : FuncId := 29
def i_laws_szRewriter : FuncId := 39
def i_spec_RewriteOn : FuncId := 40
def i_laws_toRewriter : FuncId := 41
def i_laws_toInt64S : FuncId := 42
def i_impl_RewriteOn : FuncId := 43
def i_laws_eqRewriter : FuncId := 44
def i_laws_markRewriter : FuncId := 45
def i_impl_ValidWord : FuncId := 62
def i_slices_Clone_L_int64 : FuncId := 65
def i_spec_l01Ok : FuncId := 67
def i_slices_ContainsFunc_L_int64 : FuncId := 72
def i_spec_l00In : FuncId := 80
def i_impl_within : FuncId := 87
def i_laws_szOutPushSS : FuncId := 105
def i_laws_szOutMoveSSS : FuncId := 106
def i_laws_szOutMoveSS : FuncId := 107
def i_spec_l06Ok : FuncId := 108
def i_spec_l06Reads : FuncId := 109
def i_spec_l00Own : FuncId := 110
def i_laws_toOutPushSS : FuncId := 111
def i_laws_toOutMoveSSS : FuncId := 112
def i_laws_toOutMoveSS : FuncId := 113
def i_impl_ValidRewriter : FuncId := 114
def i_impl_size_L_impl_OutPush : FuncId := 115
def i_impl_RewriteOn_1 : FuncId := 116
def i_impl_Rewriter_rewrite : FuncId := 117
def i_laws_eqOutPushSS : FuncId := 118
def i_laws_eqOutMoveSSS : FuncId := 119
def i_laws_eqOutMoveSS : FuncId := 120
def i_laws_markOutPushSS : FuncId := 121
def i_laws_markOutMoveSSS : FuncId := 122
def i_laws_markOutMoveSS : FuncId := 123
def i_spec_l01Return : FuncId := 169
def i_spec_l01Call : FuncId := 170
def i_strings_IndexByte : FuncId := 177
def i_spec_l01Symbol : FuncId := 179
def i_slices_IndexFunc_L_int64 : FuncId := 180
def i_impl_isCall : FuncId := 197
def i_laws_markText : FuncId := 204
def i_laws_szOutPushS : FuncId := 228
def i_laws_szOutMoveS : FuncId := 229
def i_spec_l06Moves : FuncId := 230
def i_spec_l06Out : FuncId := 231
def i_P_spec_l06Run_read : FuncId := 232
def i_laws_toOutPushS : FuncId := 233
def i_laws_toOutMoveS : FuncId := 234
def i_impl_ValidRewriter_1 : FuncId := 235
def i_impl_isOut : FuncId := 236
def i_impl_ValidRewriter_2 : FuncId := 237
def i_impl_size_impl_OutMove : FuncId := 238
def i_slices_ContainsFunc_L_impl_OutMove : FuncId := 239
def i_impl_ValidRewriter_2_1 : FuncId := 240
def i_impl_size_L_L_impl_OutMove : FuncId := 241
def i_impl_size_L_impl_OutMove : FuncId := 242
def i_impl_kindOf : FuncId := 243
def i_impl_isInner : FuncId := 244
def i_P_strings_Builder_WriteString : FuncId := 245
def i_P_strings_Builder_String : FuncId := 246
def i_laws_eqOutPushS : FuncId := 247
def i_laws_eqOutMoveS : FuncId := 248
def i_laws_markOutPushS : FuncId := 249
def i_laws_markOutMoveS : FuncId := 250
def i_internal_stringslite_IndexByte : FuncId := 276
def i_laws_szOutPush : FuncId := 294
def i_laws_szOutMove : FuncId := 295
def i_laws_toOutPush : FuncId := 296
def i_laws_toOutMove : FuncId := 297
def i_slices_IndexFunc_L_impl_OutMove : FuncId := 298
def i_P_strings_Builder_copyCheck : FuncId := 299
def i_laws_eqOutPush : FuncId := 300
def i_laws_eqOutMove : FuncId := 301
def i_internal_bytealg_IndexByteString : FuncId := 311
def i_internal_abi_NoEscape : FuncId := 318

/-- The checked code of laws eqInt64S. -/
def lb_laws_eqInt64S_0 : AC := (.seq (.seq (.post (.reg [⟨(some 11), .op (.mv (.tmp 5)), none⟩,
    ⟨(some 12), .op (.mv (.tmp 0)), none⟩,
    ⟨(some 13), .op (.len false (.tmp 12)), none⟩,
    ⟨(some 14), .op (.bin .lss (.tmp 11) (.tmp 13)), none⟩]) (.kill [11, 12, 13]))
  (.cond (.tmp 14) (.ghost (.kill [14]) .skip)
  (.ghost (.kill [0, 1, 5, 14]) (.exit 0))))
  (.seq (.block 1 (.seq (.post (.draw [⟨0, ⟨(some 17), .op (.mv (.tmp 0)), none⟩, []⟩,
    ⟨1, ⟨(some 18), .op (.mv (.tmp 5)), none⟩, []⟩,
    ⟨2, ⟨(some 19), .op (.iaddrS (.tmp 17) (.tmp 18) 1), none⟩, []⟩,
    ⟨3, ⟨(some 20), .op (.load 1 false (.tmp 19)), none⟩, []⟩,
    ⟨4, ⟨(some 21), .op (.mv (.tmp 1)), none⟩, []⟩,
    ⟨5, ⟨(some 22), .op (.mv (.tmp 5)), none⟩, []⟩,
    ⟨6, ⟨(some 23), .op (.iaddrS (.tmp 21) (.tmp 22) 1), none⟩, []⟩,
    ⟨7, ⟨(some 24), .op (.load 1 false (.tmp 23)), none⟩, []⟩,
    ⟨8, ⟨(some 25), .op (.bin .neq (.tmp 20) (.tmp 24)), none⟩, []⟩]
    [0, 0, 3, 7, 0, 0, 48, 112, 255]) (.kill [17, 18, 19, 20, 21, 22, 23, 24]))
  (.cond (.tmp 25) (.ghost (.kill [0, 1, 5, 25]) (.seq (.reg [⟨(some 4), .op (.mv (.const (Value.bool false))), none⟩])
  .ret))
  (.ghost (.kill [25]) .skip))))
  (.post (.reg [⟨(some 15), .op (.mv (.tmp 5)), none⟩,
    ⟨(some 16), .op (.bin .add (.tmp 15) (.const (Value.int .i64 1))), none⟩,
    ⟨(some 5), .op (.mv (.tmp 16)), none⟩]) (.kill [15, 16]))))
def lo_laws_eqInt64S_0 : AC := (.loop lb_laws_eqInt64S_0)
def ac_laws_eqInt64S : AC := (.seq (.post (.reg [⟨(some 4), .op (.mv (.const (Value.bool false))), none⟩]) (.kill [4]))
  (.seq (.seq (.post (.reg [⟨(some 6), .op (.mv (.tmp 0)), none⟩,
    ⟨(some 7), .op (.len false (.tmp 6)), none⟩,
    ⟨(some 8), .op (.mv (.tmp 1)), none⟩,
    ⟨(some 9), .op (.len false (.tmp 8)), none⟩,
    ⟨(some 10), .op (.bin .neq (.tmp 7) (.tmp 9)), none⟩]) (.kill [6, 7, 8, 9]))
  (.cond (.tmp 10) (.ghost (.kill [0, 1, 10]) (.seq (.reg [⟨(some 4), .op (.mv (.const (Value.bool false))), none⟩])
  .ret))
  (.ghost (.kill [10]) .skip)))
  (.seq (.seq (.reg [⟨(some 5), .op (.mv (.const (Value.int .i64 0))), none⟩])
  (.block 0 lo_laws_eqInt64S_0))
  (.ghost (.kill [0, 1, 5]) (.seq (.reg [⟨(some 4), .op (.mv (.const (Value.bool true))), none⟩])
  .ret)))))
theorem cf_laws_eqInt64S : chkFn Try.prog i_laws_eqInt64S ac_laws_eqInt64S [.tmp 4] 26 = true := by decide +kernel
def fa_laws_eqInt64S : FnA := ⟨ac_laws_eqInt64S, [.tmp 4], 26, false, true, [(.lst 1 .any), (.lst 1 .any)], .any, none⟩

/-- The checked code of laws markInt64S. -/
def lb_laws_markInt64S_0 : AC := (.seq (.seq (.post (.reg [⟨(some 6), .op (.mv (.tmp 5)), none⟩,
    ⟨(some 7), .op (.mv (.tmp 0)), none⟩,
    ⟨(some 8), .op (.len false (.tmp 7)), none⟩,
    ⟨(some 9), .op (.bin .lss (.tmp 6) (.tmp 8)), none⟩]) (.kill [6, 7, 8]))
  (.cond (.tmp 9) (.ghost (.kill [9]) .skip)
  (.ghost (.kill [0, 5, 9]) (.exit 0))))
  (.seq (.block 1 (.seq (.post (.reg [⟨(some 12), .op (.mv (.tmp 0)), none⟩,
    ⟨(some 13), .op (.mv (.tmp 5)), none⟩,
    ⟨(some 14), .op (.mv (.tmp 1)), none⟩,
    ⟨(some 15), .op (.iaddrS (.tmp 12) (.tmp 13) 1), none⟩,
    ⟨none, .op (.store 1 (.tmp 15) (.tmp 14)), none⟩]) (.kill [12, 13, 14, 15]))
  (.post (.reg [⟨(some 16), .op (.mv (.tmp 1)), none⟩,
    ⟨(some 17), .op (.bin .add (.tmp 16) (.const (Value.int .i64 1))), none⟩,
    ⟨(some 1), .op (.mv (.tmp 17)), none⟩]) (.kill [16, 17]))))
  (.post (.reg [⟨(some 10), .op (.mv (.tmp 5)), none⟩,
    ⟨(some 11), .op (.bin .add (.tmp 10) (.const (Value.int .i64 1))), none⟩,
    ⟨(some 5), .op (.mv (.tmp 11)), none⟩]) (.kill [10, 11]))))
def lo_laws_markInt64S_0 : AC := (.loop lb_laws_markInt64S_0)
def ac_laws_markInt64S : AC := (.seq (.post (.reg [⟨(some 4), .op (.mv (.const (Value.int .i64 0))), none⟩]) (.kill [4]))
  (.seq (.seq (.reg [⟨(some 5), .op (.mv (.const (Value.int .i64 0))), none⟩])
  (.block 0 lo_laws_markInt64S_0))
  (.ghost (.kill [0, 5]) (.seq (.post (.reg [⟨(some 18), .op (.mv (.tmp 1)), none⟩,
    ⟨(some 4), .op (.mv (.tmp 18)), none⟩]) (.kill [1, 18]))
  .ret))))
theorem cf_laws_markInt64S : chkFn Try.prog i_laws_markInt64S ac_laws_markInt64S [.tmp 4] 19 = true := by decide +kernel
def fa_laws_markInt64S : FnA := ⟨ac_laws_markInt64S, [.tmp 4], 19, true, false, [], .any, none⟩

/-- The checked code of laws heldInt64S. -/
def lb_laws_heldInt64S_0 : AC := (.seq (.seq (.post (.reg [⟨(some 6), .op (.mv (.tmp 5)), none⟩,
    ⟨(some 7), .op (.mv (.tmp 0)), none⟩,
    ⟨(some 8), .op (.len false (.tmp 7)), none⟩,
    ⟨(some 9), .op (.bin .lss (.tmp 6) (.tmp 8)), none⟩]) (.kill [6, 7, 8]))
  (.cond (.tmp 9) (.ghost (.kill [9]) .skip)
  (.ghost (.kill [0, 5, 9]) (.exit 0))))
  (.seq (.block 1 (.seq (.seq (.post (.reg [⟨(some 12), .op (.mv (.tmp 0)), none⟩,
    ⟨(some 13), .op (.mv (.tmp 5)), none⟩,
    ⟨(some 14), .op (.iaddrS (.tmp 12) (.tmp 13) 1), none⟩,
    ⟨(some 15), .op (.load 1 false (.tmp 14)), none⟩,
    ⟨(some 16), .op (.mv (.tmp 1)), none⟩,
    ⟨(some 17), .op (.bin .neq (.tmp 15) (.tmp 16)), none⟩]) (.kill [12, 13, 14, 15, 16]))
  (.cond (.tmp 17) (.ghost (.kill [0, 1, 5, 17]) (.seq (.reg [⟨(some 4), .op (.mv (.const (Value.int .i64 (-1)))), none⟩])
  .ret))
  (.ghost (.kill [17]) .skip)))
  (.post (.reg [⟨(some 18), .op (.mv (.tmp 1)), none⟩,
    ⟨(some 19), .op (.bin .add (.tmp 18) (.const (Value.int .i64 1))), none⟩,
    ⟨(some 1), .op (.mv (.tmp 19)), none⟩]) (.kill [18, 19]))))
  (.post (.reg [⟨(some 10), .op (.mv (.tmp 5)), none⟩,
    ⟨(some 11), .op (.bin .add (.tmp 10) (.const (Value.int .i64 1))), none⟩,
    ⟨(some 5), .op (.mv (.tmp 11)), none⟩]) (.kill [10, 11]))))
def lo_laws_heldInt64S_0 : AC := (.loop lb_laws_heldInt64S_0)
def ac_laws_heldInt64S : AC := (.seq (.post (.reg [⟨(some 4), .op (.mv (.const (Value.int .i64 0))), none⟩]) (.kill [4]))
  (.seq (.seq (.reg [⟨(some 5), .op (.mv (.const (Value.int .i64 0))), none⟩])
  (.block 0 lo_laws_heldInt64S_0))
  (.ghost (.kill [0, 5]) (.seq (.post (.reg [⟨(some 20), .op (.mv (.tmp 1)), none⟩,
    ⟨(some 4), .op (.mv (.tmp 20)), none⟩]) (.kill [1, 20]))
  .ret))))
theorem cf_laws_heldInt64S : chkFn Try.prog i_laws_heldInt64S ac_laws_heldInt64S [.tmp 4] 21 = true := by decide +kernel
def fa_laws_heldInt64S : FnA := ⟨ac_laws_heldInt64S, [.tmp 4], 21, false, true, [(.lst 1 .any), .any], .any, none⟩

/-- The checked code of laws szOutPush. -/
def ac_laws_szOutPush : AC := (.seq (.post (.reg [⟨(some 2), .op (.box true (.tmp 0)), none⟩,
    ⟨(some 4), .op (.mv (.const (Value.int .i64 0))), none⟩]) (.kill [0, 4]))
  (.seq (.post (.reg [⟨(some 5), .op (.mv (.tmp 1)), none⟩,
    ⟨(some 6), .op (.faddr (.tmp 2) 2), none⟩,
    ⟨(some 7), .op (.load 1 false (.tmp 6)), none⟩,
    ⟨(some 8), .op (.len true (.tmp 7)), none⟩,
    ⟨(some 9), .op (.bin .sub (.tmp 5) (.tmp 8)), none⟩,
    ⟨(some 1), .op (.mv (.tmp 9)), none⟩]) (.kill [2, 5, 6, 7, 8, 9]))
  (.seq (.seq (.post (.reg [⟨(some 10), .op (.mv (.tmp 1)), none⟩,
    ⟨(some 11), .op (.bin .lss (.tmp 10) (.const (Value.int .i64 0))), none⟩]) (.kill [10]))
  (.cond (.tmp 11) (.ghost (.kill [1, 11]) (.seq (.reg [⟨(some 4), .op (.mv (.const (Value.int .i64 (-1)))), none⟩])
  .ret))
  (.ghost (.kill [11]) .skip)))
  (.seq (.post (.reg [⟨(some 12), .op (.mv (.tmp 1)), none⟩,
    ⟨(some 4), .op (.mv (.tmp 12)), none⟩]) (.kill [1, 12]))
  .ret))))
theorem cf_laws_szOutPush : chkFn Try.prog i_laws_szOutPush ac_laws_szOutPush [.tmp 4] 13 = true := by decide +kernel
def fa_laws_szOutPush : FnA := ⟨ac_laws_szOutPush, [.tmp 4], 13, false, true, [], .any, none⟩

/-- The checked code of laws szOutPushS. -/
def lb_laws_szOutPushS_0 : AC := (.seq (.seq (.post (.reg [⟨(some 12), .op (.mv (.tmp 5)), none⟩,
    ⟨(some 13), .op (.mv (.tmp 0)), none⟩,
    ⟨(some 14), .op (.len false (.tmp 13)), none⟩,
    ⟨(some 15), .op (.bin .lss (.tmp 12) (.tmp 14)), none⟩]) (.kill [12, 13, 14]))
  (.cond (.tmp 15) (.ghost (.kill [15]) .skip)
  (.ghost (.kill [0, 5, 15]) (.exit 0))))
  (.seq (.block 1 (.seq (.post (.reg [⟨(some 18), .op (.mv (.tmp 0)), none⟩,
    ⟨(some 19), .op (.mv (.tmp 5)), none⟩,
    ⟨(some 20), .op (.iaddrS (.tmp 18) (.tmp 19) 3), none⟩,
    ⟨(some 21), .op (.load 3 true (.tmp 20)), none⟩,
    ⟨(some 22), .op (.mv (.tmp 1)), none⟩,
    ⟨(some 23), .call (.func i_laws_szOutPush) [(.tmp 21), (.tmp 22)], none⟩,
    ⟨(some 1), .op (.mv (.tmp 23)), none⟩]) (.kill [18, 19, 20, 21, 22, 23]))
  (.seq (.post (.reg [⟨(some 24), .op (.mv (.tmp 1)), none⟩,
    ⟨(some 25), .op (.bin .lss (.tmp 24) (.const (Value.int .i64 0))), none⟩]) (.kill [24]))
  (.cond (.tmp 25) (.ghost (.kill [0, 1, 5, 25]) (.seq (.reg [⟨(some 4), .op (.mv (.const (Value.int .i64 (-1)))), none⟩])
  .ret))
  (.ghost (.kill [25]) .skip)))))
  (.post (.reg [⟨(some 16), .op (.mv (.tmp 5)), none⟩,
    ⟨(some 17), .op (.bin .add (.tmp 16) (.const (Value.int .i64 1))), none⟩,
    ⟨(some 5), .op (.mv (.tmp 17)), none⟩]) (.kill [16, 17]))))
def lo_laws_szOutPushS_0 : AC := (.loop lb_laws_szOutPushS_0)
def ac_laws_szOutPushS : AC := (.seq (.post (.reg [⟨(some 4), .op (.mv (.const (Value.int .i64 0))), none⟩]) (.kill [4]))
  (.seq (.post (.reg [⟨(some 6), .op (.mv (.tmp 1)), none⟩,
    ⟨(some 7), .op (.mv (.tmp 0)), none⟩,
    ⟨(some 8), .op (.len false (.tmp 7)), none⟩,
    ⟨(some 9), .op (.bin .sub (.tmp 6) (.tmp 8)), none⟩,
    ⟨(some 1), .op (.mv (.tmp 9)), none⟩]) (.kill [6, 7, 8, 9]))
  (.seq (.seq (.post (.reg [⟨(some 10), .op (.mv (.tmp 1)), none⟩,
    ⟨(some 11), .op (.bin .lss (.tmp 10) (.const (Value.int .i64 0))), none⟩]) (.kill [10]))
  (.cond (.tmp 11) (.ghost (.kill [0, 1, 11]) (.seq (.reg [⟨(some 4), .op (.mv (.const (Value.int .i64 (-1)))), none⟩])
  .ret))
  (.ghost (.kill [11]) .skip)))
  (.seq (.seq (.reg [⟨(some 5), .op (.mv (.const (Value.int .i64 0))), none⟩])
  (.block 0 lo_laws_szOutPushS_0))
  (.ghost (.kill [0, 5]) (.seq (.post (.reg [⟨(some 26), .op (.mv (.tmp 1)), none⟩,
    ⟨(some 4), .op (.mv (.tmp 26)), none⟩]) (.kill [1, 26]))
  .ret))))))
theorem cf_laws_szOutPushS : chkFn Try.prog i_laws_szOutPushS ac_laws_szOutPushS [.tmp 4] 27 = true := by decide +kernel
def fa_laws_szOutPushS : FnA := ⟨ac_laws_szOutPushS, [.tmp 4], 27, false, true, [], .any, none⟩

/-- The checked code of laws szOutPushSS. -/
def lb_laws_szOutPushSS_0 : AC := (.seq (.seq (.post (.reg [⟨(some 12), .op (.mv (.tmp 5)), none⟩,
    ⟨(some 13), .op (.mv (.tmp 0)), none⟩,
    ⟨(some 14), .op (.len false (.tmp 13)), none⟩,
    ⟨(some 15), .op (.bin .lss (.tmp 12) (.tmp 14)), none⟩]) (.kill [12, 13, 14]))
  (.cond (.tmp 15) (.ghost (.kill [15]) .skip)
  (.ghost (.kill [0, 5, 15]) (.exit 0))))
  (.seq (.block 1 (.seq (.post (.reg [⟨(some 18), .op (.mv (.tmp 0)), none⟩,
    ⟨(some 19), .op (.mv (.tmp 5)), none⟩,
    ⟨(some 20), .op (.iaddrS (.tmp 18) (.tmp 19) 1), none⟩,
    ⟨(some 21), .op (.load 1 false (.tmp 20)), none⟩,
    ⟨(some 22), .op (.mv (.tmp 1)), none⟩,
    ⟨(some 23), .call (.func i_laws_szOutPushS) [(.tmp 21), (.tmp 22)], none⟩,
    ⟨(some 1), .op (.mv (.tmp 23)), none⟩]) (.kill [18, 19, 20, 21, 22, 23]))
  (.seq (.post (.reg [⟨(some 24), .op (.mv (.tmp 1)), none⟩,
    ⟨(some 25), .op (.bin .lss (.tmp 24) (.const (Value.int .i64 0))), none⟩]) (.kill [24]))
  (.cond (.tmp 25) (.ghost (.kill [0, 1, 5, 25]) (.seq (.reg [⟨(some 4), .op (.mv (.const (Value.int .i64 (-1)))), none⟩])
  .ret))
  (.ghost (.kill [25]) .skip)))))
  (.post (.reg [⟨(some 16), .op (.mv (.tmp 5)), none⟩,
    ⟨(some 17), .op (.bin .add (.tmp 16) (.const (Value.int .i64 1))), none⟩,
    ⟨(some 5), .op (.mv (.tmp 17)), none⟩]) (.kill [16, 17]))))
def lo_laws_szOutPushSS_0 : AC := (.loop lb_laws_szOutPushSS_0)
def ac_laws_szOutPushSS : AC := (.seq (.post (.reg [⟨(some 4), .op (.mv (.const (Value.int .i64 0))), none⟩]) (.kill [4]))
  (.seq (.post (.reg [⟨(some 6), .op (.mv (.tmp 1)), none⟩,
    ⟨(some 7), .op (.mv (.tmp 0)), none⟩,
    ⟨(some 8), .op (.len false (.tmp 7)), none⟩,
    ⟨(some 9), .op (.bin .sub (.tmp 6) (.tmp 8)), none⟩,
    ⟨(some 1), .op (.mv (.tmp 9)), none⟩]) (.kill [6, 7, 8, 9]))
  (.seq (.seq (.post (.reg [⟨(some 10), .op (.mv (.tmp 1)), none⟩,
    ⟨(some 11), .op (.bin .lss (.tmp 10) (.const (Value.int .i64 0))), none⟩]) (.kill [10]))
  (.cond (.tmp 11) (.ghost (.kill [0, 1, 11]) (.seq (.reg [⟨(some 4), .op (.mv (.const (Value.int .i64 (-1)))), none⟩])
  .ret))
  (.ghost (.kill [11]) .skip)))
  (.seq (.seq (.reg [⟨(some 5), .op (.mv (.const (Value.int .i64 0))), none⟩])
  (.block 0 lo_laws_szOutPushSS_0))
  (.ghost (.kill [0, 5]) (.seq (.post (.reg [⟨(some 26), .op (.mv (.tmp 1)), none⟩,
    ⟨(some 4), .op (.mv (.tmp 26)), none⟩]) (.kill [1, 26]))
  .ret))))))
theorem cf_laws_szOutPushSS : chkFn Try.prog i_laws_szOutPushSS ac_laws_szOutPushSS [.tmp 4] 27 = true := by decide +kernel
def fa_laws_szOutPushSS : FnA := ⟨ac_laws_szOutPushSS, [.tmp 4], 27, false, true, [], .any, none⟩

/-- The checked code of laws szOutMove. -/
def ac_laws_szOutMove : AC := (.seq (.post (.reg [⟨(some 2), .op (.box true (.tmp 0)), none⟩,
    ⟨(some 4), .op (.mv (.const (Value.int .i64 0))), none⟩]) (.kill [0, 4]))
  (.seq (.post (.reg [⟨(some 5), .op (.mv (.tmp 1)), none⟩,
    ⟨(some 6), .op (.faddr (.tmp 2) 1), none⟩,
    ⟨(some 7), .op (.load 1 false (.tmp 6)), none⟩,
    ⟨(some 8), .op (.len true (.tmp 7)), none⟩,
    ⟨(some 9), .op (.bin .sub (.tmp 5) (.tmp 8)), none⟩,
    ⟨(some 1), .op (.mv (.tmp 9)), none⟩]) (.kill [2, 5, 6, 7, 8, 9]))
  (.seq (.seq (.post (.reg [⟨(some 10), .op (.mv (.tmp 1)), none⟩,
    ⟨(some 11), .op (.bin .lss (.tmp 10) (.const (Value.int .i64 0))), none⟩]) (.kill [10]))
  (.cond (.tmp 11) (.ghost (.kill [1, 11]) (.seq (.reg [⟨(some 4), .op (.mv (.const (Value.int .i64 (-1)))), none⟩])
  .ret))
  (.ghost (.kill [11]) .skip)))
  (.seq (.post (.reg [⟨(some 12), .op (.mv (.tmp 1)), none⟩,
    ⟨(some 4), .op (.mv (.tmp 12)), none⟩]) (.kill [1, 12]))
  .ret))))
theorem cf_laws_szOutMove : chkFn Try.prog i_laws_szOutMove ac_laws_szOutMove [.tmp 4] 13 = true := by decide +kernel
def fa_laws_szOutMove : FnA := ⟨ac_laws_szOutMove, [.tmp 4], 13, false, true, [], .any, none⟩

/-- The checked code of laws szOutMoveS. -/
def lb_laws_szOutMoveS_0 : AC := (.seq (.seq (.post (.reg [⟨(some 12), .op (.mv (.tmp 5)), none⟩,
    ⟨(some 13), .op (.mv (.tmp 0)), none⟩,
    ⟨(some 14), .op (.len false (.tmp 13)), none⟩,
    ⟨(some 15), .op (.bin .lss (.tmp 12) (.tmp 14)), none⟩]) (.kill [12, 13, 14]))
  (.cond (.tmp 15) (.ghost (.kill [15]) .skip)
  (.ghost (.kill [0, 5, 15]) (.exit 0))))
  (.seq (.block 1 (.seq (.post (.reg [⟨(some 18), .op (.mv (.tmp 0)), none⟩,
    ⟨(some 19), .op (.mv (.tmp 5)), none⟩,
    ⟨(some 20), .op (.iaddrS (.tmp 18) (.tmp 19) 2), none⟩,
    ⟨(some 21), .op (.load 2 true (.tmp 20)), none⟩,
    ⟨(some 22), .op (.mv (.tmp 1)), none⟩,
    ⟨(some 23), .call (.func i_laws_szOutMove) [(.tmp 21), (.tmp 22)], none⟩,
    ⟨(some 1), .op (.mv (.tmp 23)), none⟩]) (.kill [18, 19, 20, 21, 22, 23]))
  (.seq (.post (.reg [⟨(some 24), .op (.mv (.tmp 1)), none⟩,
    ⟨(some 25), .op (.bin .lss (.tmp 24) (.const (Value.int .i64 0))), none⟩]) (.kill [24]))
  (.cond (.tmp 25) (.ghost (.kill [0, 1, 5, 25]) (.seq (.reg [⟨(some 4), .op (.mv (.const (Value.int .i64 (-1)))), none⟩])
  .ret))
  (.ghost (.kill [25]) .skip)))))
  (.post (.reg [⟨(some 16), .op (.mv (.tmp 5)), none⟩,
    ⟨(some 17), .op (.bin .add (.tmp 16) (.const (Value.int .i64 1))), none⟩,
    ⟨(some 5), .op (.mv (.tmp 17)), none⟩]) (.kill [16, 17]))))
def lo_laws_szOutMoveS_0 : AC := (.loop lb_laws_szOutMoveS_0)
def ac_laws_szOutMoveS : AC := (.seq (.post (.reg [⟨(some 4), .op (.mv (.const (Value.int .i64 0))), none⟩]) (.kill [4]))
  (.seq (.post (.reg [⟨(some 6), .op (.mv (.tmp 1)), none⟩,
    ⟨(some 7), .op (.mv (.tmp 0)), none⟩,
    ⟨(some 8), .op (.len false (.tmp 7)), none⟩,
    ⟨(some 9), .op (.bin .sub (.tmp 6) (.tmp 8)), none⟩,
    ⟨(some 1), .op (.mv (.tmp 9)), none⟩]) (.kill [6, 7, 8, 9]))
  (.seq (.seq (.post (.reg [⟨(some 10), .op (.mv (.tmp 1)), none⟩,
    ⟨(some 11), .op (.bin .lss (.tmp 10) (.const (Value.int .i64 0))), none⟩]) (.kill [10]))
  (.cond (.tmp 11) (.ghost (.kill [0, 1, 11]) (.seq (.reg [⟨(some 4), .op (.mv (.const (Value.int .i64 (-1)))), none⟩])
  .ret))
  (.ghost (.kill [11]) .skip)))
  (.seq (.seq (.reg [⟨(some 5), .op (.mv (.const (Value.int .i64 0))), none⟩])
  (.block 0 lo_laws_szOutMoveS_0))
  (.ghost (.kill [0, 5]) (.seq (.post (.reg [⟨(some 26), .op (.mv (.tmp 1)), none⟩,
    ⟨(some 4), .op (.mv (.tmp 26)), none⟩]) (.kill [1, 26]))
  .ret))))))
theorem cf_laws_szOutMoveS : chkFn Try.prog i_laws_szOutMoveS ac_laws_szOutMoveS [.tmp 4] 27 = true := by decide +kernel
def fa_laws_szOutMoveS : FnA := ⟨ac_laws_szOutMoveS, [.tmp 4], 27, false, true, [], .any, none⟩

/-- The checked code of laws szOutMoveSS. -/
def lb_laws_szOutMoveSS_0 : AC := (.seq (.seq (.post (.reg [⟨(some 12), .op (.mv (.tmp 5)), none⟩,
    ⟨(some 13), .op (.mv (.tmp 0)), none⟩,
    ⟨(some 14), .op (.len false (.tmp 13)), none⟩,
    ⟨(some 15), .op (.bin .lss (.tmp 12) (.tmp 14)), none⟩]) (.kill [12, 13, 14]))
  (.cond (.tmp 15) (.ghost (.kill [15]) .skip)
  (.ghost (.kill [0, 5, 15]) (.exit 0))))
  (.seq (.block 1 (.seq (.post (.reg [⟨(some 18), .op (.mv (.tmp 0)), none⟩,
    ⟨(some 19), .op (.mv (.tmp 5)), none⟩,
    ⟨(some 20), .op (.iaddrS (.tmp 18) (.tmp 19) 1), none⟩,
    ⟨(some 21), .op (.load 1 false (.tmp 20)), none⟩,
    ⟨(some 22), .op (.mv (.tmp 1)), none⟩,
    ⟨(some 23), .call (.func i_laws_szOutMoveS) [(.tmp 21), (.tmp 22)], none⟩,
    ⟨(some 1), .op (.mv (.tmp 23)), none⟩]) (.kill [18, 19, 20, 21, 22, 23]))
  (.seq (.post (.reg [⟨(some 24), .op (.mv (.tmp 1)), none⟩,
    ⟨(some 25), .op (.bin .lss (.tmp 24) (.const (Value.int .i64 0))), none⟩]) (.kill [24]))
  (.cond (.tmp 25) (.ghost (.kill [0, 1, 5, 25]) (.seq (.reg [⟨(some 4), .op (.mv (.const (Value.int .i64 (-1)))), none⟩])
  .ret))
  (.ghost (.kill [25]) .skip)))))
  (.post (.reg [⟨(some 16), .op (.mv (.tmp 5)), none⟩,
    ⟨(some 17), .op (.bin .add (.tmp 16) (.const (Value.int .i64 1))), none⟩,
    ⟨(some 5), .op (.mv (.tmp 17)), none⟩]) (.kill [16, 17]))))
def lo_laws_szOutMoveSS_0 : AC := (.loop lb_laws_szOutMoveSS_0)
def ac_laws_szOutMoveSS : AC := (.seq (.post (.reg [⟨(some 4), .op (.mv (.const (Value.int .i64 0))), none⟩]) (.kill [4]))
  (.seq (.post (.reg [⟨(some 6), .op (.mv (.tmp 1)), none⟩,
    ⟨(some 7), .op (.mv (.tmp 0)), none⟩,
    ⟨(some 8), .op (.len false (.tmp 7)), none⟩,
    ⟨(some 9), .op (.bin .sub (.tmp 6) (.tmp 8)), none⟩,
    ⟨(some 1), .op (.mv (.tmp 9)), none⟩]) (.kill [6, 7, 8, 9]))
  (.seq (.seq (.post (.reg [⟨(some 10), .op (.mv (.tmp 1)), none⟩,
    ⟨(some 11), .op (.bin .lss (.tmp 10) (.const (Value.int .i64 0))), none⟩]) (.kill [10]))
  (.cond (.tmp 11) (.ghost (.kill [0, 1, 11]) (.seq (.reg [⟨(some 4), .op (.mv (.const (Value.int .i64 (-1)))), none⟩])
  .ret))
  (.ghost (.kill [11]) .skip)))
  (.seq (.seq (.reg [⟨(some 5), .op (.mv (.const (Value.int .i64 0))), none⟩])
  (.block 0 lo_laws_szOutMoveSS_0))
  (.ghost (.kill [0, 5]) (.seq (.post (.reg [⟨(some 26), .op (.mv (.tmp 1)), none⟩,
    ⟨(some 4), .op (.mv (.tmp 26)), none⟩]) (.kill [1, 26]))
  .ret))))))
theorem cf_laws_szOutMoveSS : chkFn Try.prog i_laws_szOutMoveSS ac_laws_szOutMoveSS [.tmp 4] 27 = true := by decide +kernel
def fa_laws_szOutMoveSS : FnA := ⟨ac_laws_szOutMoveSS, [.tmp 4], 27, false, true, [], .any, none⟩

/-- The checked code of laws szOutMoveSSS. -/
def lb_laws_szOutMoveSSS_0 : AC := (.seq (.seq (.post (.reg [⟨(some 12), .op (.mv (.tmp 5)), none⟩,
    ⟨(some 13), .op (.mv (.tmp 0)), none⟩,
    ⟨(some 14), .op (.len false (.tmp 13)), none⟩,
    ⟨(some 15), .op (.bin .lss (.tmp 12) (.tmp 14)), none⟩]) (.kill [12, 13, 14]))
  (.cond (.tmp 15) (.ghost (.kill [15]) .skip)
  (.ghost (.kill [0, 5, 15]) (.exit 0))))
  (.seq (.block 1 (.seq (.post (.reg [⟨(some 18), .op (.mv (.tmp 0)), none⟩,
    ⟨(some 19), .op (.mv (.tmp 5)), none⟩,
    ⟨(some 20), .op (.iaddrS (.tmp 18) (.tmp 19) 1), none⟩,
    ⟨(some 21), .op (.load 1 false (.tmp 20)), none⟩,
    ⟨(some 22), .op (.mv (.tmp 1)), none⟩,
    ⟨(some 23), .call (.func i_laws_szOutMoveSS) [(.tmp 21), (.tmp 22)], none⟩,
    ⟨(some 1), .op (.mv (.tmp 23)), none⟩]) (.kill [18, 19, 20, 21, 22, 23]))
  (.seq (.post (.reg [⟨(some 24), .op (.mv (.tmp 1)), none⟩,
    ⟨(some 25), .op (.bin .lss (.tmp 24) (.const (Value.int .i64 0))), none⟩]) (.kill [24]))
  (.cond (.tmp 25) (.ghost (.kill [0, 1, 5, 25]) (.seq (.reg [⟨(some 4), .op (.mv (.const (Value.int .i64 (-1)))), none⟩])
  .ret))
  (.ghost (.kill [25]) .skip)))))
  (.post (.reg [⟨(some 16), .op (.mv (.tmp 5)), none⟩,
    ⟨(some 17), .op (.bin .add (.tmp 16) (.const (Value.int .i64 1))), none⟩,
    ⟨(some 5), .op (.mv (.tmp 17)), none⟩]) (.kill [16, 17]))))
def lo_laws_szOutMoveSSS_0 : AC := (.loop lb_laws_szOutMoveSSS_0)
def ac_laws_szOutMoveSSS : AC := (.seq (.post (.reg [⟨(some 4), .op (.mv (.const (Value.int .i64 0))), none⟩]) (.kill [4]))
  (.seq (.post (.reg [⟨(some 6), .op (.mv (.tmp 1)), none⟩,
    ⟨(some 7), .op (.mv (.tmp 0)), none⟩,
    ⟨(some 8), .op (.len false (.tmp 7)), none⟩,
    ⟨(some 9), .op (.bin .sub (.tmp 6) (.tmp 8)), none⟩,
    ⟨(some 1), .op (.mv (.tmp 9)), none⟩]) (.kill [6, 7, 8, 9]))
  (.seq (.seq (.post (.reg [⟨(some 10), .op (.mv (.tmp 1)), none⟩,
    ⟨(some 11), .op (.bin .lss (.tmp 10) (.const (Value.int .i64 0))), none⟩]) (.kill [10]))
  (.cond (.tmp 11) (.ghost (.kill [0, 1, 11]) (.seq (.reg [⟨(some 4), .op (.mv (.const (Value.int .i64 (-1)))), none⟩])
  .ret))
  (.ghost (.kill [11]) .skip)))
  (.seq (.seq (.reg [⟨(some 5), .op (.mv (.const (Value.int .i64 0))), none⟩])
  (.block 0 lo_laws_szOutMoveSSS_0))
  (.ghost (.kill [0, 5]) (.seq (.post (.reg [⟨(some 26), .op (.mv (.tmp 1)), none⟩,
    ⟨(some 4), .op (.mv (.tmp 26)), none⟩]) (.kill [1, 26]))
  .ret))))))
theorem cf_laws_szOutMoveSSS : chkFn Try.prog i_laws_szOutMoveSSS ac_laws_szOutMoveSSS [.tmp 4] 27 = true := by decide +kernel
def fa_laws_szOutMoveSSS : FnA := ⟨ac_laws_szOutMoveSSS, [.tmp 4], 27, false, true, [], .any, none⟩

/-- The checked code of laws szRewriter. -/
def ac_laws_szRewriter : AC := (.seq (.post (.reg [⟨(some 2), .op (.box true (.tmp 0)), none⟩,
    ⟨(some 4), .op (.mv (.const (Value.int .i64 0))), none⟩]) (.kill [0, 4]))
  (.seq (.post (.reg [⟨(some 5), .op (.faddr (.tmp 2) 2), none⟩,
    ⟨(some 6), .op (.load 1 false (.tmp 5)), none⟩,
    ⟨(some 7), .op (.mv (.tmp 1)), none⟩,
    ⟨(some 8), .call (.func i_laws_szOutPushSS) [(.tmp 6), (.tmp 7)], none⟩,
    ⟨(some 1), .op (.mv (.tmp 8)), none⟩]) (.kill [5, 6, 7, 8]))
  (.seq (.seq (.post (.reg [⟨(some 9), .op (.mv (.tmp 1)), none⟩,
    ⟨(some 10), .op (.bin .lss (.tmp 9) (.const (Value.int .i64 0))), none⟩]) (.kill [9]))
  (.cond (.tmp 10) (.ghost (.kill [1, 2, 10]) (.seq (.reg [⟨(some 4), .op (.mv (.const (Value.int .i64 (-1)))), none⟩])
  .ret))
  (.ghost (.kill [10]) .skip)))
  (.seq (.post (.reg [⟨(some 11), .op (.faddr (.tmp 2) 3), none⟩,
    ⟨(some 12), .op (.load 1 false (.tmp 11)), none⟩,
    ⟨(some 13), .op (.mv (.tmp 1)), none⟩,
    ⟨(some 14), .call (.func i_laws_szOutMoveSSS) [(.tmp 12), (.tmp 13)], none⟩,
    ⟨(some 1), .op (.mv (.tmp 14)), none⟩]) (.kill [11, 12, 13, 14]))
  (.seq (.seq (.post (.reg [⟨(some 15), .op (.mv (.tmp 1)), none⟩,
    ⟨(some 16), .op (.bin .lss (.tmp 15) (.const (Value.int .i64 0))), none⟩]) (.kill [15]))
  (.cond (.tmp 16) (.ghost (.kill [1, 2, 16]) (.seq (.reg [⟨(some 4), .op (.mv (.const (Value.int .i64 (-1)))), none⟩])
  .ret))
  (.ghost (.kill [16]) .skip)))
  (.seq (.post (.reg [⟨(some 17), .op (.faddr (.tmp 2) 4), none⟩,
    ⟨(some 18), .op (.load 1 false (.tmp 17)), none⟩,
    ⟨(some 19), .op (.mv (.tmp 1)), none⟩,
    ⟨(some 20), .call (.func i_laws_szOutMoveSS) [(.tmp 18), (.tmp 19)], none⟩,
    ⟨(some 1), .op (.mv (.tmp 20)), none⟩]) (.kill [2, 17, 18, 19, 20]))
  (.seq (.seq (.post (.reg [⟨(some 21), .op (.mv (.tmp 1)), none⟩,
    ⟨(some 22), .op (.bin .lss (.tmp 21) (.const (Value.int .i64 0))), none⟩]) (.kill [21]))
  (.cond (.tmp 22) (.ghost (.kill [1, 22]) (.seq (.reg [⟨(some 4), .op (.mv (.const (Value.int .i64 (-1)))), none⟩])
  .ret))
  (.ghost (.kill [22]) .skip)))
  (.seq (.post (.reg [⟨(some 23), .op (.mv (.tmp 1)), none⟩,
    ⟨(some 4), .op (.mv (.tmp 23)), none⟩]) (.kill [1, 23]))
  .ret))))))))
theorem cf_laws_szRewriter : chkFn Try.prog i_laws_szRewriter ac_laws_szRewriter [.tmp 4] 24 = true := by decide +kernel
def fa_laws_szRewriter : FnA := ⟨ac_laws_szRewriter, [.tmp 4], 24, false, true, [], .any, none⟩

/-- The checked code of spec l01Symbol. -/
def lb_spec_l01Symbol_0 : AC := (.seq (.seq (.post (.reg [⟨(some 4), .op (.mv (.tmp 3)), none⟩,
    ⟨(some 5), .op (.bin .lss (.tmp 4) (.const (Value.int .i64 6))), none⟩]) (.kill [4]))
  (.cond (.tmp 5) (.ghost (.kill [5]) .skip)
  (.ghost (.kill [0, 3, 5]) (.exit 0))))
  (.seq (.block 1 (.seq (.post (.reg [⟨(some 8), .op (.mv (.tmp 3)), none⟩,
    ⟨(some 9), .op (.idxStr (.const (Value.string ⟨#[40, 91, 41, 93, 97, 98]⟩)) (.tmp 8)), none⟩,
    ⟨(some 10), .op (.mv (.tmp 0)), none⟩,
    ⟨(some 11), .op (.bin .eql (.tmp 9) (.tmp 10)), none⟩]) (.kill [8, 9, 10]))
  (.cond (.tmp 11) (.ghost (.kill [0, 11]) (.seq (.post (.reg [⟨(some 12), .op (.mv (.tmp 3)), none⟩,
    ⟨(some 2), .op (.mv (.tmp 12)), none⟩]) (.kill [3, 12]))
  .ret))
  (.ghost (.kill [11]) .skip))))
  (.post (.reg [⟨(some 6), .op (.mv (.tmp 3)), none⟩,
    ⟨(some 7), .op (.bin .add (.tmp 6) (.const (Value.int .i64 1))), none⟩,
    ⟨(some 3), .op (.mv (.tmp 7)), none⟩]) (.kill [6, 7]))))
def lo_spec_l01Symbol_0 : AC := (.loop lb_spec_l01Symbol_0)
def ac_spec_l01Symbol : AC := (.seq (.post (.reg [⟨(some 2), .op (.mv (.const (Value.int .i64 0))), none⟩]) (.kill [2]))
  (.seq (.seq (.reg [⟨(some 3), .op (.mv (.const (Value.int .i64 0))), none⟩])
  (.block 0 lo_spec_l01Symbol_0))
  (.ghost (.kill [0, 3]) (.seq (.reg [⟨(some 2), .op (.mv (.const (Value.int .i64 (-1)))), none⟩])
  .ret))))
theorem cf_spec_l01Symbol : chkFn Try.prog i_spec_l01Symbol ac_spec_l01Symbol [.tmp 2] 13 = true := by decide +kernel
def fa_spec_l01Symbol : FnA := ⟨ac_spec_l01Symbol, [.tmp 2], 13, false, true, [], .any, none⟩

/-- The checked code of spec l01Ok. -/
def lb_spec_l01Ok_0 : AC := (.seq (.seq (.post (.reg [⟨(some 4), .op (.mv (.tmp 3)), none⟩,
    ⟨(some 5), .op (.mv (.tmp 0)), none⟩,
    ⟨(some 6), .op (.len true (.tmp 5)), none⟩,
    ⟨(some 7), .op (.bin .lss (.tmp 4) (.tmp 6)), none⟩]) (.kill [4, 5, 6]))
  (.cond (.tmp 7) (.ghost (.kill [7]) .skip)
  (.ghost (.kill [3, 7]) (.exit 0))))
  (.seq (.block 1 (.seq (.post (.reg [⟨(some 10), .op (.mv (.tmp 0)), none⟩,
    ⟨(some 11), .op (.mv (.tmp 3)), none⟩,
    ⟨(some 12), .op (.idxStr (.tmp 10) (.tmp 11)), none⟩,
    ⟨(some 13), .call (.func i_spec_l01Symbol) [(.tmp 12)], none⟩,
    ⟨(some 14), .op (.bin .lss (.tmp 13) (.const (Value.int .i64 0))), none⟩]) (.kill [10, 11, 12, 13]))
  (.cond (.tmp 14) (.ghost (.kill [0, 3, 14]) (.seq (.reg [⟨(some 2), .op (.mv (.const (Value.bool false))), none⟩])
  .ret))
  (.ghost (.kill [14]) .skip))))
  (.post (.reg [⟨(some 8), .op (.mv (.tmp 3)), none⟩,
    ⟨(some 9), .op (.bin .add (.tmp 8) (.const (Value.int .i64 1))), none⟩,
    ⟨(some 3), .op (.mv (.tmp 9)), none⟩]) (.kill [8, 9]))))
def lo_spec_l01Ok_0 : AC := (.loop lb_spec_l01Ok_0)
def ac_spec_l01Ok : AC := (.seq (.post (.reg [⟨(some 2), .op (.mv (.const (Value.bool false))), none⟩]) (.kill [2]))
  (.seq (.seq (.reg [⟨(some 3), .op (.mv (.const (Value.int .i64 0))), none⟩])
  (.block 0 lo_spec_l01Ok_0))
  (.ghost (.kill [3]) (.seq (.post (.reg [⟨(some 15), .op (.mv (.tmp 0)), none⟩,
    ⟨(some 16), .op (.len true (.tmp 15)), none⟩,
    ⟨(some 17), .op (.bin .leq (.tmp 16) (.const (Value.int .i64 60))), none⟩,
    ⟨(some 2), .op (.mv (.tmp 17)), none⟩]) (.kill [0, 15, 16, 17]))
  .ret))))
theorem cf_spec_l01Ok : chkFn Try.prog i_spec_l01Ok ac_spec_l01Ok [.tmp 2] 18 = true := by decide +kernel
def fa_spec_l01Ok : FnA := ⟨ac_spec_l01Ok, [.tmp 2], 18, false, true, [], .any, none⟩

/-- The checked code of spec l00In. -/
def ac_spec_l00In : AC := (.seq (.post (.reg [⟨(some 6), .op (.mv (.const (Value.bool false))), none⟩]) (.kill [6]))
  (.seq (.post (.reg [⟨(some 7), .op (.mv (.tmp 0)), none⟩,
    ⟨(some 8), .op (.mv (.tmp 1)), none⟩,
    ⟨(some 9), .op (.bin .geq (.tmp 7) (.tmp 8)), none⟩,
    ⟨(some 10), .op (.mv (.tmp 9)), none⟩,
    ⟨(some 11), .op (.mv (.tmp 0)), some (10, true)⟩,
    ⟨(some 12), .op (.mv (.tmp 2)), some (10, true)⟩,
    ⟨(some 13), .op (.bin .leq (.tmp 11) (.tmp 12)), some (10, true)⟩,
    ⟨(some 14), .op (.pick (.tmp 10) (.tmp 13) (.const (Value.bool false))), none⟩,
    ⟨(some 6), .op (.mv (.tmp 14)), none⟩]) (.kill [0, 1, 2, 7, 8, 9, 10, 11, 12, 13, 14]))
  .ret))
theorem cf_spec_l00In : chkFn Try.prog i_spec_l00In ac_spec_l00In [.tmp 6] 15 = true := by decide +kernel
def fa_spec_l00In : FnA := ⟨ac_spec_l00In, [.tmp 6], 15, false, true, [], .any, none⟩

/-- The checked code of spec l06Out. -/
def ac_spec_l06Out : AC := (.seq (.post (.reg [⟨(some 2), .op (.mv (.const (Value.bool false))), none⟩]) (.kill [2]))
  (.seq (.post (.reg [⟨(some 3), .op (.mv (.tmp 0)), none⟩,
    ⟨(some 4), .op (.len true (.tmp 3)), none⟩,
    ⟨(some 5), .op (.bin .leq (.tmp 4) (.const (Value.int .i64 4))), none⟩,
    ⟨(some 6), .op (.mv (.tmp 5)), none⟩,
    ⟨(some 7), .op (.mv (.tmp 0)), some (6, true)⟩,
    ⟨(some 8), .call (.func i_spec_l01Ok) [(.tmp 7)], some (6, true)⟩,
    ⟨(some 9), .op (.pick (.tmp 6) (.tmp 8) (.const (Value.bool false))), none⟩,
    ⟨(some 2), .op (.mv (.tmp 9)), none⟩]) (.kill [0, 3, 4, 5, 6, 7, 8, 9]))
  .ret))
theorem cf_spec_l06Out : chkFn Try.prog i_spec_l06Out ac_spec_l06Out [.tmp 2] 10 = true := by decide +kernel
def fa_spec_l06Out : FnA := ⟨ac_spec_l06Out, [.tmp 2], 10, false, true, [], .any, none⟩

/-- The checked code of spec l06Moves. -/
def lb_spec_l06Moves_0 : AC := (.seq (.seq (.post (.reg [⟨(some 8), .op (.mv (.tmp 7)), none⟩,
    ⟨(some 9), .op (.mv (.tmp 0)), none⟩,
    ⟨(some 10), .op (.len false (.tmp 9)), none⟩,
    ⟨(some 11), .op (.bin .lss (.tmp 8) (.tmp 10)), none⟩]) (.kill [8, 9, 10]))
  (.cond (.tmp 11) (.ghost (.kill [11]) .skip)
  (.ghost (.kill [2, 7, 11]) (.exit 0))))
  (.seq (.block 1 (.seq (.post (.reg [⟨(some 14), .op (.mv (.tmp 0)), none⟩,
    ⟨(some 15), .op (.mv (.tmp 7)), none⟩,
    ⟨(some 16), .op (.iaddrS (.tmp 14) (.tmp 15) 2), none⟩,
    ⟨(some 17), .op (.faddr (.tmp 16) 0), none⟩,
    ⟨(some 18), .op (.load 1 false (.tmp 17)), none⟩,
    ⟨(some 19), .op (.mv (.tmp 2)), none⟩,
    ⟨(some 20), .op (.bin .sub (.tmp 19) (.const (Value.int .i64 1))), none⟩,
    ⟨(some 21), .call (.func i_spec_l00In) [(.tmp 18), (.const (Value.int .i64 0)), (.tmp 20)], none⟩,
    ⟨(some 22), .op (.un .not (.tmp 21)), none⟩,
    ⟨(some 23), .op (.mv (.tmp 22)), none⟩,
    ⟨(some 24), .op (.mv (.tmp 0)), some (23, false)⟩,
    ⟨(some 25), .op (.mv (.tmp 7)), some (23, false)⟩,
    ⟨(some 26), .op (.iaddrS (.tmp 24) (.tmp 25) 2), some (23, false)⟩,
    ⟨(some 27), .op (.faddr (.tmp 26) 1), some (23, false)⟩,
    ⟨(some 28), .op (.load 1 false (.tmp 27)), some (23, false)⟩,
    ⟨(some 29), .call (.func i_spec_l06Out) [(.tmp 28)], some (23, false)⟩,
    ⟨(some 30), .op (.un .not (.tmp 29)), some (23, false)⟩,
    ⟨(some 31), .op (.pick (.tmp 23) (.const (Value.bool true)) (.tmp 30)), none⟩]) (.kill [14, 15, 16, 17, 18, 19, 20, 21, 22, 23, 24, 25, 26, 27, 28, 29, 30]))
  (.cond (.tmp 31) (.ghost (.kill [0, 1, 2, 7, 31]) (.seq (.reg [⟨(some 6), .op (.mv (.const (Value.bool false))), none⟩])
  .ret))
  (.ghost (.kill [31]) .skip))))
  (.post (.reg [⟨(some 12), .op (.mv (.tmp 7)), none⟩,
    ⟨(some 13), .op (.bin .add (.tmp 12) (.const (Value.int .i64 1))), none⟩,
    ⟨(some 7), .op (.mv (.tmp 13)), none⟩]) (.kill [12, 13]))))
def lo_spec_l06Moves_0 : AC := (.loop lb_spec_l06Moves_0)
def ac_spec_l06Moves : AC := (.seq (.post (.reg [⟨(some 6), .op (.mv (.const (Value.bool false))), none⟩]) (.kill [6]))
  (.seq (.seq (.reg [⟨(some 7), .op (.mv (.const (Value.int .i64 0))), none⟩])
  (.block 0 lo_spec_l06Moves_0))
  (.ghost (.kill [2, 7]) (.seq (.post (.reg [⟨(some 32), .op (.mv (.tmp 0)), none⟩,
    ⟨(some 33), .op (.len false (.tmp 32)), none⟩,
    ⟨(some 34), .op (.mv (.tmp 1)), none⟩,
    ⟨(some 35), .op (.bin .eql (.tmp 33) (.tmp 34)), none⟩,
    ⟨(some 6), .op (.mv (.tmp 35)), none⟩]) (.kill [0, 1, 32, 33, 34, 35]))
  .ret))))
theorem cf_spec_l06Moves : chkFn Try.prog i_spec_l06Moves ac_spec_l06Moves [.tmp 6] 36 = true := by decide +kernel
def fa_spec_l06Moves : FnA := ⟨ac_spec_l06Moves, [.tmp 6], 36, false, true, [], .any, none⟩

/-- The checked code of spec l06Ok. -/
def lb_spec_l06Ok_0 : AC := (.post (.seq (.seq (.post (.reg [⟨(some 88), .op (.mv (.tmp 5)), none⟩,
    ⟨(some 89), .op (.bin .lss (.tmp 88) (.const (Value.int .i64 2))), none⟩]) (.kill [88]))
  (.cond (.tmp 89) (.ghost (.kill [89]) .skip)
  (.ghost (.kill [5, 89]) (.exit 2))))
  (.seq (.block 3 (.seq (.post (.reg [⟨(some 92), .op (.mv (.tmp 0)), none⟩,
    ⟨(some 93), .op (.nilc (.tmp 92)), none⟩,
    ⟨(some 94), .op (.faddr (.tmp 93) 2), none⟩,
    ⟨(some 95), .op (.load 1 false (.tmp 94)), none⟩,
    ⟨(some 96), .op (.mv (.tmp 4)), none⟩,
    ⟨(some 97), .op (.iaddrS (.tmp 95) (.tmp 96) 1), none⟩,
    ⟨(some 98), .op (.load 1 false (.tmp 97)), none⟩,
    ⟨(some 99), .op (.mv (.tmp 5)), none⟩,
    ⟨(some 100), .op (.iaddrS (.tmp 98) (.tmp 99) 3), none⟩,
    ⟨(some 101), .op (.load 3 true (.tmp 100)), none⟩,
    ⟨(some 6), .op (.alloc (Value.agg #[Value.int .i64 0, Value.int .i64 0, Value.string ⟨#[]⟩])), none⟩,
    ⟨none, .op (.store 3 (.tmp 6) (.tmp 101)), none⟩]) (.kill [92, 93, 94, 95, 96, 97, 98, 99, 100, 101]))
  (.seq (.post (.draw [⟨0, ⟨(some 102), .op (.faddr (.tmp 6) 0), none⟩, []⟩,
    ⟨1, ⟨(some 103), .op (.load 1 false (.tmp 102)), none⟩, []⟩,
    ⟨2, ⟨(some 104), .op (.mv (.tmp 3)), none⟩, []⟩,
    ⟨3, ⟨(some 105), .op (.bin .sub (.tmp 104) (.const (Value.int .i64 1))), none⟩, []⟩,
    ⟨4, ⟨(some 106), .call (.func i_spec_l00In) [(.tmp 103), (.const (Value.int .i64 0)), (.tmp 105)], none⟩, []⟩,
    ⟨5, ⟨(some 107), .op (.un .not (.tmp 106)), none⟩, []⟩,
    ⟨6, ⟨(some 108), .op (.mv (.tmp 107)), none⟩, []⟩,
    ⟨7, ⟨(some 109), .op (.faddr (.tmp 6) 1), some (108, false)⟩, []⟩,
    ⟨8, ⟨(some 110), .op (.load 1 false (.tmp 109)), some (108, false)⟩, []⟩,
    ⟨9, ⟨(some 111), .op (.mv (.tmp 0)), some (108, false)⟩, []⟩,
    ⟨10, ⟨(some 112), .op (.nilc (.tmp 111)), some (108, false)⟩, []⟩,
    ⟨11, ⟨(some 113), .op (.faddr (.tmp 112) 0), some (108, false)⟩, []⟩,
    ⟨12, ⟨(some 114), .op (.load 1 false (.tmp 113)), some (108, false)⟩, []⟩,
    ⟨13, ⟨(some 115), .op (.bin .sub (.tmp 114) (.const (Value.int .i64 1))), some (108, false)⟩, []⟩,
    ⟨14, ⟨(some 116), .call (.func i_spec_l00In) [(.tmp 110), (.const (Value.int .i64 0)), (.tmp 115)], some (108, false)⟩, []⟩,
    ⟨15, ⟨(some 117), .op (.un .not (.tmp 116)), some (108, false)⟩, []⟩,
    ⟨16, ⟨(some 118), .op (.pick (.tmp 108) (.const (Value.bool true)) (.tmp 117)), none⟩, []⟩,
    ⟨17, ⟨(some 119), .op (.mv (.tmp 118)), none⟩, []⟩,
    ⟨18, ⟨(some 120), .op (.faddr (.tmp 6) 2), some (119, false)⟩, []⟩,
    ⟨19, ⟨(some 121), .op (.load 1 false (.tmp 120)), some (119, false)⟩, []⟩,
    ⟨20, ⟨(some 122), .call (.func i_spec_l06Out) [(.tmp 121)], some (119, false)⟩, []⟩,
    ⟨21, ⟨(some 123), .op (.un .not (.tmp 122)), some (119, false)⟩, []⟩,
    ⟨22, ⟨(some 124), .op (.pick (.tmp 119) (.const (Value.bool true)) (.tmp 123)), none⟩, []⟩,
    ⟨23, ⟨(some 125), .op (.mv (.tmp 124)), none⟩, []⟩,
    ⟨24, ⟨(some 126), .op (.mv (.tmp 0)), some (125, false)⟩, []⟩,
    ⟨25, ⟨(some 127), .op (.nilc (.tmp 126)), some (125, false)⟩, []⟩,
    ⟨26, ⟨(some 128), .op (.faddr (.tmp 127) 3), some (125, false)⟩, []⟩,
    ⟨27, ⟨(some 129), .op (.load 1 false (.tmp 128)), some (125, false)⟩, []⟩,
    ⟨28, ⟨(some 130), .op (.mv (.tmp 4)), some (125, false)⟩, []⟩,
    ⟨29, ⟨(some 131), .op (.iaddrS (.tmp 129) (.tmp 130) 1), some (125, false)⟩, []⟩,
    ⟨30, ⟨(some 132), .op (.load 1 false (.tmp 131)), some (125, false)⟩, []⟩,
    ⟨31, ⟨(some 133), .op (.mv (.tmp 5)), some (125, false)⟩, []⟩,
    ⟨32, ⟨(some 134), .op (.iaddrS (.tmp 132) (.tmp 133) 1), some (125, false)⟩, []⟩,
    ⟨33, ⟨(some 135), .op (.load 1 false (.tmp 134)), some (125, false)⟩, []⟩,
    ⟨34, ⟨(some 136), .op (.mv (.tmp 0)), some (125, false)⟩, []⟩,
    ⟨35, ⟨(some 137), .op (.nilc (.tmp 136)), some (125, false)⟩, []⟩,
    ⟨36, ⟨(some 138), .op (.faddr (.tmp 137) 0), some (125, false)⟩, []⟩,
    ⟨37, ⟨(some 139), .op (.load 1 false (.tmp 138)), some (125, false)⟩, []⟩,
    ⟨38, ⟨(some 140), .op (.bin .add (.tmp 139) (.const (Value.int .i64 1))), some (125, false)⟩, []⟩,
    ⟨39, ⟨(some 141), .op (.mv (.tmp 3)), some (125, false)⟩, []⟩,
    ⟨40, ⟨(some 142), .call (.func i_spec_l06Moves) [(.tmp 135), (.tmp 140), (.tmp 141)], some (125, false)⟩, []⟩,
    ⟨41, ⟨(some 143), .op (.un .not (.tmp 142)), some (125, false)⟩, []⟩,
    ⟨42, ⟨(some 144), .op (.pick (.tmp 125) (.const (Value.bool true)) (.tmp 143)), none⟩, []⟩]
    [0, 1, 0, 4, 15, 31, 63, 127, 255, 127, 639, 1663, 3711, 7807, 16383, 32767, 65535, 131071, 262143, 524287, 1048575, 2097151, 4194303, 8388607, 16777215, 33554431, 67108863, 134217727, 16777215, 536870911, 1073741823, 16777215, 4294967295, 8589934591, 16777215, 17196646399, 51556384767, 120275861503, 257714814975, 16777215, 1099511627775, 2199023255551, 4398046511103]) (.kill [6, 102, 103, 104, 105, 106, 107, 108, 109, 110, 111, 112, 113, 114, 115, 116, 117, 118, 119, 120, 121, 122, 123, 124, 125, 126, 127, 128, 129, 130, 131, 132, 133, 134, 135, 136, 137, 138, 139, 140, 141, 142, 143]))
  (.cond (.tmp 144) (.ghost (.kill [0, 3, 4, 5, 144]) (.seq (.reg [⟨(some 2), .op (.mv (.const (Value.bool false))), none⟩])
  .ret))
  (.ghost (.kill [144]) .skip)))))
  (.post (.reg [⟨(some 90), .op (.mv (.tmp 5)), none⟩,
    ⟨(some 91), .op (.bin .add (.tmp 90) (.const (Value.int .i64 1))), none⟩,
    ⟨(some 5), .op (.mv (.tmp 91)), none⟩]) (.kill [90, 91])))) .nv)
def lo_spec_l06Ok_0 : AC := (.loop lb_spec_l06Ok_0)
def lb_spec_l06Ok_1 : AC := (.post (.seq (.seq (.post (.reg [⟨(some 51), .op (.mv (.tmp 4)), none⟩,
    ⟨(some 52), .op (.mv (.tmp 3)), none⟩,
    ⟨(some 53), .op (.bin .lss (.tmp 51) (.tmp 52)), none⟩]) (.kill [51, 52]))
  (.cond (.tmp 53) (.ghost (.kill [53]) .skip)
  (.ghost (.kill [0, 3, 4, 53]) (.exit 0))))
  (.seq (.block 1 (.seq (.seq (.post (.reg [⟨(some 56), .op (.mv (.tmp 0)), none⟩,
    ⟨(some 57), .op (.nilc (.tmp 56)), none⟩,
    ⟨(some 58), .op (.faddr (.tmp 57) 2), none⟩,
    ⟨(some 59), .op (.load 1 false (.tmp 58)), none⟩,
    ⟨(some 60), .op (.mv (.tmp 4)), none⟩,
    ⟨(some 61), .op (.iaddrS (.tmp 59) (.tmp 60) 1), none⟩,
    ⟨(some 62), .op (.load 1 false (.tmp 61)), none⟩,
    ⟨(some 63), .op (.len false (.tmp 62)), none⟩,
    ⟨(some 64), .op (.bin .neq (.tmp 63) (.const (Value.int .i64 2))), none⟩,
    ⟨(some 65), .op (.mv (.tmp 64)), none⟩,
    ⟨(some 66), .op (.mv (.tmp 0)), some (65, false)⟩,
    ⟨(some 67), .op (.nilc (.tmp 66)), some (65, false)⟩,
    ⟨(some 68), .op (.faddr (.tmp 67) 3), some (65, false)⟩,
    ⟨(some 69), .op (.load 1 false (.tmp 68)), some (65, false)⟩,
    ⟨(some 70), .op (.mv (.tmp 4)), some (65, false)⟩,
    ⟨(some 71), .op (.iaddrS (.tmp 69) (.tmp 70) 1), some (65, false)⟩,
    ⟨(some 72), .op (.load 1 false (.tmp 71)), some (65, false)⟩,
    ⟨(some 73), .op (.len false (.tmp 72)), some (65, false)⟩,
    ⟨(some 74), .op (.bin .neq (.tmp 73) (.const (Value.int .i64 2))), some (65, false)⟩,
    ⟨(some 75), .op (.pick (.tmp 65) (.const (Value.bool true)) (.tmp 74)), none⟩,
    ⟨(some 76), .op (.mv (.tmp 75)), none⟩,
    ⟨(some 77), .op (.mv (.tmp 0)), some (76, false)⟩,
    ⟨(some 78), .op (.nilc (.tmp 77)), some (76, false)⟩,
    ⟨(some 79), .op (.faddr (.tmp 78) 4), some (76, false)⟩,
    ⟨(some 80), .op (.load 1 false (.tmp 79)), some (76, false)⟩,
    ⟨(some 81), .op (.mv (.tmp 4)), some (76, false)⟩,
    ⟨(some 82), .op (.iaddrS (.tmp 80) (.tmp 81) 1), some (76, false)⟩,
    ⟨(some 83), .op (.load 1 false (.tmp 82)), some (76, false)⟩,
    ⟨(some 84), .op (.mv (.tmp 3)), some (76, false)⟩,
    ⟨(some 85), .call (.func i_spec_l06Moves) [(.tmp 83), (.const (Value.int .i64 2)), (.tmp 84)], some (76, false)⟩,
    ⟨(some 86), .op (.un .not (.tmp 85)), some (76, false)⟩,
    ⟨(some 87), .op (.pick (.tmp 76) (.const (Value.bool true)) (.tmp 86)), none⟩]) (.kill [56, 57, 58, 59, 60, 61, 62, 63, 64, 65, 66, 67, 68, 69, 70, 71, 72, 73, 74, 75, 76, 77, 78, 79, 80, 81, 82, 83, 84, 85, 86]))
  (.cond (.tmp 87) (.ghost (.kill [0, 3, 4, 87]) (.seq (.reg [⟨(some 2), .op (.mv (.const (Value.bool false))), none⟩])
  .ret))
  (.ghost (.kill [87]) .skip)))
  (.seq (.reg [⟨(some 5), .op (.mv (.const (Value.int .i64 0))), none⟩])
  (.post (.block 2 (.ghost .nv lo_spec_l06Ok_0)) .nv))))
  (.ghost (.kill [5]) (.post (.reg [⟨(some 54), .op (.mv (.tmp 4)), none⟩,
    ⟨(some 55), .op (.bin .add (.tmp 54) (.const (Value.int .i64 1))), none⟩,
    ⟨(some 4), .op (.mv (.tmp 55)), none⟩]) (.kill [54, 55]))))) .nv)
def lo_spec_l06Ok_1 : AC := (.loop lb_spec_l06Ok_1)
def ac_spec_l06Ok : AC := (.seq (.post (.reg [⟨(some 2), .op (.mv (.const (Value.bool false))), none⟩]) (.kill [2]))
  (.seq (.post (.reg [⟨(some 7), .op (.mv (.tmp 0)), none⟩,
    ⟨(some 8), .op (.nilc (.tmp 7)), none⟩,
    ⟨(some 9), .op (.faddr (.tmp 8) 2), none⟩,
    ⟨(some 10), .op (.load 1 false (.tmp 9)), none⟩,
    ⟨(some 11), .op (.len false (.tmp 10)), none⟩,
    ⟨(some 3), .op (.mv (.tmp 11)), none⟩]) (.kill [7, 8, 9, 10, 11]))
  (.seq (.seq (.post (.reg [⟨(some 12), .op (.mv (.tmp 3)), none⟩,
    ⟨(some 13), .call (.func i_spec_l00In) [(.tmp 12), (.const (Value.int .i64 1)), (.const (Value.int .i64 8))], none⟩,
    ⟨(some 14), .op (.un .not (.tmp 13)), none⟩,
    ⟨(some 15), .op (.mv (.tmp 14)), none⟩,
    ⟨(some 16), .op (.mv (.tmp 0)), some (15, false)⟩,
    ⟨(some 17), .op (.nilc (.tmp 16)), some (15, false)⟩,
    ⟨(some 18), .op (.faddr (.tmp 17) 0), some (15, false)⟩,
    ⟨(some 19), .op (.load 1 false (.tmp 18)), some (15, false)⟩,
    ⟨(some 20), .call (.func i_spec_l00In) [(.tmp 19), (.const (Value.int .i64 1)), (.const (Value.int .i64 8))], some (15, false)⟩,
    ⟨(some 21), .op (.un .not (.tmp 20)), some (15, false)⟩,
    ⟨(some 22), .op (.pick (.tmp 15) (.const (Value.bool true)) (.tmp 21)), none⟩,
    ⟨(some 23), .op (.mv (.tmp 22)), none⟩,
    ⟨(some 24), .op (.mv (.tmp 0)), some (23, false)⟩,
    ⟨(some 25), .op (.nilc (.tmp 24)), some (23, false)⟩,
    ⟨(some 26), .op (.faddr (.tmp 25) 1), some (23, false)⟩,
    ⟨(some 27), .op (.load 1 false (.tmp 26)), some (23, false)⟩,
    ⟨(some 28), .op (.mv (.tmp 3)), some (23, false)⟩,
    ⟨(some 29), .op (.bin .sub (.tmp 28) (.const (Value.int .i64 1))), some (23, false)⟩,
    ⟨(some 30), .call (.func i_spec_l00In) [(.tmp 27), (.const (Value.int .i64 0)), (.tmp 29)], some (23, false)⟩,
    ⟨(some 31), .op (.un .not (.tmp 30)), some (23, false)⟩,
    ⟨(some 32), .op (.pick (.tmp 23) (.const (Value.bool true)) (.tmp 31)), none⟩,
    ⟨(some 33), .op (.mv (.tmp 32)), none⟩,
    ⟨(some 34), .op (.mv (.tmp 0)), some (33, false)⟩,
    ⟨(some 35), .op (.nilc (.tmp 34)), some (33, false)⟩,
    ⟨(some 36), .op (.faddr (.tmp 35) 3), some (33, false)⟩,
    ⟨(some 37), .op (.load 1 false (.tmp 36)), some (33, false)⟩,
    ⟨(some 38), .op (.len false (.tmp 37)), some (33, false)⟩,
    ⟨(some 39), .op (.mv (.tmp 3)), some (33, false)⟩,
    ⟨(some 40), .op (.bin .neq (.tmp 38) (.tmp 39)), some (33, false)⟩,
    ⟨(some 41), .op (.pick (.tmp 33) (.const (Value.bool true)) (.tmp 40)), none⟩,
    ⟨(some 42), .op (.mv (.tmp 41)), none⟩,
    ⟨(some 43), .op (.mv (.tmp 0)), some (42, false)⟩,
    ⟨(some 44), .op (.nilc (.tmp 43)), some (42, false)⟩,
    ⟨(some 45), .op (.faddr (.tmp 44) 4), some (42, false)⟩,
    ⟨(some 46), .op (.load 1 false (.tmp 45)), some (42, false)⟩,
    ⟨(some 47), .op (.len false (.tmp 46)), some (42, false)⟩,
    ⟨(some 48), .op (.mv (.tmp 3)), some (42, false)⟩,
    ⟨(some 49), .op (.bin .neq (.tmp 47) (.tmp 48)), some (42, false)⟩,
    ⟨(some 50), .op (.pick (.tmp 42) (.const (Value.bool true)) (.tmp 49)), none⟩]) (.kill [12, 13, 14, 15, 16, 17, 18, 19, 20, 21, 22, 23, 24, 25, 26, 27, 28, 29, 30, 31, 32, 33, 34, 35, 36, 37, 38, 39, 40, 41, 42, 43, 44, 45, 46, 47, 48, 49]))
  (.cond (.tmp 50) (.ghost (.kill [0, 3, 50]) (.seq (.reg [⟨(some 2), .op (.mv (.const (Value.bool false))), none⟩])
  .ret))
  (.ghost (.kill [50]) .skip)))
  (.seq (.seq (.reg [⟨(some 4), .op (.mv (.const (Value.int .i64 0))), none⟩])
  (.post (.block 0 (.ghost .nv lo_spec_l06Ok_1)) .nv))
  (.ghost (.kill [0, 3, 4]) (.seq (.reg [⟨(some 2), .op (.mv (.const (Value.bool true))), none⟩])
  .ret))))))
theorem cf_spec_l06Ok : chkFn Try.prog i_spec_l06Ok ac_spec_l06Ok [.tmp 2] 145 = true := by decide +kernel
def fa_spec_l06Ok : FnA := ⟨ac_spec_l06Ok, [.tmp 2], 145, false, true, [], .any, none⟩

/-- The checked code of spec l00Own. -/
def ac_spec_l00Own : AC := (.seq (.post (.reg [⟨(some 2), .op (.mv (.const (Value.slice none 0 0))), none⟩]) (.kill [2]))
  (.seq (.post (.post (.reg [⟨(some 3), .op (.lits true 1 0 (Value.int .i64 0) []), none⟩,
    ⟨(some 4), .op (.mv (.tmp 0)), none⟩,
    ⟨(some 5), .op (.append (.tmp 3) (.tmp 4) 1 8), none⟩,
    ⟨(some 2), .op (.mv (.tmp 5)), none⟩]) (.kill [0, 3, 4, 5])) .nv)
  .ret))
theorem cf_spec_l00Own : chkFn Try.prog i_spec_l00Own ac_spec_l00Own [.tmp 2] 6 = true := by decide +kernel
def fa_spec_l00Own : FnA := ⟨ac_spec_l00Own, [.tmp 2], 6, false, false, [], .any, none⟩

/-- The checked code of spec l01Return. -/
def ac_spec_l01Return : AC := (.seq (.post (.reg [⟨(some 2), .op (.mv (.const (Value.bool false))), none⟩]) (.kill [2]))
  (.seq (.post (.reg [⟨(some 3), .op (.mv (.tmp 0)), none⟩,
    ⟨(some 4), .op (.bin .eql (.tmp 3) (.const (Value.int .u8 41))), none⟩,
    ⟨(some 5), .op (.mv (.tmp 4)), none⟩,
    ⟨(some 6), .op (.mv (.tmp 0)), some (5, false)⟩,
    ⟨(some 7), .op (.bin .eql (.tmp 6) (.const (Value.int .u8 93))), some (5, false)⟩,
    ⟨(some 8), .op (.pick (.tmp 5) (.const (Value.bool true)) (.tmp 7)), none⟩,
    ⟨(some 2), .op (.mv (.tmp 8)), none⟩]) (.kill [0, 3, 4, 5, 6, 7, 8]))
  .ret))
theorem cf_spec_l01Return : chkFn Try.prog i_spec_l01Return ac_spec_l01Return [.tmp 2] 9 = true := by decide +kernel
def fa_spec_l01Return : FnA := ⟨ac_spec_l01Return, [.tmp 2], 9, false, true, [], .any, none⟩

/-- The checked code of spec l01Call. -/
def ac_spec_l01Call : AC := (.seq (.post (.reg [⟨(some 2), .op (.mv (.const (Value.bool false))), none⟩]) (.kill [2]))
  (.seq (.post (.reg [⟨(some 3), .op (.mv (.tmp 0)), none⟩,
    ⟨(some 4), .op (.bin .eql (.tmp 3) (.const (Value.int .u8 40))), none⟩,
    ⟨(some 5), .op (.mv (.tmp 4)), none⟩,
    ⟨(some 6), .op (.mv (.tmp 0)), some (5, false)⟩,
    ⟨(some 7), .op (.bin .eql (.tmp 6) (.const (Value.int .u8 91))), some (5, false)⟩,
    ⟨(some 8), .op (.pick (.tmp 5) (.const (Value.bool true)) (.tmp 7)), none⟩,
    ⟨(some 2), .op (.mv (.tmp 8)), none⟩]) (.kill [0, 3, 4, 5, 6, 7, 8]))
  .ret))
theorem cf_spec_l01Call : chkFn Try.prog i_spec_l01Call ac_spec_l01Call [.tmp 2] 9 = true := by decide +kernel
def fa_spec_l01Call : FnA := ⟨ac_spec_l01Call, [.tmp 2], 9, false, true, [], .any, none⟩

/-- The checked code of spec l06Run  read. -/
def ac_P_spec_l06Run_read : AC := (.seq (.reg [⟨(some 4), .op (.mv (.const (Value.int .i64 0))), none⟩])
  (.seq (.seq (.post (.reg [⟨(some 8), .op (.mv (.tmp 1)), none⟩,
    ⟨(some 9), .op (.bin .eql (.tmp 8) (.const (Value.int .u8 91))), none⟩,
    ⟨(some 10), .op (.mv (.tmp 9)), none⟩,
    ⟨(some 11), .op (.mv (.tmp 1)), some (10, false)⟩,
    ⟨(some 12), .op (.bin .eql (.tmp 11) (.const (Value.int .u8 93))), some (10, false)⟩,
    ⟨(some 13), .op (.pick (.tmp 10) (.const (Value.bool true)) (.tmp 12)), none⟩,
    ⟨(some 14), .op (.mv (.tmp 13)), none⟩,
    ⟨(some 15), .op (.mv (.tmp 1)), some (14, false)⟩,
    ⟨(some 16), .op (.bin .eql (.tmp 15) (.const (Value.int .u8 98))), some (14, false)⟩,
    ⟨(some 17), .op (.pick (.tmp 14) (.const (Value.bool true)) (.tmp 16)), none⟩]) (.kill [8, 9, 10, 11, 12, 13, 14, 15, 16]))
  (.cond (.tmp 17) (.ghost (.kill [4, 17]) (.reg [⟨(some 4), .op (.mv (.const (Value.int .i64 1))), none⟩]))
  (.ghost (.kill [17]) .skip)))
  (.seq (.seq (.post (.reg [⟨(some 18), .op (.mv (.tmp 1)), none⟩,
    ⟨(some 19), .call (.func i_spec_l01Call) [(.tmp 18)], none⟩]) (.kill [18]))
  (.cond (.tmp 19) (.ghost (.kill [1, 19]) (.seq (.post (.draw [⟨0, ⟨(some 20), .op (.mv (.tmp 0)), none⟩, []⟩,
    ⟨1, ⟨(some 21), .op (.nilc (.tmp 20)), none⟩, []⟩,
    ⟨2, ⟨(some 22), .op (.faddr (.tmp 21) 0), none⟩, []⟩,
    ⟨3, ⟨(some 23), .op (.load 1 false (.tmp 22)), none⟩, []⟩,
    ⟨4, ⟨(some 24), .op (.nilc (.tmp 23)), none⟩, []⟩,
    ⟨5, ⟨(some 25), .op (.faddr (.tmp 24) 2), none⟩, []⟩,
    ⟨6, ⟨(some 26), .op (.load 1 false (.tmp 25)), none⟩, []⟩,
    ⟨7, ⟨(some 27), .op (.mv (.tmp 0)), none⟩, []⟩,
    ⟨8, ⟨(some 28), .op (.nilc (.tmp 27)), none⟩, []⟩,
    ⟨9, ⟨(some 29), .op (.faddr (.tmp 28) 1), none⟩, []⟩,
    ⟨10, ⟨(some 30), .op (.load 1 false (.tmp 29)), none⟩, []⟩,
    ⟨11, ⟨(some 31), .op (.iaddrS (.tmp 26) (.tmp 30) 1), none⟩, []⟩,
    ⟨12, ⟨(some 32), .op (.load 1 false (.tmp 31)), none⟩, []⟩,
    ⟨13, ⟨(some 33), .op (.mv (.tmp 4)), none⟩, []⟩,
    ⟨14, ⟨(some 34), .op (.iaddrS (.tmp 32) (.tmp 33) 3), none⟩, []⟩,
    ⟨15, ⟨(some 35), .op (.load 3 true (.tmp 34)), none⟩, []⟩,
    ⟨16, ⟨(some 5), .op (.alloc (Value.agg #[Value.int .i64 0, Value.int .i64 0, Value.string ⟨#[]⟩])), none⟩, [3, 6, 10, 11, 12, 14, 15]⟩,
    ⟨17, ⟨none, .op (.store 3 (.tmp 5) (.tmp 35)), none⟩, []⟩]
    [0, 1, 3, 7, 15, 31, 63, 0, 128, 384, 896, 2047, 4095, 0, 16383, 32767, 0, 131071]) (.kill [4, 20, 21, 22, 23, 24, 25, 26, 27, 28, 29, 30, 31, 32, 33, 34, 35]))
  (.seq (.post (.reg [⟨(some 36), .op (.mv (.tmp 0)), none⟩,
    ⟨(some 37), .op (.faddr (.tmp 5) 0), none⟩,
    ⟨(some 38), .op (.load 1 false (.tmp 37)), none⟩,
    ⟨(some 39), .op (.nilc (.tmp 36)), none⟩,
    ⟨(some 40), .op (.faddr (.tmp 39) 1), none⟩,
    ⟨none, .op (.store 1 (.tmp 40) (.tmp 38)), none⟩]) (.kill [36, 37, 38, 39, 40]))
  (.seq (.post (.post (.draw [⟨0, ⟨(some 41), .op (.mv (.tmp 0)), none⟩, []⟩,
    ⟨1, ⟨(some 42), .op (.mv (.tmp 0)), none⟩, []⟩,
    ⟨2, ⟨(some 43), .op (.nilc (.tmp 42)), none⟩, []⟩,
    ⟨3, ⟨(some 44), .op (.faddr (.tmp 43) 2), none⟩, []⟩,
    ⟨4, ⟨(some 45), .op (.load 1 false (.tmp 44)), none⟩, []⟩,
    ⟨5, ⟨(some 46), .op (.faddr (.tmp 5) 1), none⟩, []⟩,
    ⟨6, ⟨(some 47), .op (.load 1 false (.tmp 46)), none⟩, []⟩,
    ⟨7, ⟨(some 48), .op (.lits true 1 1 (Value.int .i64 0) [(0, (.tmp 47))]), none⟩, []⟩,
    ⟨8, ⟨(some 49), .op (.append (.tmp 45) (.tmp 48) 1 8), none⟩, []⟩,
    ⟨9, ⟨(some 50), .op (.nilc (.tmp 41)), none⟩, []⟩,
    ⟨10, ⟨(some 51), .op (.faddr (.tmp 50) 2), none⟩, []⟩,
    ⟨11, ⟨none, .op (.store 1 (.tmp 51) (.tmp 49)), none⟩, []⟩]
    [0, 0, 2, 6, 14, 0, 32, 96, 254, 511, 1023, 2047]) (.kill [41, 42, 43, 44, 45, 46, 47, 48, 49, 50, 51])) .nv)
  (.seq (.post (.post (.draw [⟨0, ⟨(some 52), .op (.mv (.tmp 0)), none⟩, []⟩,
    ⟨1, ⟨(some 53), .op (.mv (.tmp 0)), none⟩, []⟩,
    ⟨2, ⟨(some 54), .op (.nilc (.tmp 53)), none⟩, []⟩,
    ⟨3, ⟨(some 55), .op (.faddr (.tmp 54) 3), none⟩, []⟩,
    ⟨4, ⟨(some 56), .op (.load 1 false (.tmp 55)), none⟩, []⟩,
    ⟨5, ⟨(some 57), .op (.faddr (.tmp 5) 2), none⟩, []⟩,
    ⟨6, ⟨(some 58), .op (.load 1 false (.tmp 57)), none⟩, []⟩,
    ⟨7, ⟨(some 59), .op (.append (.tmp 56) (.tmp 58) 1 1), none⟩, []⟩,
    ⟨8, ⟨(some 60), .op (.nilc (.tmp 52)), none⟩, []⟩,
    ⟨9, ⟨(some 61), .op (.faddr (.tmp 60) 3), none⟩, []⟩,
    ⟨10, ⟨none, .op (.store 1 (.tmp 61) (.tmp 59)), none⟩, []⟩]
    [0, 0, 2, 6, 14, 0, 32, 126, 255, 511, 1023]) (.kill [0, 5, 52, 53, 54, 55, 56, 57, 58, 59, 60, 61])) .nv)
  .ret)))))
  (.ghost (.kill [19]) .skip)))
  (.seq (.post (.draw [⟨0, ⟨(some 62), .op (.mv (.tmp 0)), none⟩, []⟩,
    ⟨1, ⟨(some 63), .op (.nilc (.tmp 62)), none⟩, []⟩,
    ⟨2, ⟨(some 64), .op (.faddr (.tmp 63) 0), none⟩, []⟩,
    ⟨3, ⟨(some 65), .op (.load 1 false (.tmp 64)), none⟩, []⟩,
    ⟨4, ⟨(some 66), .op (.nilc (.tmp 65)), none⟩, []⟩,
    ⟨5, ⟨(some 67), .op (.faddr (.tmp 66) 4), none⟩, []⟩,
    ⟨6, ⟨(some 68), .op (.load 1 false (.tmp 67)), none⟩, []⟩,
    ⟨7, ⟨(some 69), .op (.mv (.tmp 0)), none⟩, []⟩,
    ⟨8, ⟨(some 70), .op (.nilc (.tmp 69)), none⟩, []⟩,
    ⟨9, ⟨(some 71), .op (.faddr (.tmp 70) 1), none⟩, []⟩,
    ⟨10, ⟨(some 72), .op (.load 1 false (.tmp 71)), none⟩, []⟩,
    ⟨11, ⟨(some 73), .op (.iaddrS (.tmp 68) (.tmp 72) 1), none⟩, []⟩,
    ⟨12, ⟨(some 74), .op (.load 1 false (.tmp 73)), none⟩, []⟩,
    ⟨13, ⟨(some 75), .op (.mv (.tmp 4)), none⟩, []⟩,
    ⟨14, ⟨(some 76), .op (.iaddrS (.tmp 74) (.tmp 75) 2), none⟩, []⟩,
    ⟨15, ⟨(some 77), .op (.load 2 true (.tmp 76)), none⟩, []⟩,
    ⟨16, ⟨(some 6), .op (.alloc (Value.agg #[Value.int .i64 0, Value.string ⟨#[]⟩])), none⟩, [3, 6, 10, 11, 12, 14, 15]⟩,
    ⟨17, ⟨none, .op (.store 2 (.tmp 6) (.tmp 77)), none⟩, []⟩]
    [0, 1, 3, 7, 15, 31, 63, 0, 128, 384, 896, 2047, 4095, 0, 16383, 32767, 0, 131071]) (.kill [62, 63, 64, 65, 66, 67, 68, 69, 70, 71, 72, 73, 74, 75, 76, 77]))
  (.seq (.seq (.post (.reg [⟨(some 78), .op (.mv (.tmp 1)), none⟩,
    ⟨(some 79), .call (.func i_spec_l01Return) [(.tmp 78)], none⟩]) (.kill [1, 78]))
  (.cond (.tmp 79) (.ghost (.kill [79]) (.seq (.post (.reg [⟨(some 80), .op (.mv (.tmp 0)), none⟩,
    ⟨(some 81), .op (.nilc (.tmp 80)), none⟩,
    ⟨(some 82), .op (.faddr (.tmp 81) 0), none⟩,
    ⟨(some 83), .op (.load 1 false (.tmp 82)), none⟩,
    ⟨(some 84), .op (.nilc (.tmp 83)), none⟩,
    ⟨(some 85), .op (.faddr (.tmp 84) 0), none⟩,
    ⟨(some 86), .op (.load 1 false (.tmp 85)), none⟩,
    ⟨(some 7), .op (.mv (.tmp 86)), none⟩]) (.kill [80, 81, 82, 83, 84, 85, 86]))
  (.seq (.seq (.post (.reg [⟨(some 87), .op (.mv (.tmp 0)), none⟩,
    ⟨(some 88), .op (.nilc (.tmp 87)), none⟩,
    ⟨(some 89), .op (.faddr (.tmp 88) 2), none⟩,
    ⟨(some 90), .op (.load 1 false (.tmp 89)), none⟩,
    ⟨(some 91), .op (.len false (.tmp 90)), none⟩,
    ⟨(some 92), .op (.bin .gtr (.tmp 91) (.const (Value.int .i64 0))), none⟩]) (.kill [87, 88, 89, 90, 91]))
  (.cond (.tmp 92) (.ghost (.kill [7, 92]) (.seq (.post (.draw [⟨0, ⟨(some 93), .op (.mv (.tmp 0)), none⟩, []⟩,
    ⟨1, ⟨(some 94), .op (.nilc (.tmp 93)), none⟩, []⟩,
    ⟨2, ⟨(some 95), .op (.faddr (.tmp 94) 2), none⟩, []⟩,
    ⟨3, ⟨(some 96), .op (.load 1 false (.tmp 95)), none⟩, []⟩,
    ⟨4, ⟨(some 97), .op (.mv (.tmp 0)), none⟩, []⟩,
    ⟨5, ⟨(some 98), .op (.nilc (.tmp 97)), none⟩, []⟩,
    ⟨6, ⟨(some 99), .op (.faddr (.tmp 98) 2), none⟩, []⟩,
    ⟨7, ⟨(some 100), .op (.load 1 false (.tmp 99)), none⟩, []⟩,
    ⟨8, ⟨(some 101), .op (.len false (.tmp 100)), none⟩, []⟩,
    ⟨9, ⟨(some 102), .op (.bin .sub (.tmp 101) (.const (Value.int .i64 1))), none⟩, []⟩,
    ⟨10, ⟨(some 103), .op (.iaddrS (.tmp 96) (.tmp 102) 1), none⟩, []⟩,
    ⟨11, ⟨(some 104), .op (.load 1 false (.tmp 103)), none⟩, []⟩,
    ⟨12, ⟨(some 7), .op (.mv (.tmp 104)), none⟩, []⟩]
    [0, 1, 3, 7, 0, 16, 48, 112, 240, 496, 1023, 2047, 4095]) (.kill [93, 94, 95, 96, 97, 98, 99, 100, 101, 102, 103, 104]))
  (.post (.post (.draw [⟨0, ⟨(some 105), .op (.mv (.tmp 0)), none⟩, []⟩,
    ⟨1, ⟨(some 106), .op (.mv (.tmp 0)), none⟩, []⟩,
    ⟨2, ⟨(some 107), .op (.nilc (.tmp 106)), none⟩, []⟩,
    ⟨3, ⟨(some 108), .op (.faddr (.tmp 107) 2), none⟩, []⟩,
    ⟨4, ⟨(some 109), .op (.load 1 false (.tmp 108)), none⟩, []⟩,
    ⟨5, ⟨(some 110), .op (.mv (.tmp 0)), none⟩, []⟩,
    ⟨6, ⟨(some 111), .op (.nilc (.tmp 110)), none⟩, []⟩,
    ⟨7, ⟨(some 112), .op (.faddr (.tmp 111) 2), none⟩, []⟩,
    ⟨8, ⟨(some 113), .op (.load 1 false (.tmp 112)), none⟩, []⟩,
    ⟨9, ⟨(some 114), .op (.len false (.tmp 113)), none⟩, []⟩,
    ⟨10, ⟨(some 115), .op (.bin .sub (.tmp 114) (.const (Value.int .i64 1))), none⟩, []⟩,
    ⟨11, ⟨(some 116), .op (.slcS (.tmp 109) none (some (.tmp 115)) none 1), none⟩, []⟩,
    ⟨12, ⟨(some 117), .op (.nilc (.tmp 105)), none⟩, []⟩,
    ⟨13, ⟨(some 118), .op (.faddr (.tmp 117) 2), none⟩, []⟩,
    ⟨14, ⟨none, .op (.store 1 (.tmp 118) (.tmp 116)), none⟩, []⟩]
    [0, 0, 2, 6, 14, 0, 32, 96, 224, 480, 992, 2046, 4095, 8191, 16383]) (.kill [105, 106, 107, 108, 109, 110, 111, 112, 113, 114, 115, 116, 117, 118])) .nv)))
  (.ghost (.kill [92]) .skip)))
  (.post (.draw [⟨0, ⟨(some 119), .op (.mv (.tmp 0)), none⟩, []⟩,
    ⟨1, ⟨(some 120), .op (.nilc (.tmp 119)), none⟩, []⟩,
    ⟨2, ⟨(some 121), .op (.faddr (.tmp 120) 0), none⟩, []⟩,
    ⟨3, ⟨(some 122), .op (.load 1 false (.tmp 121)), none⟩, []⟩,
    ⟨4, ⟨(some 123), .op (.nilc (.tmp 122)), none⟩, []⟩,
    ⟨5, ⟨(some 124), .op (.faddr (.tmp 123) 3), none⟩, []⟩,
    ⟨6, ⟨(some 125), .op (.load 1 false (.tmp 124)), none⟩, []⟩,
    ⟨7, ⟨(some 126), .op (.mv (.tmp 0)), none⟩, []⟩,
    ⟨8, ⟨(some 127), .op (.nilc (.tmp 126)), none⟩, []⟩,
    ⟨9, ⟨(some 128), .op (.faddr (.tmp 127) 1), none⟩, []⟩,
    ⟨10, ⟨(some 129), .op (.load 1 false (.tmp 128)), none⟩, []⟩,
    ⟨11, ⟨(some 130), .op (.iaddrS (.tmp 125) (.tmp 129) 1), none⟩, []⟩,
    ⟨12, ⟨(some 131), .op (.load 1 false (.tmp 130)), none⟩, []⟩,
    ⟨13, ⟨(some 132), .op (.mv (.tmp 4)), none⟩, []⟩,
    ⟨14, ⟨(some 133), .op (.iaddrS (.tmp 131) (.tmp 132) 1), none⟩, []⟩,
    ⟨15, ⟨(some 134), .op (.load 1 false (.tmp 133)), none⟩, []⟩,
    ⟨16, ⟨(some 135), .op (.mv (.tmp 7)), none⟩, []⟩,
    ⟨17, ⟨(some 136), .op (.iaddrS (.tmp 134) (.tmp 135) 2), none⟩, []⟩,
    ⟨18, ⟨(some 137), .op (.load 2 true (.tmp 136)), none⟩, []⟩,
    ⟨19, ⟨none, .op (.store 2 (.tmp 6) (.tmp 137)), none⟩, []⟩]
    [0, 1, 3, 7, 15, 31, 63, 0, 128, 384, 896, 2047, 4095, 0, 16383, 32767, 0, 131071, 262143, 524287]) (.kill [4, 7, 119, 120, 121, 122, 123, 124, 125, 126, 127, 128, 129, 130, 131, 132, 133, 134, 135, 136, 137])))))
  (.ghost (.kill [4, 79]) .skip)))
  (.seq (.post (.reg [⟨(some 138), .op (.mv (.tmp 0)), none⟩,
    ⟨(some 139), .op (.faddr (.tmp 6) 0), none⟩,
    ⟨(some 140), .op (.load 1 false (.tmp 139)), none⟩,
    ⟨(some 141), .op (.nilc (.tmp 138)), none⟩,
    ⟨(some 142), .op (.faddr (.tmp 141) 1), none⟩,
    ⟨none, .op (.store 1 (.tmp 142) (.tmp 140)), none⟩]) (.kill [138, 139, 140, 141, 142]))
  (.post (.post (.draw [⟨0, ⟨(some 143), .op (.mv (.tmp 0)), none⟩, []⟩,
    ⟨1, ⟨(some 144), .op (.mv (.tmp 0)), none⟩, []⟩,
    ⟨2, ⟨(some 145), .op (.nilc (.tmp 144)), none⟩, []⟩,
    ⟨3, ⟨(some 146), .op (.faddr (.tmp 145) 3), none⟩, []⟩,
    ⟨4, ⟨(some 147), .op (.load 1 false (.tmp 146)), none⟩, []⟩,
    ⟨5, ⟨(some 148), .op (.faddr (.tmp 6) 1), none⟩, []⟩,
    ⟨6, ⟨(some 149), .op (.load 1 false (.tmp 148)), none⟩, []⟩,
    ⟨7, ⟨(some 150), .op (.append (.tmp 147) (.tmp 149) 1 1), none⟩, []⟩,
    ⟨8, ⟨(some 151), .op (.nilc (.tmp 143)), none⟩, []⟩,
    ⟨9, ⟨(some 152), .op (.faddr (.tmp 151) 3), none⟩, []⟩,
    ⟨10, ⟨none, .op (.store 1 (.tmp 152) (.tmp 150)), none⟩, []⟩]
    [0, 0, 2, 6, 14, 0, 32, 126, 255, 511, 1023]) (.kill [0, 6, 143, 144, 145, 146, 147, 148, 149, 150, 151, 152])) .nv)))))))
theorem cf_P_spec_l06Run_read : chkFn Try.prog i_P_spec_l06Run_read ac_P_spec_l06Run_read [] 153 = true := by decide +kernel
def fa_P_spec_l06Run_read : FnA := ⟨ac_P_spec_l06Run_read, [], 153, true, false, [], .any, none⟩

/-- The checked code of spec l06Reads. -/
def lb_spec_l06Reads_0 : AC := (.post (.seq (.seq (.post (.reg [⟨(some 17), .op (.mv (.tmp 10)), none⟩,
    ⟨(some 18), .op (.mv (.tmp 3)), none⟩,
    ⟨(some 19), .op (.len true (.tmp 18)), none⟩,
    ⟨(some 20), .op (.bin .lss (.tmp 17) (.tmp 19)), none⟩]) (.kill [17, 18, 19]))
  (.cond (.tmp 20) (.ghost (.kill [20]) .skip)
  (.ghost (.kill [3, 10, 20]) (.exit 0))))
  (.seq (.block 1 (.post (.reg [⟨(some 23), .op (.mv (.tmp 9)), none⟩,
    ⟨(some 24), .op (.mv (.tmp 3)), none⟩,
    ⟨(some 25), .op (.mv (.tmp 10)), none⟩,
    ⟨(some 26), .op (.idxStr (.tmp 24) (.tmp 25)), none⟩,
    ⟨(some 27), .call (.func i_P_spec_l06Run_read) [(.tmp 23), (.tmp 26)], none⟩]) (.kill [23, 24, 25, 26, 27])))
  (.post (.reg [⟨(some 21), .op (.mv (.tmp 10)), none⟩,
    ⟨(some 22), .op (.bin .add (.tmp 21) (.const (Value.int .i64 1))), none⟩,
    ⟨(some 10), .op (.mv (.tmp 22)), none⟩]) (.kill [21, 22])))) .nv)
def lo_spec_l06Reads_0 : AC := (.loop lb_spec_l06Reads_0)
def ac_spec_l06Reads : AC := (.seq (.post (.reg [⟨(some 8), .op (.mv (.const (Value.pointer none))), none⟩]) (.kill [8]))
  (.seq (.post (.reg [⟨(some 11), .op (.mv (.tmp 0)), none⟩,
    ⟨(some 12), .op (.mv (.tmp 1)), none⟩,
    ⟨(some 13), .op (.mv (.tmp 2)), none⟩,
    ⟨(some 14), .call (.func i_spec_l00Own) [(.tmp 13)], none⟩,
    ⟨(some 15), .op (.build [Value.pointer none, Value.int .i64 0, Value.slice none 0 0, Value.slice none 0 0] [(0, 1, (.tmp 11)), (1, 1, (.tmp 12)), (2, 1, (.tmp 14))]), none⟩,
    ⟨(some 16), .op (.box false (.tmp 15)), none⟩,
    ⟨(some 9), .op (.mv (.tmp 16)), none⟩]) (.kill [0, 1, 2, 11, 12, 13, 14, 15, 16]))
  (.seq (.seq (.reg [⟨(some 10), .op (.mv (.const (Value.int .i64 0))), none⟩])
  (.post (.block 0 (.ghost (.ow 9 (some 3) 1) (.ghost .nv lo_spec_l06Reads_0))) .nv))
  (.ghost (.kill [3, 10]) (.seq (.post (.reg [⟨(some 28), .op (.mv (.tmp 9)), none⟩,
    ⟨(some 8), .op (.mv (.tmp 28)), none⟩]) (.kill [9, 28]))
  .ret)))))
theorem cf_spec_l06Reads : chkFn Try.prog i_spec_l06Reads ac_spec_l06Reads [.tmp 8] 29 = true := by decide +kernel
def fa_spec_l06Reads : FnA := ⟨ac_spec_l06Reads, [.tmp 8], 29, false, false, [], .any, none⟩

/-- The checked code of spec RewriteOn. -/
def lb_spec_RewriteOn_0 : AC := (.post (.seq (.seq (.post (.reg [⟨(some 34), .op (.mv (.tmp 13)), none⟩,
    ⟨(some 35), .op (.mv (.tmp 2)), none⟩,
    ⟨(some 36), .op (.len false (.tmp 35)), none⟩,
    ⟨(some 37), .op (.bin .lss (.tmp 34) (.tmp 36)), none⟩,
    ⟨(some 38), .op (.mv (.tmp 37)), none⟩,
    ⟨(some 39), .op (.mv (.tmp 12)), some (38, true)⟩,
    ⟨(some 40), .op (.pick (.tmp 38) (.tmp 39) (.const (Value.bool false))), none⟩]) (.kill [34, 35, 36, 37, 38, 39]))
  (.cond (.tmp 40) (.ghost (.kill [12, 40]) .skip)
  (.ghost (.kill [13, 40]) (.exit 0))))
  (.seq (.block 1 (.post (.draw [⟨0, ⟨(some 43), .op (.mv (.tmp 2)), none⟩, []⟩,
    ⟨1, ⟨(some 44), .op (.mv (.tmp 13)), none⟩, []⟩,
    ⟨2, ⟨(some 45), .op (.iaddrS (.tmp 43) (.tmp 44) 1), none⟩, []⟩,
    ⟨3, ⟨(some 46), .op (.load 1 false (.tmp 45)), none⟩, []⟩,
    ⟨4, ⟨(some 47), .op (.faddr (.tmp 4) 0), none⟩, []⟩,
    ⟨5, ⟨(some 48), .op (.load 1 false (.tmp 47)), none⟩, []⟩,
    ⟨6, ⟨(some 49), .op (.bin .sub (.tmp 48) (.const (Value.int .i64 1))), none⟩, []⟩,
    ⟨7, ⟨(some 50), .call (.func i_spec_l00In) [(.tmp 46), (.const (Value.int .i64 0)), (.tmp 49)], none⟩, []⟩,
    ⟨8, ⟨(some 12), .op (.mv (.tmp 50)), none⟩, []⟩]
    [0, 0, 3, 7, 0, 16, 48, 127, 255]) (.kill [43, 44, 45, 46, 47, 48, 49, 50])))
  (.post (.reg [⟨(some 41), .op (.mv (.tmp 13)), none⟩,
    ⟨(some 42), .op (.bin .add (.tmp 41) (.const (Value.int .i64 1))), none⟩,
    ⟨(some 13), .op (.mv (.tmp 42)), none⟩]) (.kill [41, 42])))) .nv)
def lo_spec_RewriteOn_0 : AC := (.loop lb_spec_RewriteOn_0)
def ac_spec_RewriteOn : AC := (.seq (.post (.reg [⟨(some 4), .op (.box true (.tmp 0)), none⟩,
    ⟨(some 8), .op (.mv (.const (Value.int .i64 0))), none⟩,
    ⟨(some 9), .op (.mv (.const (Value.slice none 0 0))), none⟩,
    ⟨(some 10), .op (.mv (.const (Value.string ⟨#[]⟩))), none⟩,
    ⟨(some 11), .op (.mv (.const (Value.int .i64 0))), none⟩]) (.kill [0, 8, 9, 10, 11]))
  (.seq (.seq (.post (.reg [⟨(some 15), .call (.func i_spec_l06Ok) [(.tmp 4)], none⟩,
    ⟨(some 16), .op (.un .not (.tmp 15)), none⟩,
    ⟨(some 17), .op (.mv (.tmp 16)), none⟩,
    ⟨(some 18), .op (.mv (.tmp 3)), some (17, false)⟩,
    ⟨(some 19), .call (.func i_spec_l01Ok) [(.tmp 18)], some (17, false)⟩,
    ⟨(some 20), .op (.un .not (.tmp 19)), some (17, false)⟩,
    ⟨(some 21), .op (.pick (.tmp 17) (.const (Value.bool true)) (.tmp 20)), none⟩]) (.kill [15, 16, 17, 18, 19, 20]))
  (.cond (.tmp 21) (.ghost (.kill [1, 2, 3, 4, 21]) (.seq (.post (.reg [⟨(some 22), .op (.lits true 1 0 (Value.int .i64 0) []), none⟩,
    ⟨(some 8), .op (.mv (.const (Value.int .i64 0))), none⟩,
    ⟨(some 9), .op (.mv (.tmp 22)), none⟩,
    ⟨(some 10), .op (.mv (.const (Value.string ⟨#[]⟩))), none⟩,
    ⟨(some 11), .op (.mv (.const (Value.int .i64 1))), none⟩]) (.kill [22]))
  .ret))
  (.ghost (.kill [21]) .skip)))
  (.seq (.post (.reg [⟨(some 23), .op (.mv (.tmp 1)), none⟩,
    ⟨(some 24), .op (.faddr (.tmp 4) 2), none⟩,
    ⟨(some 25), .op (.load 1 false (.tmp 24)), none⟩,
    ⟨(some 26), .op (.len false (.tmp 25)), none⟩,
    ⟨(some 27), .op (.bin .sub (.tmp 26) (.const (Value.int .i64 1))), none⟩,
    ⟨(some 28), .call (.func i_spec_l00In) [(.tmp 23), (.const (Value.int .i64 0)), (.tmp 27)], none⟩,
    ⟨(some 29), .op (.mv (.tmp 28)), none⟩,
    ⟨(some 30), .op (.mv (.tmp 2)), some (29, true)⟩,
    ⟨(some 31), .op (.len false (.tmp 30)), some (29, true)⟩,
    ⟨(some 32), .op (.bin .leq (.tmp 31) (.const (Value.int .i64 60))), some (29, true)⟩,
    ⟨(some 33), .op (.pick (.tmp 29) (.tmp 32) (.const (Value.bool false))), none⟩,
    ⟨(some 12), .op (.mv (.tmp 33)), none⟩]) (.kill [23, 24, 25, 26, 27, 28, 29, 30, 31, 32, 33]))
  (.seq (.seq (.reg [⟨(some 13), .op (.mv (.const (Value.int .i64 0))), none⟩])
  (.post (.block 0 (.ghost .nv lo_spec_RewriteOn_0)) .nv))
  (.ghost (.kill [13]) (.seq (.seq (.post (.reg [⟨(some 51), .op (.mv (.tmp 12)), none⟩,
    ⟨(some 52), .op (.un .not (.tmp 51)), none⟩]) (.kill [12, 51]))
  (.cond (.tmp 52) (.ghost (.kill [1, 2, 3, 4, 52]) (.seq (.post (.reg [⟨(some 53), .op (.lits true 1 0 (Value.int .i64 0) []), none⟩,
    ⟨(some 8), .op (.mv (.const (Value.int .i64 0))), none⟩,
    ⟨(some 9), .op (.mv (.tmp 53)), none⟩,
    ⟨(some 10), .op (.mv (.const (Value.string ⟨#[]⟩))), none⟩,
    ⟨(some 11), .op (.mv (.const (Value.int .i64 2))), none⟩]) (.kill [53]))
  .ret))
  (.ghost (.kill [52]) .skip)))
  (.seq (.post (.reg [⟨(some 54), .op (.mv (.tmp 1)), none⟩,
    ⟨(some 55), .op (.mv (.tmp 2)), none⟩,
    ⟨(some 56), .op (.mv (.tmp 3)), none⟩,
    ⟨(some 57), .call (.func i_spec_l06Reads) [(.tmp 4), (.tmp 54), (.tmp 55), (.tmp 56)], none⟩,
    ⟨(some 14), .op (.mv (.tmp 57)), none⟩]) (.kill [1, 2, 3, 4, 54, 55, 56, 57]))
  (.seq (.seq (.post (.reg [⟨(some 58), .op (.mv (.tmp 14)), none⟩,
    ⟨(some 59), .op (.nilc (.tmp 58)), none⟩,
    ⟨(some 60), .op (.faddr (.tmp 59) 2), none⟩,
    ⟨(some 61), .op (.load 1 false (.tmp 60)), none⟩,
    ⟨(some 62), .op (.len false (.tmp 61)), none⟩,
    ⟨(some 63), .op (.bin .gtr (.tmp 62) (.const (Value.int .i64 60))), none⟩,
    ⟨(some 64), .op (.mv (.tmp 63)), none⟩,
    ⟨(some 65), .op (.mv (.tmp 14)), some (64, false)⟩,
    ⟨(some 66), .op (.nilc (.tmp 65)), some (64, false)⟩,
    ⟨(some 67), .op (.faddr (.tmp 66) 3), some (64, false)⟩,
    ⟨(some 68), .op (.load 1 false (.tmp 67)), some (64, false)⟩,
    ⟨(some 69), .op (.len false (.tmp 68)), some (64, false)⟩,
    ⟨(some 70), .op (.bin .gtr (.tmp 69) (.const (Value.int .i64 60))), some (64, false)⟩,
    ⟨(some 71), .op (.pick (.tmp 64) (.const (Value.bool true)) (.tmp 70)), none⟩]) (.kill [58, 59, 60, 61, 62, 63, 64, 65, 66, 67, 68, 69, 70]))
  (.cond (.tmp 71) (.ghost (.kill [14, 71]) (.seq (.post (.reg [⟨(some 72), .op (.lits true 1 0 (Value.int .i64 0) []), none⟩,
    ⟨(some 8), .op (.mv (.const (Value.int .i64 0))), none⟩,
    ⟨(some 9), .op (.mv (.tmp 72)), none⟩,
    ⟨(some 10), .op (.mv (.const (Value.string ⟨#[]⟩))), none⟩,
    ⟨(some 11), .op (.mv (.const (Value.int .i64 3))), none⟩]) (.kill [72]))
  .ret))
  (.ghost (.kill [71]) .skip)))
  (.seq (.post (.draw [⟨0, ⟨(some 73), .op (.mv (.tmp 14)), none⟩, []⟩,
    ⟨1, ⟨(some 74), .op (.nilc (.tmp 73)), none⟩, []⟩,
    ⟨2, ⟨(some 75), .op (.faddr (.tmp 74) 1), none⟩, []⟩,
    ⟨3, ⟨(some 76), .op (.load 1 false (.tmp 75)), none⟩, []⟩,
    ⟨4, ⟨(some 77), .op (.mv (.tmp 14)), none⟩, []⟩,
    ⟨5, ⟨(some 78), .op (.nilc (.tmp 77)), none⟩, []⟩,
    ⟨6, ⟨(some 79), .op (.faddr (.tmp 78) 2), none⟩, []⟩,
    ⟨7, ⟨(some 80), .op (.load 1 false (.tmp 79)), none⟩, []⟩,
    ⟨9, ⟨(some 82), .op (.mv (.tmp 14)), none⟩, []⟩,
    ⟨10, ⟨(some 83), .op (.nilc (.tmp 82)), none⟩, []⟩,
    ⟨11, ⟨(some 84), .op (.faddr (.tmp 83) 3), none⟩, []⟩,
    ⟨12, ⟨(some 85), .op (.load 1 false (.tmp 84)), none⟩, []⟩,
    ⟨13, ⟨(some 86), .op (.b2s (.tmp 85)), none⟩, []⟩,
    ⟨8, ⟨(some 81), .call (.func i_spec_l00Own) [(.tmp 80)], none⟩, [3, 12, 13]⟩,
    ⟨14, ⟨(some 8), .op (.mv (.tmp 76)), none⟩, []⟩,
    ⟨15, ⟨(some 9), .op (.mv (.tmp 81)), none⟩, []⟩,
    ⟨16, ⟨(some 10), .op (.mv (.tmp 86)), none⟩, []⟩,
    ⟨17, ⟨(some 11), .op (.mv (.const (Value.int .i64 0))), none⟩, []⟩]
    [0, 1, 3, 7, 0, 16, 48, 112, 240, 0, 512, 1536, 3584, 7680, 511, 16895, 65535, 131071]) (.kill [14, 73, 74, 75, 76, 77, 78, 79, 80, 81, 82, 83, 84, 85, 86]))
  .ret)))))))))
theorem cf_spec_RewriteOn : chkFn Try.prog i_spec_RewriteOn ac_spec_RewriteOn [.tmp 8, .tmp 9, .tmp 10, .tmp 11] 87 = true := by decide +kernel
def fa_spec_RewriteOn : FnA := ⟨ac_spec_RewriteOn, [.tmp 8, .tmp 9, .tmp 10, .tmp 11], 87, false, true, [(.agg [.any, .any, (.lst 1 (.lst 3 .any)), (.lst 1 (.lst 1 (.lst 2 .any))), (.lst 1 (.lst 2 .any))]), .any, (.lst 1 .any), .any], .any, none⟩

/-- The checked code of laws toOutPush. -/
def ac_laws_toOutPush : AC := (.seq (.post (.reg [⟨(some 1), .op (.box true (.tmp 0)), none⟩,
    ⟨(some 2), .op (.alloc (Value.agg #[Value.int .i64 0, Value.int .i64 0, Value.string ⟨#[]⟩])), none⟩]) (.kill [0]))
  (.seq (.reg [⟨(some 3), .op (.alloc (Value.agg #[Value.int .i64 0, Value.int .i64 0, Value.string ⟨#[]⟩])), none⟩])
  (.seq (.post (.reg [⟨(some 4), .op (.faddr (.tmp 1) 0), none⟩,
    ⟨(some 5), .op (.load 1 false (.tmp 4)), none⟩,
    ⟨(some 6), .op (.faddr (.tmp 3) 0), none⟩,
    ⟨none, .op (.store 1 (.tmp 6) (.tmp 5)), none⟩]) (.kill [4, 5, 6]))
  (.seq (.post (.reg [⟨(some 7), .op (.faddr (.tmp 1) 1), none⟩,
    ⟨(some 8), .op (.load 1 false (.tmp 7)), none⟩,
    ⟨(some 9), .op (.faddr (.tmp 3) 1), none⟩,
    ⟨none, .op (.store 1 (.tmp 9) (.tmp 8)), none⟩]) (.kill [7, 8, 9]))
  (.seq (.post (.reg [⟨(some 10), .op (.faddr (.tmp 1) 2), none⟩,
    ⟨(some 11), .op (.load 1 false (.tmp 10)), none⟩,
    ⟨(some 12), .op (.faddr (.tmp 3) 2), none⟩,
    ⟨none, .op (.store 1 (.tmp 12) (.tmp 11)), none⟩]) (.kill [1, 10, 11, 12]))
  (.seq (.post (.reg [⟨(some 13), .op (.load 3 true (.tmp 3)), none⟩,
    ⟨none, .op (.store 3 (.tmp 2) (.tmp 13)), none⟩]) (.kill [3, 13]))
  .ret))))))
theorem cf_laws_toOutPush : chkFn Try.prog i_laws_toOutPush ac_laws_toOutPush [.cell 2 3 true] 14 = true := by decide +kernel
def fa_laws_toOutPush : FnA := ⟨ac_laws_toOutPush, [.cell 2 3 true], 14, false, false, [], .any, none⟩

/-- The checked code of laws toOutPushS. -/
def lb_laws_toOutPushS_0 : AC := (.seq (.seq (.post (.reg [⟨(some 8), .op (.mv (.tmp 4)), none⟩,
    ⟨(some 9), .op (.mv (.tmp 0)), none⟩,
    ⟨(some 10), .op (.len false (.tmp 9)), none⟩,
    ⟨(some 11), .op (.bin .lss (.tmp 8) (.tmp 10)), none⟩]) (.kill [8, 9, 10]))
  (.cond (.tmp 11) (.ghost (.kill [11]) .skip)
  (.ghost (.kill [0, 4, 11]) (.exit 0))))
  (.seq (.block 1 (.post (.reg [⟨(some 14), .op (.mv (.tmp 3)), none⟩,
    ⟨(some 15), .op (.mv (.tmp 4)), none⟩,
    ⟨(some 16), .op (.mv (.tmp 0)), none⟩,
    ⟨(some 17), .op (.mv (.tmp 4)), none⟩,
    ⟨(some 18), .op (.iaddrS (.tmp 16) (.tmp 17) 3), none⟩,
    ⟨(some 19), .op (.load 3 true (.tmp 18)), none⟩,
    ⟨(some 20), .call (.func i_laws_toOutPush) [(.tmp 19)], none⟩,
    ⟨(some 21), .op (.iaddrS (.tmp 14) (.tmp 15) 3), none⟩,
    ⟨none, .op (.store 3 (.tmp 21) (.tmp 20)), none⟩]) (.kill [14, 15, 16, 17, 18, 19, 20, 21])))
  (.post (.reg [⟨(some 12), .op (.mv (.tmp 4)), none⟩,
    ⟨(some 13), .op (.bin .add (.tmp 12) (.const (Value.int .i64 1))), none⟩,
    ⟨(some 4), .op (.mv (.tmp 13)), none⟩]) (.kill [12, 13]))))
def lo_laws_toOutPushS_0 : AC := (.loop lb_laws_toOutPushS_0)
def ac_laws_toOutPushS : AC := (.seq (.post (.reg [⟨(some 2), .op (.mv (.const (Value.slice none 0 0))), none⟩]) (.kill [2]))
  (.seq (.post (.reg [⟨(some 5), .op (.mv (.tmp 0)), none⟩,
    ⟨(some 6), .op (.len false (.tmp 5)), none⟩,
    ⟨(some 7), .op (.make (.tmp 6) (.tmp 6) 3 32 (Value.agg #[Value.int .i64 0, Value.int .i64 0, Value.string ⟨#[]⟩])), none⟩,
    ⟨(some 3), .op (.mv (.tmp 7)), none⟩]) (.kill [5, 6, 7]))
  (.seq (.seq (.reg [⟨(some 4), .op (.mv (.const (Value.int .i64 0))), none⟩])
  (.block 0 lo_laws_toOutPushS_0))
  (.ghost (.kill [0, 4]) (.seq (.post (.reg [⟨(some 22), .op (.mv (.tmp 3)), none⟩,
    ⟨(some 2), .op (.mv (.tmp 22)), none⟩]) (.kill [3, 22]))
  .ret)))))
theorem cf_laws_toOutPushS : chkFn Try.prog i_laws_toOutPushS ac_laws_toOutPushS [.tmp 2] 23 = true := by decide +kernel
def fa_laws_toOutPushS : FnA := ⟨ac_laws_toOutPushS, [.tmp 2], 23, false, false, [], .any, none⟩

/-- The checked code of laws toOutPushSS. -/
def lb_laws_toOutPushSS_0 : AC := (.seq (.seq (.post (.reg [⟨(some 8), .op (.mv (.tmp 4)), none⟩,
    ⟨(some 9), .op (.mv (.tmp 0)), none⟩,
    ⟨(some 10), .op (.len false (.tmp 9)), none⟩,
    ⟨(some 11), .op (.bin .lss (.tmp 8) (.tmp 10)), none⟩]) (.kill [8, 9, 10]))
  (.cond (.tmp 11) (.ghost (.kill [11]) .skip)
  (.ghost (.kill [0, 4, 11]) (.exit 0))))
  (.seq (.block 1 (.post (.reg [⟨(some 14), .op (.mv (.tmp 3)), none⟩,
    ⟨(some 15), .op (.mv (.tmp 4)), none⟩,
    ⟨(some 16), .op (.mv (.tmp 0)), none⟩,
    ⟨(some 17), .op (.mv (.tmp 4)), none⟩,
    ⟨(some 18), .op (.iaddrS (.tmp 16) (.tmp 17) 1), none⟩,
    ⟨(some 19), .op (.load 1 false (.tmp 18)), none⟩,
    ⟨(some 20), .call (.func i_laws_toOutPushS) [(.tmp 19)], none⟩,
    ⟨(some 21), .op (.iaddrS (.tmp 14) (.tmp 15) 1), none⟩,
    ⟨none, .op (.store 1 (.tmp 21) (.tmp 20)), none⟩]) (.kill [14, 15, 16, 17, 18, 19, 20, 21])))
  (.post (.reg [⟨(some 12), .op (.mv (.tmp 4)), none⟩,
    ⟨(some 13), .op (.bin .add (.tmp 12) (.const (Value.int .i64 1))), none⟩,
    ⟨(some 4), .op (.mv (.tmp 13)), none⟩]) (.kill [12, 13]))))
def lo_laws_toOutPushSS_0 : AC := (.loop lb_laws_toOutPushSS_0)
def ac_laws_toOutPushSS : AC := (.seq (.post (.reg [⟨(some 2), .op (.mv (.const (Value.slice none 0 0))), none⟩]) (.kill [2]))
  (.seq (.post (.reg [⟨(some 5), .op (.mv (.tmp 0)), none⟩,
    ⟨(some 6), .op (.len false (.tmp 5)), none⟩,
    ⟨(some 7), .op (.make (.tmp 6) (.tmp 6) 1 24 (Value.slice none 0 0)), none⟩,
    ⟨(some 3), .op (.mv (.tmp 7)), none⟩]) (.kill [5, 6, 7]))
  (.seq (.seq (.reg [⟨(some 4), .op (.mv (.const (Value.int .i64 0))), none⟩])
  (.block 0 lo_laws_toOutPushSS_0))
  (.ghost (.kill [0, 4]) (.seq (.post (.reg [⟨(some 22), .op (.mv (.tmp 3)), none⟩,
    ⟨(some 2), .op (.mv (.tmp 22)), none⟩]) (.kill [3, 22]))
  .ret)))))
theorem cf_laws_toOutPushSS : chkFn Try.prog i_laws_toOutPushSS ac_laws_toOutPushSS [.tmp 2] 23 = true := by decide +kernel
def fa_laws_toOutPushSS : FnA := ⟨ac_laws_toOutPushSS, [.tmp 2], 23, false, false, [], .any, none⟩

/-- The checked code of laws toOutMove. -/
def ac_laws_toOutMove : AC := (.seq (.post (.reg [⟨(some 1), .op (.box true (.tmp 0)), none⟩,
    ⟨(some 2), .op (.alloc (Value.agg #[Value.int .i64 0, Value.string ⟨#[]⟩])), none⟩]) (.kill [0]))
  (.seq (.reg [⟨(some 3), .op (.alloc (Value.agg #[Value.int .i64 0, Value.string ⟨#[]⟩])), none⟩])
  (.seq (.post (.reg [⟨(some 4), .op (.faddr (.tmp 1) 0), none⟩,
    ⟨(some 5), .op (.load 1 false (.tmp 4)), none⟩,
    ⟨(some 6), .op (.faddr (.tmp 3) 0), none⟩,
    ⟨none, .op (.store 1 (.tmp 6) (.tmp 5)), none⟩]) (.kill [4, 5, 6]))
  (.seq (.post (.reg [⟨(some 7), .op (.faddr (.tmp 1) 1), none⟩,
    ⟨(some 8), .op (.load 1 false (.tmp 7)), none⟩,
    ⟨(some 9), .op (.faddr (.tmp 3) 1), none⟩,
    ⟨none, .op (.store 1 (.tmp 9) (.tmp 8)), none⟩]) (.kill [1, 7, 8, 9]))
  (.seq (.post (.reg [⟨(some 10), .op (.load 2 true (.tmp 3)), none⟩,
    ⟨none, .op (.store 2 (.tmp 2) (.tmp 10)), none⟩]) (.kill [3, 10]))
  .ret)))))
theorem cf_laws_toOutMove : chkFn Try.prog i_laws_toOutMove ac_laws_toOutMove [.cell 2 2 true] 11 = true := by decide +kernel
def fa_laws_toOutMove : FnA := ⟨ac_laws_toOutMove, [.cell 2 2 true], 11, false, false, [], .any, none⟩

/-- The checked code of laws toOutMoveS. -/
def lb_laws_toOutMoveS_0 : AC := (.seq (.seq (.post (.reg [⟨(some 8), .op (.mv (.tmp 4)), none⟩,
    ⟨(some 9), .op (.mv (.tmp 0)), none⟩,
    ⟨(some 10), .op (.len false (.tmp 9)), none⟩,
    ⟨(some 11), .op (.bin .lss (.tmp 8) (.tmp 10)), none⟩]) (.kill [8, 9, 10]))
  (.cond (.tmp 11) (.ghost (.kill [11]) .skip)
  (.ghost (.kill [0, 4, 11]) (.exit 0))))
  (.seq (.block 1 (.post (.reg [⟨(some 14), .op (.mv (.tmp 3)), none⟩,
    ⟨(some 15), .op (.mv (.tmp 4)), none⟩,
    ⟨(some 16), .op (.mv (.tmp 0)), none⟩,
    ⟨(some 17), .op (.mv (.tmp 4)), none⟩,
    ⟨(some 18), .op (.iaddrS (.tmp 16) (.tmp 17) 2), none⟩,
    ⟨(some 19), .op (.load 2 true (.tmp 18)), none⟩,
    ⟨(some 20), .call (.func i_laws_toOutMove) [(.tmp 19)], none⟩,
    ⟨(some 21), .op (.iaddrS (.tmp 14) (.tmp 15) 2), none⟩,
    ⟨none, .op (.store 2 (.tmp 21) (.tmp 20)), none⟩]) (.kill [14, 15, 16, 17, 18, 19, 20, 21])))
  (.post (.reg [⟨(some 12), .op (.mv (.tmp 4)), none⟩,
    ⟨(some 13), .op (.bin .add (.tmp 12) (.const (Value.int .i64 1))), none⟩,
    ⟨(some 4), .op (.mv (.tmp 13)), none⟩]) (.kill [12, 13]))))
def lo_laws_toOutMoveS_0 : AC := (.loop lb_laws_toOutMoveS_0)
def ac_laws_toOutMoveS : AC := (.seq (.post (.reg [⟨(some 2), .op (.mv (.const (Value.slice none 0 0))), none⟩]) (.kill [2]))
  (.seq (.post (.reg [⟨(some 5), .op (.mv (.tmp 0)), none⟩,
    ⟨(some 6), .op (.len false (.tmp 5)), none⟩,
    ⟨(some 7), .op (.make (.tmp 6) (.tmp 6) 2 24 (Value.agg #[Value.int .i64 0, Value.string ⟨#[]⟩])), none⟩,
    ⟨(some 3), .op (.mv (.tmp 7)), none⟩]) (.kill [5, 6, 7]))
  (.seq (.seq (.reg [⟨(some 4), .op (.mv (.const (Value.int .i64 0))), none⟩])
  (.block 0 lo_laws_toOutMoveS_0))
  (.ghost (.kill [0, 4]) (.seq (.post (.reg [⟨(some 22), .op (.mv (.tmp 3)), none⟩,
    ⟨(some 2), .op (.mv (.tmp 22)), none⟩]) (.kill [3, 22]))
  .ret)))))
theorem cf_laws_toOutMoveS : chkFn Try.prog i_laws_toOutMoveS ac_laws_toOutMoveS [.tmp 2] 23 = true := by decide +kernel
def fa_laws_toOutMoveS : FnA := ⟨ac_laws_toOutMoveS, [.tmp 2], 23, false, false, [], .any, none⟩

/-- The checked code of laws toOutMoveSS. -/
def lb_laws_toOutMoveSS_0 : AC := (.seq (.seq (.post (.reg [⟨(some 8), .op (.mv (.tmp 4)), none⟩,
    ⟨(some 9), .op (.mv (.tmp 0)), none⟩,
    ⟨(some 10), .op (.len false (.tmp 9)), none⟩,
    ⟨(some 11), .op (.bin .lss (.tmp 8) (.tmp 10)), none⟩]) (.kill [8, 9, 10]))
  (.cond (.tmp 11) (.ghost (.kill [11]) .skip)
  (.ghost (.kill [0, 4, 11]) (.exit 0))))
  (.seq (.block 1 (.post (.reg [⟨(some 14), .op (.mv (.tmp 3)), none⟩,
    ⟨(some 15), .op (.mv (.tmp 4)), none⟩,
    ⟨(some 16), .op (.mv (.tmp 0)), none⟩,
    ⟨(some 17), .op (.mv (.tmp 4)), none⟩,
    ⟨(some 18), .op (.iaddrS (.tmp 16) (.tmp 17) 1), none⟩,
    ⟨(some 19), .op (.load 1 false (.tmp 18)), none⟩,
    ⟨(some 20), .call (.func i_laws_toOutMoveS) [(.tmp 19)], none⟩,
    ⟨(some 21), .op (.iaddrS (.tmp 14) (.tmp 15) 1), none⟩,
    ⟨none, .op (.store 1 (.tmp 21) (.tmp 20)), none⟩]) (.kill [14, 15, 16, 17, 18, 19, 20, 21])))
  (.post (.reg [⟨(some 12), .op (.mv (.tmp 4)), none⟩,
    ⟨(some 13), .op (.bin .add (.tmp 12) (.const (Value.int .i64 1))), none⟩,
    ⟨(some 4), .op (.mv (.tmp 13)), none⟩]) (.kill [12, 13]))))
def lo_laws_toOutMoveSS_0 : AC := (.loop lb_laws_toOutMoveSS_0)
def ac_laws_toOutMoveSS : AC := (.seq (.post (.reg [⟨(some 2), .op (.mv (.const (Value.slice none 0 0))), none⟩]) (.kill [2]))
  (.seq (.post (.reg [⟨(some 5), .op (.mv (.tmp 0)), none⟩,
    ⟨(some 6), .op (.len false (.tmp 5)), none⟩,
    ⟨(some 7), .op (.make (.tmp 6) (.tmp 6) 1 24 (Value.slice none 0 0)), none⟩,
    ⟨(some 3), .op (.mv (.tmp 7)), none⟩]) (.kill [5, 6, 7]))
  (.seq (.seq (.reg [⟨(some 4), .op (.mv (.const (Value.int .i64 0))), none⟩])
  (.block 0 lo_laws_toOutMoveSS_0))
  (.ghost (.kill [0, 4]) (.seq (.post (.reg [⟨(some 22), .op (.mv (.tmp 3)), none⟩,
    ⟨(some 2), .op (.mv (.tmp 22)), none⟩]) (.kill [3, 22]))
  .ret)))))
theorem cf_laws_toOutMoveSS : chkFn Try.prog i_laws_toOutMoveSS ac_laws_toOutMoveSS [.tmp 2] 23 = true := by decide +kernel
def fa_laws_toOutMoveSS : FnA := ⟨ac_laws_toOutMoveSS, [.tmp 2], 23, false, false, [], .any, none⟩

/-- The checked code of laws toOutMoveSSS. -/
def lb_laws_toOutMoveSSS_0 : AC := (.seq (.seq (.post (.reg [⟨(some 8), .op (.mv (.tmp 4)), none⟩,
    ⟨(some 9), .op (.mv (.tmp 0)), none⟩,
    ⟨(some 10), .op (.len false (.tmp 9)), none⟩,
    ⟨(some 11), .op (.bin .lss (.tmp 8) (.tmp 10)), none⟩]) (.kill [8, 9, 10]))
  (.cond (.tmp 11) (.ghost (.kill [11]) .skip)
  (.ghost (.kill [0, 4, 11]) (.exit 0))))
  (.seq (.block 1 (.post (.reg [⟨(some 14), .op (.mv (.tmp 3)), none⟩,
    ⟨(some 15), .op (.mv (.tmp 4)), none⟩,
    ⟨(some 16), .op (.mv (.tmp 0)), none⟩,
    ⟨(some 17), .op (.mv (.tmp 4)), none⟩,
    ⟨(some 18), .op (.iaddrS (.tmp 16) (.tmp 17) 1), none⟩,
    ⟨(some 19), .op (.load 1 false (.tmp 18)), none⟩,
    ⟨(some 20), .call (.func i_laws_toOutMoveSS) [(.tmp 19)], none⟩,
    ⟨(some 21), .op (.iaddrS (.tmp 14) (.tmp 15) 1), none⟩,
    ⟨none, .op (.store 1 (.tmp 21) (.tmp 20)), none⟩]) (.kill [14, 15, 16, 17, 18, 19, 20, 21])))
  (.post (.reg [⟨(some 12), .op (.mv (.tmp 4)), none⟩,
    ⟨(some 13), .op (.bin .add (.tmp 12) (.const (Value.int .i64 1))), none⟩,
    ⟨(some 4), .op (.mv (.tmp 13)), none⟩]) (.kill [12, 13]))))
def lo_laws_toOutMoveSSS_0 : AC := (.loop lb_laws_toOutMoveSSS_0)
def ac_laws_toOutMoveSSS : AC := (.seq (.post (.reg [⟨(some 2), .op (.mv (.const (Value.slice none 0 0))), none⟩]) (.kill [2]))
  (.seq (.post (.reg [⟨(some 5), .op (.mv (.tmp 0)), none⟩,
    ⟨(some 6), .op (.len false (.tmp 5)), none⟩,
    ⟨(some 7), .op (.make (.tmp 6) (.tmp 6) 1 24 (Value.slice none 0 0)), none⟩,
    ⟨(some 3), .op (.mv (.tmp 7)), none⟩]) (.kill [5, 6, 7]))
  (.seq (.seq (.reg [⟨(some 4), .op (.mv (.const (Value.int .i64 0))), none⟩])
  (.block 0 lo_laws_toOutMoveSSS_0))
  (.ghost (.kill [0, 4]) (.seq (.post (.reg [⟨(some 22), .op (.mv (.tmp 3)), none⟩,
    ⟨(some 2), .op (.mv (.tmp 22)), none⟩]) (.kill [3, 22]))
  .ret)))))
theorem cf_laws_toOutMoveSSS : chkFn Try.prog i_laws_toOutMoveSSS ac_laws_toOutMoveSSS [.tmp 2] 23 = true := by decide +kernel
def fa_laws_toOutMoveSSS : FnA := ⟨ac_laws_toOutMoveSSS, [.tmp 2], 23, false, false, [], .any, none⟩

/-- The checked code of laws toRewriter. -/
def ac_laws_toRewriter : AC := (.seq (.post (.reg [⟨(some 1), .op (.box true (.tmp 0)), none⟩,
    ⟨(some 2), .op (.alloc (Value.agg #[Value.int .i64 0, Value.int .i64 0, Value.slice none 0 0, Value.slice none 0 0, Value.slice none 0 0])), none⟩]) (.kill [0]))
  (.seq (.reg [⟨(some 3), .op (.alloc (Value.agg #[Value.int .i64 0, Value.int .i64 0, Value.slice none 0 0, Value.slice none 0 0, Value.slice none 0 0])), none⟩])
  (.seq (.post (.reg [⟨(some 4), .op (.faddr (.tmp 1) 0), none⟩,
    ⟨(some 5), .op (.load 1 false (.tmp 4)), none⟩,
    ⟨(some 6), .op (.faddr (.tmp 3) 0), none⟩,
    ⟨none, .op (.store 1 (.tmp 6) (.tmp 5)), none⟩]) (.kill [4, 5, 6]))
  (.seq (.post (.reg [⟨(some 7), .op (.faddr (.tmp 1) 1), none⟩,
    ⟨(some 8), .op (.load 1 false (.tmp 7)), none⟩,
    ⟨(some 9), .op (.faddr (.tmp 3) 1), none⟩,
    ⟨none, .op (.store 1 (.tmp 9) (.tmp 8)), none⟩]) (.kill [7, 8, 9]))
  (.seq (.post (.reg [⟨(some 10), .op (.faddr (.tmp 1) 2), none⟩,
    ⟨(some 11), .op (.load 1 false (.tmp 10)), none⟩,
    ⟨(some 12), .call (.func i_laws_toOutPushSS) [(.tmp 11)], none⟩,
    ⟨(some 13), .op (.faddr (.tmp 3) 2), none⟩,
    ⟨none, .op (.store 1 (.tmp 13) (.tmp 12)), none⟩]) (.kill [10, 11, 12, 13]))
  (.seq (.post (.reg [⟨(some 14), .op (.faddr (.tmp 1) 3), none⟩,
    ⟨(some 15), .op (.load 1 false (.tmp 14)), none⟩,
    ⟨(some 16), .call (.func i_laws_toOutMoveSSS) [(.tmp 15)], none⟩,
    ⟨(some 17), .op (.faddr (.tmp 3) 3), none⟩,
    ⟨none, .op (.store 1 (.tmp 17) (.tmp 16)), none⟩]) (.kill [14, 15, 16, 17]))
  (.seq (.post (.reg [⟨(some 18), .op (.faddr (.tmp 1) 4), none⟩,
    ⟨(some 19), .op (.load 1 false (.tmp 18)), none⟩,
    ⟨(some 20), .call (.func i_laws_toOutMoveSS) [(.tmp 19)], none⟩,
    ⟨(some 21), .op (.faddr (.tmp 3) 4), none⟩,
    ⟨none, .op (.store 1 (.tmp 21) (.tmp 20)), none⟩]) (.kill [1, 18, 19, 20, 21]))
  (.seq (.post (.reg [⟨(some 22), .op (.load 5 true (.tmp 3)), none⟩,
    ⟨none, .op (.store 5 (.tmp 2) (.tmp 22)), none⟩]) (.kill [3, 22]))
  .ret))))))))
theorem cf_laws_toRewriter : chkFn Try.prog i_laws_toRewriter ac_laws_toRewriter [.cell 2 5 true] 23 = true := by decide +kernel
def fa_laws_toRewriter : FnA := ⟨ac_laws_toRewriter, [.cell 2 5 true], 23, false, false, [], .any, none⟩

/-- The checked code of laws toInt64S. -/
def lb_laws_toInt64S_0 : AC := (.seq (.seq (.post (.reg [⟨(some 8), .op (.mv (.tmp 4)), none⟩,
    ⟨(some 9), .op (.mv (.tmp 0)), none⟩,
    ⟨(some 10), .op (.len false (.tmp 9)), none⟩,
    ⟨(some 11), .op (.bin .lss (.tmp 8) (.tmp 10)), none⟩]) (.kill [8, 9, 10]))
  (.cond (.tmp 11) (.ghost (.kill [11]) .skip)
  (.ghost (.kill [0, 4, 11]) (.exit 0))))
  (.seq (.block 1 (.post (.reg [⟨(some 14), .op (.mv (.tmp 3)), none⟩,
    ⟨(some 15), .op (.mv (.tmp 4)), none⟩,
    ⟨(some 16), .op (.mv (.tmp 0)), none⟩,
    ⟨(some 17), .op (.mv (.tmp 4)), none⟩,
    ⟨(some 18), .op (.iaddrS (.tmp 16) (.tmp 17) 1), none⟩,
    ⟨(some 19), .op (.load 1 false (.tmp 18)), none⟩,
    ⟨(some 20), .op (.iaddrS (.tmp 14) (.tmp 15) 1), none⟩,
    ⟨none, .op (.store 1 (.tmp 20) (.tmp 19)), none⟩]) (.kill [14, 15, 16, 17, 18, 19, 20])))
  (.post (.reg [⟨(some 12), .op (.mv (.tmp 4)), none⟩,
    ⟨(some 13), .op (.bin .add (.tmp 12) (.const (Value.int .i64 1))), none⟩,
    ⟨(some 4), .op (.mv (.tmp 13)), none⟩]) (.kill [12, 13]))))
def lo_laws_toInt64S_0 : AC := (.loop lb_laws_toInt64S_0)
def ac_laws_toInt64S : AC := (.seq (.post (.reg [⟨(some 2), .op (.mv (.const (Value.slice none 0 0))), none⟩]) (.kill [2]))
  (.seq (.post (.reg [⟨(some 5), .op (.mv (.tmp 0)), none⟩,
    ⟨(some 6), .op (.len false (.tmp 5)), none⟩,
    ⟨(some 7), .op (.make (.tmp 6) (.tmp 6) 1 8 (Value.int .i64 0)), none⟩,
    ⟨(some 3), .op (.mv (.tmp 7)), none⟩]) (.kill [5, 6, 7]))
  (.seq (.seq (.reg [⟨(some 4), .op (.mv (.const (Value.int .i64 0))), none⟩])
  (.block 0 lo_laws_toInt64S_0))
  (.ghost (.kill [0, 4]) (.seq (.post (.reg [⟨(some 21), .op (.mv (.tmp 3)), none⟩,
    ⟨(some 2), .op (.mv (.tmp 21)), none⟩]) (.kill [3, 21]))
  .ret)))))
theorem cf_laws_toInt64S : chkFn Try.prog i_laws_toInt64S ac_laws_toInt64S [.tmp 2] 22 = true := by decide +kernel
def fa_laws_toInt64S : FnA := ⟨ac_laws_toInt64S, [.tmp 2], 22, false, false, [], .any, none⟩

/-- The checked code of stringslite IndexByte. -/
def ac_internal_stringslite_IndexByte : AC := (.seq (.post (.reg [⟨(some 4), .op (.mv (.const (Value.int .i64 0))), none⟩]) (.kill [4]))
  (.seq (.post (.reg [⟨(some 5), .op (.mv (.tmp 0)), none⟩,
    ⟨(some 6), .op (.mv (.tmp 1)), none⟩,
    ⟨(some 7), .op (.idxb i_internal_bytealg_IndexByteString (.tmp 5) (.tmp 6)), none⟩,
    ⟨(some 4), .op (.mv (.tmp 7)), none⟩]) (.kill [0, 1, 5, 6, 7]))
  .ret))
theorem cf_internal_stringslite_IndexByte : chkFn Try.prog i_internal_stringslite_IndexByte ac_internal_stringslite_IndexByte [.tmp 4] 8 = true := by decide +kernel
def fa_internal_stringslite_IndexByte : FnA := ⟨ac_internal_stringslite_IndexByte, [.tmp 4], 8, false, true, [], .any, none⟩

/-- The checked code of strings IndexByte. -/
def ac_strings_IndexByte : AC := (.seq (.post (.reg [⟨(some 4), .op (.mv (.const (Value.int .i64 0))), none⟩]) (.kill [4]))
  (.seq (.post (.reg [⟨(some 5), .op (.mv (.tmp 0)), none⟩,
    ⟨(some 6), .op (.mv (.tmp 1)), none⟩,
    ⟨(some 7), .call (.func i_internal_stringslite_IndexByte) [(.tmp 5), (.tmp 6)], none⟩,
    ⟨(some 4), .op (.mv (.tmp 7)), none⟩]) (.kill [0, 1, 5, 6, 7]))
  .ret))
theorem cf_strings_IndexByte : chkFn Try.prog i_strings_IndexByte ac_strings_IndexByte [.tmp 4] 8 = true := by decide +kernel
def fa_strings_IndexByte : FnA := ⟨ac_strings_IndexByte, [.tmp 4], 8, false, true, [], .any, none⟩

/-- The checked code of impl ValidWord. -/
def lb_impl_ValidWord_0 : AC := (.seq (.reg [⟨(some 7), .op (.bin .lss (.tmp 6) (.tmp 5)), none⟩])
  (.seq (.cond (.tmp 7) (.ghost (.kill [7]) .skip)
  (.ghost (.kill [5, 6, 7]) (.exit 0)))
  (.seq (.block 1 (.seq (.post (.reg [⟨(some 8), .op (.mv (.tmp 6)), none⟩,
    ⟨(some 3), .op (.mv (.tmp 8)), none⟩]) (.kill [8]))
  (.seq (.post (.reg [⟨(some 9), .op (.mv (.tmp 0)), none⟩,
    ⟨(some 10), .op (.mv (.tmp 3)), none⟩,
    ⟨(some 11), .op (.idxStr (.tmp 9) (.tmp 10)), none⟩,
    ⟨(some 12), .call (.func i_strings_IndexByte) [(.const (Value.string ⟨#[40, 91, 41, 93, 97, 98]⟩)), (.tmp 11)], none⟩,
    ⟨(some 13), .op (.bin .lss (.tmp 12) (.const (Value.int .i64 0))), none⟩]) (.kill [3, 9, 10, 11, 12]))
  (.cond (.tmp 13) (.ghost (.kill [0, 5, 6, 13]) (.seq (.reg [⟨(some 2), .op (.mv (.const (Value.bool false))), none⟩])
  .ret))
  (.ghost (.kill [13]) .skip)))))
  (.post (.reg [⟨(some 14), .op (.bin .add (.tmp 6) (.const (Value.int .i64 1))), none⟩,
    ⟨(some 6), .op (.mv (.tmp 14)), none⟩]) (.kill [14])))))
def lo_impl_ValidWord_0 : AC := (.loop lb_impl_ValidWord_0)
def ac_impl_ValidWord : AC := (.seq (.post (.reg [⟨(some 2), .op (.mv (.const (Value.bool false))), none⟩]) (.kill [2]))
  (.seq (.seq (.post (.reg [⟨(some 4), .op (.mv (.tmp 0)), none⟩,
    ⟨(some 5), .op (.len true (.tmp 4)), none⟩,
    ⟨(some 6), .op (.mv (.const (Value.int .i64 0))), none⟩]) (.kill [4]))
  (.block 0 lo_impl_ValidWord_0))
  (.ghost (.kill [5, 6]) (.seq (.post (.reg [⟨(some 15), .op (.mv (.tmp 0)), none⟩,
    ⟨(some 16), .op (.len true (.tmp 15)), none⟩,
    ⟨(some 17), .op (.bin .leq (.tmp 16) (.const (Value.int .i64 60))), none⟩,
    ⟨(some 2), .op (.mv (.tmp 17)), none⟩]) (.kill [0, 15, 16, 17]))
  .ret))))
theorem cf_impl_ValidWord : chkFn Try.prog i_impl_ValidWord ac_impl_ValidWord [.tmp 2] 18 = true := by decide +kernel
def fa_impl_ValidWord : FnA := ⟨ac_impl_ValidWord, [.tmp 2], 18, false, true, [], .any, none⟩

/-- The checked code of slices IndexFunc   int64 int64 . -/
def lb_slices_IndexFunc_L_int64_0 : AC := (.seq (.reg [⟨(some 9), .op (.bin .lss (.tmp 8) (.tmp 7)), none⟩])
  (.seq (.cond (.tmp 9) (.ghost (.kill [9]) .skip)
  (.ghost (.kill [0, 1, 7, 8, 9]) (.exit 0)))
  (.seq (.block 1 (.seq (.post (.reg [⟨(some 10), .op (.mv (.tmp 8)), none⟩,
    ⟨(some 5), .op (.mv (.tmp 10)), none⟩]) (.kill [10]))
  (.seq (.post (.reg [⟨(some 11), .op (.mv (.tmp 1)), none⟩,
    ⟨(some 12), .op (.mv (.tmp 0)), none⟩,
    ⟨(some 13), .op (.mv (.tmp 5)), none⟩,
    ⟨(some 14), .op (.iaddrS (.tmp 12) (.tmp 13) 1), none⟩,
    ⟨(some 15), .op (.load 1 false (.tmp 14)), none⟩,
    ⟨(some 16), .call (.tmp 11) [(.tmp 15)], none⟩]) (.kill [11, 12, 13, 14, 15]))
  (.cond (.tmp 16) (.ghost (.kill [0, 1, 7, 8, 16]) (.seq (.post (.reg [⟨(some 17), .op (.mv (.tmp 5)), none⟩,
    ⟨(some 4), .op (.mv (.tmp 17)), none⟩]) (.kill [5, 17]))
  .ret))
  (.ghost (.kill [5, 16]) .skip)))))
  (.post (.reg [⟨(some 18), .op (.bin .add (.tmp 8) (.const (Value.int .i64 1))), none⟩,
    ⟨(some 8), .op (.mv (.tmp 18)), none⟩]) (.kill [18])))))
def lo_slices_IndexFunc_L_int64_0 : AC := (.loop lb_slices_IndexFunc_L_int64_0)
def ac_slices_IndexFunc_L_int64 : AC := (.seq (.post (.reg [⟨(some 4), .op (.mv (.const (Value.int .i64 0))), none⟩]) (.kill [4]))
  (.seq (.seq (.post (.reg [⟨(some 6), .op (.mv (.tmp 0)), none⟩,
    ⟨(some 7), .op (.len false (.tmp 6)), none⟩,
    ⟨(some 8), .op (.mv (.const (Value.int .i64 0))), none⟩]) (.kill [6]))
  (.block 0 lo_slices_IndexFunc_L_int64_0))
  (.ghost (.kill [0, 1, 7, 8]) (.seq (.reg [⟨(some 4), .op (.mv (.const (Value.int .i64 (-1)))), none⟩])
  .ret))))
theorem cf_slices_IndexFunc_L_int64 : chkFn Try.prog i_slices_IndexFunc_L_int64 ac_slices_IndexFunc_L_int64 [.tmp 4] 19 = true := by decide +kernel
def fa_slices_IndexFunc_L_int64 : FnA := ⟨ac_slices_IndexFunc_L_int64, [.tmp 4], 19, false, true, [], .any, none⟩

/-- The checked code of slices ContainsFunc   int64 int64 . -/
def ac_slices_ContainsFunc_L_int64 : AC := (.seq (.post (.reg [⟨(some 4), .op (.mv (.const (Value.bool false))), none⟩]) (.kill [4]))
  (.seq (.post (.reg [⟨(some 5), .op (.mv (.tmp 0)), none⟩,
    ⟨(some 6), .op (.mv (.tmp 1)), none⟩,
    ⟨(some 7), .call (.func i_slices_IndexFunc_L_int64) [(.tmp 5), (.tmp 6)], none⟩,
    ⟨(some 8), .op (.bin .geq (.tmp 7) (.const (Value.int .i64 0))), none⟩,
    ⟨(some 4), .op (.mv (.tmp 8)), none⟩]) (.kill [0, 1, 5, 6, 7, 8]))
  .ret))
theorem cf_slices_ContainsFunc_L_int64 : chkFn Try.prog i_slices_ContainsFunc_L_int64 ac_slices_ContainsFunc_L_int64 [.tmp 4] 9 = true := by decide +kernel
def fa_slices_ContainsFunc_L_int64 : FnA := ⟨ac_slices_ContainsFunc_L_int64, [.tmp 4], 9, false, true, [], .any, none⟩

/-- The checked code of impl within. -/
def ac_impl_within : AC := (.seq (.post (.reg [⟨(some 6), .op (.mv (.const (Value.bool false))), none⟩]) (.kill [6]))
  (.seq (.post (.reg [⟨(some 7), .op (.mv (.tmp 0)), none⟩,
    ⟨(some 8), .op (.mv (.tmp 1)), none⟩,
    ⟨(some 9), .op (.bin .geq (.tmp 7) (.tmp 8)), none⟩,
    ⟨(some 10), .op (.mv (.tmp 9)), none⟩,
    ⟨(some 11), .op (.mv (.tmp 0)), some (10, true)⟩,
    ⟨(some 12), .op (.mv (.tmp 2)), some (10, true)⟩,
    ⟨(some 13), .op (.bin .leq (.tmp 11) (.tmp 12)), some (10, true)⟩,
    ⟨(some 14), .op (.pick (.tmp 10) (.tmp 13) (.const (Value.bool false))), none⟩,
    ⟨(some 6), .op (.mv (.tmp 14)), none⟩]) (.kill [0, 1, 2, 7, 8, 9, 10, 11, 12, 13, 14]))
  .ret))
theorem cf_impl_within : chkFn Try.prog i_impl_within ac_impl_within [.tmp 6] 15 = true := by decide +kernel
def fa_impl_within : FnA := ⟨ac_impl_within, [.tmp 6], 15, false, true, [], .any, none⟩

/-- The checked code of impl OutPush . -/
def ac_impl_size_L_impl_OutPush : AC := (.seq (.post (.reg [⟨(some 2), .op (.mv (.const (Value.int .i64 0))), none⟩]) (.kill [2]))
  (.seq (.post (.reg [⟨(some 3), .op (.mv (.tmp 0)), none⟩,
    ⟨(some 4), .op (.len false (.tmp 3)), none⟩,
    ⟨(some 2), .op (.mv (.tmp 4)), none⟩]) (.kill [0, 3, 4]))
  .ret))
theorem cf_impl_size_L_impl_OutPush : chkFn Try.prog i_impl_size_L_impl_OutPush ac_impl_size_L_impl_OutPush [.tmp 2] 5 = true := by decide +kernel
def fa_impl_size_L_impl_OutPush : FnA := ⟨ac_impl_size_L_impl_OutPush, [.tmp 2], 5, false, true, [], .any, none⟩

/-- The checked code of impl isOut. -/
def ac_impl_isOut : AC := (.seq (.post (.reg [⟨(some 2), .op (.mv (.const (Value.bool false))), none⟩]) (.kill [2]))
  (.seq (.post (.reg [⟨(some 3), .op (.mv (.tmp 0)), none⟩,
    ⟨(some 4), .call (.func i_impl_ValidWord) [(.tmp 3)], none⟩,
    ⟨(some 5), .op (.mv (.tmp 4)), none⟩,
    ⟨(some 6), .op (.mv (.tmp 0)), some (5, true)⟩,
    ⟨(some 7), .op (.len true (.tmp 6)), some (5, true)⟩,
    ⟨(some 8), .op (.bin .leq (.tmp 7) (.const (Value.int .i64 4))), some (5, true)⟩,
    ⟨(some 9), .op (.pick (.tmp 5) (.tmp 8) (.const (Value.bool false))), none⟩,
    ⟨(some 2), .op (.mv (.tmp 9)), none⟩]) (.kill [0, 3, 4, 5, 6, 7, 8, 9]))
  .ret))
theorem cf_impl_isOut : chkFn Try.prog i_impl_isOut ac_impl_isOut [.tmp 2] 10 = true := by decide +kernel
def fa_impl_isOut : FnA := ⟨ac_impl_isOut, [.tmp 2], 10, false, true, [], .any, none⟩

/-- The checked code of impl ValidRewriter 1. -/
def ac_impl_ValidRewriter_1 : AC := (.seq (.post (.reg [⟨(some 2), .op (.box true (.tmp 0)), none⟩,
    ⟨(some 3), .op (.mv (.const (Value.bool false))), none⟩]) (.kill [0, 3]))
  (.seq (.post (.reg [⟨(some 4), .op (.faddr (.tmp 2) 0), none⟩,
    ⟨(some 5), .op (.load 1 false (.tmp 4)), none⟩,
    ⟨(some 6), .op (.load 1 false (.tmp 1)), none⟩,
    ⟨(some 7), .op (.bin .sub (.tmp 6) (.const (Value.int .i64 1))), none⟩,
    ⟨(some 8), .call (.func i_impl_within) [(.tmp 5), (.const (Value.int .i64 0)), (.tmp 7)], none⟩,
    ⟨(some 9), .op (.mv (.tmp 8)), none⟩,
    ⟨(some 10), .op (.faddr (.tmp 2) 1), some (9, true)⟩,
    ⟨(some 11), .op (.load 1 false (.tmp 10)), some (9, true)⟩,
    ⟨(some 12), .call (.func i_impl_isOut) [(.tmp 11)], some (9, true)⟩,
    ⟨(some 13), .op (.pick (.tmp 9) (.tmp 12) (.const (Value.bool false))), none⟩,
    ⟨(some 3), .op (.mv (.tmp 13)), none⟩]) (.kill [1, 2, 4, 5, 6, 7, 8, 9, 10, 11, 12, 13]))
  .ret))
theorem cf_impl_ValidRewriter_1 : chkFn Try.prog i_impl_ValidRewriter_1 ac_impl_ValidRewriter_1 [.tmp 3] 14 = true := by decide +kernel
def fa_impl_ValidRewriter_1 : FnA := ⟨ac_impl_ValidRewriter_1, [.tmp 3], 14, false, true, [], .any, none⟩

/-- The checked code of impl OutMove . -/
def ac_impl_size_impl_OutMove : AC := (.seq (.post (.reg [⟨(some 2), .op (.mv (.const (Value.int .i64 0))), none⟩]) (.kill [2]))
  (.seq (.post (.reg [⟨(some 3), .op (.mv (.tmp 0)), none⟩,
    ⟨(some 4), .op (.len false (.tmp 3)), none⟩,
    ⟨(some 2), .op (.mv (.tmp 4)), none⟩]) (.kill [0, 3, 4]))
  .ret))
theorem cf_impl_size_impl_OutMove : chkFn Try.prog i_impl_size_impl_OutMove ac_impl_size_impl_OutMove [.tmp 2] 5 = true := by decide +kernel
def fa_impl_size_impl_OutMove : FnA := ⟨ac_impl_size_impl_OutMove, [.tmp 2], 5, false, true, [], .any, none⟩

/-- The checked code of impl OutMove . -/
def lb_slices_IndexFunc_L_impl_OutMove_0 : AC := (.seq (.reg [⟨(some 9), .op (.bin .lss (.tmp 8) (.tmp 7)), none⟩])
  (.seq (.cond (.tmp 9) (.ghost (.kill [9]) .skip)
  (.ghost (.kill [0, 1, 7, 8, 9]) (.exit 0)))
  (.seq (.block 1 (.seq (.post (.reg [⟨(some 10), .op (.mv (.tmp 8)), none⟩,
    ⟨(some 5), .op (.mv (.tmp 10)), none⟩]) (.kill [10]))
  (.seq (.post (.reg [⟨(some 11), .op (.mv (.tmp 1)), none⟩,
    ⟨(some 12), .op (.mv (.tmp 0)), none⟩,
    ⟨(some 13), .op (.mv (.tmp 5)), none⟩,
    ⟨(some 14), .op (.iaddrS (.tmp 12) (.tmp 13) 2), none⟩,
    ⟨(some 15), .op (.load 2 true (.tmp 14)), none⟩,
    ⟨(some 16), .call (.tmp 11) [(.tmp 15)], none⟩]) (.kill [11, 12, 13, 14, 15]))
  (.cond (.tmp 16) (.ghost (.kill [0, 1, 7, 8, 16]) (.seq (.post (.reg [⟨(some 17), .op (.mv (.tmp 5)), none⟩,
    ⟨(some 4), .op (.mv (.tmp 17)), none⟩]) (.kill [5, 17]))
  .ret))
  (.ghost (.kill [5, 16]) .skip)))))
  (.post (.reg [⟨(some 18), .op (.bin .add (.tmp 8) (.const (Value.int .i64 1))), none⟩,
    ⟨(some 8), .op (.mv (.tmp 18)), none⟩]) (.kill [18])))))
def lo_slices_IndexFunc_L_impl_OutMove_0 : AC := (.loop lb_slices_IndexFunc_L_impl_OutMove_0)
def ac_slices_IndexFunc_L_impl_OutMove : AC := (.seq (.post (.reg [⟨(some 4), .op (.mv (.const (Value.int .i64 0))), none⟩]) (.kill [4]))
  (.seq (.seq (.post (.reg [⟨(some 6), .op (.mv (.tmp 0)), none⟩,
    ⟨(some 7), .op (.len false (.tmp 6)), none⟩,
    ⟨(some 8), .op (.mv (.const (Value.int .i64 0))), none⟩]) (.kill [6]))
  (.block 0 lo_slices_IndexFunc_L_impl_OutMove_0))
  (.ghost (.kill [0, 1, 7, 8]) (.seq (.reg [⟨(some 4), .op (.mv (.const (Value.int .i64 (-1)))), none⟩])
  .ret))))
theorem cf_slices_IndexFunc_L_impl_OutMove : chkFn Try.prog i_slices_IndexFunc_L_impl_OutMove ac_slices_IndexFunc_L_impl_OutMove [.tmp 4] 19 = true := by decide +kernel
def fa_slices_IndexFunc_L_impl_OutMove : FnA := ⟨ac_slices_IndexFunc_L_impl_OutMove, [.tmp 4], 19, false, true, [], .any, none⟩

/-- The checked code of impl OutMove . -/
def ac_slices_ContainsFunc_L_impl_OutMove : AC := (.seq (.post (.reg [⟨(some 4), .op (.mv (.const (Value.bool false))), none⟩]) (.kill [4]))
  (.seq (.post (.reg [⟨(some 5), .op (.mv (.tmp 0)), none⟩,
    ⟨(some 6), .op (.mv (.tmp 1)), none⟩,
    ⟨(some 7), .call (.func i_slices_IndexFunc_L_impl_OutMove) [(.tmp 5), (.tmp 6)], none⟩,
    ⟨(some 8), .op (.bin .geq (.tmp 7) (.const (Value.int .i64 0))), none⟩,
    ⟨(some 4), .op (.mv (.tmp 8)), none⟩]) (.kill [0, 1, 5, 6, 7, 8]))
  .ret))
theorem cf_slices_ContainsFunc_L_impl_OutMove : chkFn Try.prog i_slices_ContainsFunc_L_impl_OutMove ac_slices_ContainsFunc_L_impl_OutMove [.tmp 4] 9 = true := by decide +kernel
def fa_slices_ContainsFunc_L_impl_OutMove : FnA := ⟨ac_slices_ContainsFunc_L_impl_OutMove, [.tmp 4], 9, false, true, [], .any, none⟩

/-- The checked code of impl ValidRewriter 2 1. -/
def ac_impl_ValidRewriter_2_1 : AC := (.seq (.post (.reg [⟨(some 2), .op (.box true (.tmp 0)), none⟩,
    ⟨(some 3), .op (.mv (.const (Value.bool false))), none⟩]) (.kill [0, 3]))
  (.seq (.post (.reg [⟨(some 4), .op (.load 1 false (.tmp 1)), none⟩,
    ⟨(some 5), .op (.load 2 true (.tmp 2)), none⟩,
    ⟨(some 6), .call (.tmp 4) [(.tmp 5)], none⟩,
    ⟨(some 7), .op (.un .not (.tmp 6)), none⟩,
    ⟨(some 3), .op (.mv (.tmp 7)), none⟩]) (.kill [1, 2, 4, 5, 6, 7]))
  .ret))
theorem cf_impl_ValidRewriter_2_1 : chkFn Try.prog i_impl_ValidRewriter_2_1 ac_impl_ValidRewriter_2_1 [.tmp 3] 8 = true := by decide +kernel
def fa_impl_ValidRewriter_2_1 : FnA := ⟨ac_impl_ValidRewriter_2_1, [.tmp 3], 8, false, true, [], .any, none⟩

/-- The checked code of impl ValidRewriter 2. -/
def ac_impl_ValidRewriter_2 : AC := (.seq (.post (.reg [⟨(some 5), .op (.mv (.const (Value.bool false))), none⟩]) (.kill [5]))
  (.seq (.post (.reg [⟨(some 6), .op (.mv (.tmp 0)), none⟩,
    ⟨(some 7), .call (.func i_impl_size_impl_OutMove) [(.tmp 6)], none⟩,
    ⟨(some 8), .op (.mv (.tmp 1)), none⟩,
    ⟨(some 9), .op (.bin .eql (.tmp 7) (.tmp 8)), none⟩,
    ⟨(some 10), .op (.mv (.tmp 9)), none⟩,
    ⟨(some 11), .op (.mv (.tmp 0)), some (10, true)⟩,
    ⟨(some 12), .op (.mkfn i_impl_ValidRewriter_2_1 [(.tmp 2)]), some (10, true)⟩,
    ⟨(some 13), .call (.func i_slices_ContainsFunc_L_impl_OutMove) [(.tmp 11), (.tmp 12)], some (10, true)⟩,
    ⟨(some 14), .op (.un .not (.tmp 13)), some (10, true)⟩,
    ⟨(some 15), .op (.pick (.tmp 10) (.tmp 14) (.const (Value.bool false))), none⟩,
    ⟨(some 5), .op (.mv (.tmp 15)), none⟩]) (.kill [0, 1, 2, 6, 7, 8, 9, 10, 11, 12, 13, 14, 15]))
  .ret))
theorem cf_impl_ValidRewriter_2 : chkFn Try.prog i_impl_ValidRewriter_2 ac_impl_ValidRewriter_2 [.tmp 5] 16 = true := by decide +kernel
def fa_impl_ValidRewriter_2 : FnA := ⟨ac_impl_ValidRewriter_2, [.tmp 5], 16, false, true, [], .any, none⟩

/-- The checked code of impl OutMove . -/
def ac_impl_size_L_L_impl_OutMove : AC := (.seq (.post (.reg [⟨(some 2), .op (.mv (.const (Value.int .i64 0))), none⟩]) (.kill [2]))
  (.seq (.post (.reg [⟨(some 3), .op (.mv (.tmp 0)), none⟩,
    ⟨(some 4), .op (.len false (.tmp 3)), none⟩,
    ⟨(some 2), .op (.mv (.tmp 4)), none⟩]) (.kill [0, 3, 4]))
  .ret))
theorem cf_impl_size_L_L_impl_OutMove : chkFn Try.prog i_impl_size_L_L_impl_OutMove ac_impl_size_L_L_impl_OutMove [.tmp 2] 5 = true := by decide +kernel
def fa_impl_size_L_L_impl_OutMove : FnA := ⟨ac_impl_size_L_L_impl_OutMove, [.tmp 2], 5, false, true, [], .any, none⟩

/-- The checked code of impl OutMove . -/
def ac_impl_size_L_impl_OutMove : AC := (.seq (.post (.reg [⟨(some 2), .op (.mv (.const (Value.int .i64 0))), none⟩]) (.kill [2]))
  (.seq (.post (.reg [⟨(some 3), .op (.mv (.tmp 0)), none⟩,
    ⟨(some 4), .op (.len false (.tmp 3)), none⟩,
    ⟨(some 2), .op (.mv (.tmp 4)), none⟩]) (.kill [0, 3, 4]))
  .ret))
theorem cf_impl_size_L_impl_OutMove : chkFn Try.prog i_impl_size_L_impl_OutMove ac_impl_size_L_impl_OutMove [.tmp 2] 5 = true := by decide +kernel
def fa_impl_size_L_impl_OutMove : FnA := ⟨ac_impl_size_L_impl_OutMove, [.tmp 2], 5, false, true, [], .any, none⟩

/-- The checked code of impl ValidRewriter. -/
def lb_impl_ValidRewriter_0 : AC := (.post (.seq (.reg [⟨(some 76), .op (.bin .lss (.tmp 75) (.const (Value.int .i64 2))), none⟩])
  (.seq (.cond (.tmp 76) (.ghost (.kill [76]) .skip)
  (.ghost (.kill [6, 75, 76]) (.exit 2)))
  (.seq (.block 3 (.seq (.post (.reg [⟨(some 77), .op (.mv (.tmp 75)), none⟩,
    ⟨(some 7), .op (.mv (.tmp 77)), none⟩]) (.kill [77]))
  (.seq (.post (.reg [⟨(some 78), .op (.faddr (.tmp 1) 2), none⟩,
    ⟨(some 79), .op (.load 1 false (.tmp 78)), none⟩,
    ⟨(some 80), .op (.mv (.tmp 6)), none⟩,
    ⟨(some 81), .op (.iaddrS (.tmp 79) (.tmp 80) 1), none⟩,
    ⟨(some 82), .op (.load 1 false (.tmp 81)), none⟩,
    ⟨(some 83), .op (.mv (.tmp 7)), none⟩,
    ⟨(some 84), .op (.iaddrS (.tmp 82) (.tmp 83) 3), none⟩,
    ⟨(some 85), .op (.load 3 true (.tmp 84)), none⟩,
    ⟨(some 8), .op (.alloc (Value.agg #[Value.int .i64 0, Value.int .i64 0, Value.string ⟨#[]⟩])), none⟩,
    ⟨none, .op (.store 3 (.tmp 8) (.tmp 85)), none⟩]) (.kill [78, 79, 80, 81, 82, 83, 84, 85]))
  (.seq (.post (.draw [⟨0, ⟨(some 86), .op (.load 1 false (.tmp 4)), none⟩, []⟩,
    ⟨1, ⟨(some 87), .op (.faddr (.tmp 8) 0), none⟩, []⟩,
    ⟨2, ⟨(some 88), .op (.load 1 false (.tmp 87)), none⟩, []⟩,
    ⟨3, ⟨(some 89), .op (.faddr (.tmp 8) 2), none⟩, []⟩,
    ⟨4, ⟨(some 90), .op (.load 1 false (.tmp 89)), none⟩, []⟩,
    ⟨5, ⟨(some 91), .op (.build [Value.int .i64 0, Value.string ⟨#[]⟩] [(0, 1, (.tmp 88)), (1, 1, (.tmp 90))]), none⟩, []⟩,
    ⟨6, ⟨(some 92), .call (.tmp 86) [(.tmp 91)], none⟩, []⟩,
    ⟨7, ⟨(some 93), .op (.un .not (.tmp 92)), none⟩, []⟩,
    ⟨8, ⟨(some 94), .op (.mv (.tmp 93)), none⟩, []⟩,
    ⟨9, ⟨(some 95), .op (.faddr (.tmp 8) 1), some (94, false)⟩, []⟩,
    ⟨10, ⟨(some 96), .op (.load 1 false (.tmp 95)), some (94, false)⟩, []⟩,
    ⟨11, ⟨(some 97), .op (.faddr (.tmp 1) 0), some (94, false)⟩, []⟩,
    ⟨12, ⟨(some 98), .op (.load 1 false (.tmp 97)), some (94, false)⟩, []⟩,
    ⟨13, ⟨(some 99), .op (.bin .sub (.tmp 98) (.const (Value.int .i64 1))), some (94, false)⟩, []⟩,
    ⟨14, ⟨(some 100), .call (.func i_impl_within) [(.tmp 96), (.const (Value.int .i64 0)), (.tmp 99)], some (94, false)⟩, []⟩,
    ⟨15, ⟨(some 101), .op (.un .not (.tmp 100)), some (94, false)⟩, []⟩,
    ⟨16, ⟨(some 102), .op (.pick (.tmp 94) (.const (Value.bool true)) (.tmp 101)), none⟩, []⟩,
    ⟨17, ⟨(some 103), .op (.mv (.tmp 102)), none⟩, []⟩,
    ⟨18, ⟨(some 104), .op (.mv (.tmp 5)), some (103, false)⟩, []⟩,
    ⟨19, ⟨(some 105), .op (.faddr (.tmp 1) 3), some (103, false)⟩, []⟩,
    ⟨20, ⟨(some 106), .op (.load 1 false (.tmp 105)), some (103, false)⟩, []⟩,
    ⟨21, ⟨(some 107), .op (.mv (.tmp 6)), some (103, false)⟩, []⟩,
    ⟨22, ⟨(some 108), .op (.iaddrS (.tmp 106) (.tmp 107) 1), some (103, false)⟩, []⟩,
    ⟨23, ⟨(some 109), .op (.load 1 false (.tmp 108)), some (103, false)⟩, []⟩,
    ⟨24, ⟨(some 110), .op (.mv (.tmp 7)), some (103, false)⟩, []⟩,
    ⟨25, ⟨(some 111), .op (.iaddrS (.tmp 109) (.tmp 110) 1), some (103, false)⟩, []⟩,
    ⟨26, ⟨(some 112), .op (.load 1 false (.tmp 111)), some (103, false)⟩, []⟩,
    ⟨27, ⟨(some 113), .op (.faddr (.tmp 1) 0), some (103, false)⟩, []⟩,
    ⟨28, ⟨(some 114), .op (.load 1 false (.tmp 113)), some (103, false)⟩, []⟩,
    ⟨29, ⟨(some 115), .op (.bin .add (.tmp 114) (.const (Value.int .i64 1))), some (103, false)⟩, []⟩,
    ⟨30, ⟨(some 116), .call (.tmp 104) [(.tmp 112), (.tmp 115)], some (103, false)⟩, []⟩,
    ⟨31, ⟨(some 117), .op (.un .not (.tmp 116)), some (103, false)⟩, []⟩,
    ⟨32, ⟨(some 118), .op (.pick (.tmp 103) (.const (Value.bool true)) (.tmp 117)), none⟩, []⟩]
    [0, 0, 2, 0, 8, 30, 63, 127, 255, 511, 1023, 511, 2559, 6655, 16383, 32767, 65535, 131071, 262143, 262143, 786431, 262143, 3932159, 8126463, 262143, 33292287, 66846719, 262143, 134479871, 402915327, 1073741823, 2147483647, 4294967295]) (.kill [7, 8, 86, 87, 88, 89, 90, 91, 92, 93, 94, 95, 96, 97, 98, 99, 100, 101, 102, 103, 104, 105, 106, 107, 108, 109, 110, 111, 112, 113, 114, 115, 116, 117]))
  (.cond (.tmp 118) (.ghost (.kill [1, 4, 5, 6, 45, 46, 75, 118]) (.seq (.reg [⟨(some 2), .op (.mv (.const (Value.bool false))), none⟩])
  .ret))
  (.ghost (.kill [118]) .skip))))))
  (.post (.reg [⟨(some 119), .op (.bin .add (.tmp 75) (.const (Value.int .i64 1))), none⟩,
    ⟨(some 75), .op (.mv (.tmp 119)), none⟩]) (.kill [119]))))) .nv)
def lo_impl_ValidRewriter_0 : AC := (.loop lb_impl_ValidRewriter_0)
def lb_impl_ValidRewriter_1 : AC := (.post (.seq (.reg [⟨(some 47), .op (.bin .lss (.tmp 46) (.tmp 45)), none⟩])
  (.seq (.cond (.tmp 47) (.ghost (.kill [47]) .skip)
  (.ghost (.kill [1, 4, 5, 45, 46, 47]) (.exit 0)))
  (.seq (.block 1 (.seq (.post (.reg [⟨(some 48), .op (.mv (.tmp 46)), none⟩,
    ⟨(some 6), .op (.mv (.tmp 48)), none⟩]) (.kill [48]))
  (.seq (.seq (.post (.reg [⟨(some 49), .op (.faddr (.tmp 1) 2), none⟩,
    ⟨(some 50), .op (.load 1 false (.tmp 49)), none⟩,
    ⟨(some 51), .op (.mv (.tmp 6)), none⟩,
    ⟨(some 52), .op (.iaddrS (.tmp 50) (.tmp 51) 1), none⟩,
    ⟨(some 53), .op (.load 1 false (.tmp 52)), none⟩,
    ⟨(some 54), .op (.len false (.tmp 53)), none⟩,
    ⟨(some 55), .op (.bin .neq (.tmp 54) (.const (Value.int .i64 2))), none⟩,
    ⟨(some 56), .op (.mv (.tmp 55)), none⟩,
    ⟨(some 57), .op (.faddr (.tmp 1) 3), some (56, false)⟩,
    ⟨(some 58), .op (.load 1 false (.tmp 57)), some (56, false)⟩,
    ⟨(some 59), .op (.mv (.tmp 6)), some (56, false)⟩,
    ⟨(some 60), .op (.iaddrS (.tmp 58) (.tmp 59) 1), some (56, false)⟩,
    ⟨(some 61), .op (.load 1 false (.tmp 60)), some (56, false)⟩,
    ⟨(some 62), .op (.len false (.tmp 61)), some (56, false)⟩,
    ⟨(some 63), .op (.bin .neq (.tmp 62) (.const (Value.int .i64 2))), some (56, false)⟩,
    ⟨(some 64), .op (.pick (.tmp 56) (.const (Value.bool true)) (.tmp 63)), none⟩,
    ⟨(some 65), .op (.mv (.tmp 64)), none⟩,
    ⟨(some 66), .op (.mv (.tmp 5)), some (65, false)⟩,
    ⟨(some 67), .op (.faddr (.tmp 1) 4), some (65, false)⟩,
    ⟨(some 68), .op (.load 1 false (.tmp 67)), some (65, false)⟩,
    ⟨(some 69), .op (.mv (.tmp 6)), some (65, false)⟩,
    ⟨(some 70), .op (.iaddrS (.tmp 68) (.tmp 69) 1), some (65, false)⟩,
    ⟨(some 71), .op (.load 1 false (.tmp 70)), some (65, false)⟩,
    ⟨(some 72), .call (.tmp 66) [(.tmp 71), (.const (Value.int .i64 2))], some (65, false)⟩,
    ⟨(some 73), .op (.un .not (.tmp 72)), some (65, false)⟩,
    ⟨(some 74), .op (.pick (.tmp 65) (.const (Value.bool true)) (.tmp 73)), none⟩]) (.kill [49, 50, 51, 52, 53, 54, 55, 56, 57, 58, 59, 60, 61, 62, 63, 64, 65, 66, 67, 68, 69, 70, 71, 72, 73]))
  (.cond (.tmp 74) (.ghost (.kill [1, 4, 5, 6, 45, 46, 74]) (.seq (.reg [⟨(some 2), .op (.mv (.const (Value.bool false))), none⟩])
  .ret))
  (.ghost (.kill [74]) .skip)))
  (.seq (.reg [⟨(some 75), .op (.mv (.const (Value.int .i64 0))), none⟩])
  (.post (.block 2 (.ghost .nv lo_impl_ValidRewriter_0)) .nv)))))
  (.ghost (.kill [6, 75]) (.post (.reg [⟨(some 120), .op (.bin .add (.tmp 46) (.const (Value.int .i64 1))), none⟩,
    ⟨(some 46), .op (.mv (.tmp 120)), none⟩]) (.kill [120])))))) .nv)
def lo_impl_ValidRewriter_1 : AC := (.loop lb_impl_ValidRewriter_1)
def ac_impl_ValidRewriter : AC := (.seq (.post (.reg [⟨(some 1), .op (.box true (.tmp 0)), none⟩,
    ⟨(some 2), .op (.mv (.const (Value.bool false))), none⟩]) (.kill [0, 2]))
  (.seq (.post (.reg [⟨(some 9), .op (.faddr (.tmp 1) 2), none⟩,
    ⟨(some 10), .op (.load 1 false (.tmp 9)), none⟩,
    ⟨(some 11), .call (.func i_impl_size_L_impl_OutPush) [(.tmp 10)], none⟩,
    ⟨(some 3), .op (.alloc (Value.int .i64 0)), none⟩,
    ⟨none, .op (.store 1 (.tmp 3) (.tmp 11)), none⟩]) (.kill [9, 10, 11]))
  (.seq (.post (.reg [⟨(some 12), .op (.mkfn i_impl_ValidRewriter_1 [(.tmp 3)]), none⟩,
    ⟨(some 4), .op (.alloc (Value.nilFunc)), none⟩,
    ⟨none, .op (.store 1 (.tmp 4) (.tmp 12)), none⟩]) (.kill [12]))
  (.seq (.post (.reg [⟨(some 13), .op (.mkfn i_impl_ValidRewriter_2 [(.tmp 4)]), none⟩,
    ⟨(some 5), .op (.mv (.tmp 13)), none⟩]) (.kill [13]))
  (.seq (.seq (.post (.draw [⟨0, ⟨(some 14), .op (.load 1 false (.tmp 3)), none⟩, []⟩,
    ⟨1, ⟨(some 15), .call (.func i_impl_within) [(.tmp 14), (.const (Value.int .i64 1)), (.const (Value.int .i64 8))], none⟩, []⟩,
    ⟨2, ⟨(some 16), .op (.un .not (.tmp 15)), none⟩, []⟩,
    ⟨3, ⟨(some 17), .op (.mv (.tmp 16)), none⟩, []⟩,
    ⟨4, ⟨(some 18), .op (.faddr (.tmp 1) 0), some (17, false)⟩, []⟩,
    ⟨5, ⟨(some 19), .op (.load 1 false (.tmp 18)), some (17, false)⟩, []⟩,
    ⟨6, ⟨(some 20), .call (.func i_impl_within) [(.tmp 19), (.const (Value.int .i64 1)), (.const (Value.int .i64 8))], some (17, false)⟩, []⟩,
    ⟨7, ⟨(some 21), .op (.un .not (.tmp 20)), some (17, false)⟩, []⟩,
    ⟨8, ⟨(some 22), .op (.pick (.tmp 17) (.const (Value.bool true)) (.tmp 21)), none⟩, []⟩,
    ⟨9, ⟨(some 23), .op (.mv (.tmp 22)), none⟩, []⟩,
    ⟨10, ⟨(some 24), .op (.faddr (.tmp 1) 1), some (23, false)⟩, []⟩,
    ⟨11, ⟨(some 25), .op (.load 1 false (.tmp 24)), some (23, false)⟩, []⟩,
    ⟨12, ⟨(some 26), .op (.load 1 false (.tmp 3)), some (23, false)⟩, []⟩,
    ⟨13, ⟨(some 27), .op (.bin .sub (.tmp 26) (.const (Value.int .i64 1))), some (23, false)⟩, []⟩,
    ⟨14, ⟨(some 28), .call (.func i_impl_within) [(.tmp 25), (.const (Value.int .i64 0)), (.tmp 27)], some (23, false)⟩, []⟩,
    ⟨15, ⟨(some 29), .op (.un .not (.tmp 28)), some (23, false)⟩, []⟩,
    ⟨16, ⟨(some 30), .op (.pick (.tmp 23) (.const (Value.bool true)) (.tmp 29)), none⟩, []⟩,
    ⟨17, ⟨(some 31), .op (.mv (.tmp 30)), none⟩, []⟩,
    ⟨18, ⟨(some 32), .op (.faddr (.tmp 1) 3), some (31, false)⟩, []⟩,
    ⟨19, ⟨(some 33), .op (.load 1 false (.tmp 32)), some (31, false)⟩, []⟩,
    ⟨21, ⟨(some 35), .op (.load 1 false (.tmp 3)), some (31, false)⟩, []⟩,
    ⟨20, ⟨(some 34), .call (.func i_impl_size_L_L_impl_OutMove) [(.tmp 33)], some (31, false)⟩, [21]⟩,
    ⟨22, ⟨(some 36), .op (.bin .neq (.tmp 34) (.tmp 35)), some (31, false)⟩, []⟩,
    ⟨23, ⟨(some 37), .op (.pick (.tmp 31) (.const (Value.bool true)) (.tmp 36)), none⟩, []⟩,
    ⟨24, ⟨(some 38), .op (.mv (.tmp 37)), none⟩, []⟩,
    ⟨25, ⟨(some 39), .op (.faddr (.tmp 1) 4), some (38, false)⟩, []⟩,
    ⟨26, ⟨(some 40), .op (.load 1 false (.tmp 39)), some (38, false)⟩, []⟩,
    ⟨28, ⟨(some 42), .op (.load 1 false (.tmp 3)), some (38, false)⟩, []⟩,
    ⟨27, ⟨(some 41), .call (.func i_impl_size_L_impl_OutMove) [(.tmp 40)], some (38, false)⟩, [28]⟩,
    ⟨29, ⟨(some 43), .op (.bin .neq (.tmp 41) (.tmp 42)), some (38, false)⟩, []⟩,
    ⟨30, ⟨(some 44), .op (.pick (.tmp 38) (.const (Value.bool true)) (.tmp 43)), none⟩, []⟩]
    [0, 1, 3, 7, 15, 31, 63, 127, 255, 511, 1023, 2047, 1023, 5119, 16383, 32767, 65535, 131071, 262143, 524287, 1048575, 262143, 4194303, 8388607, 16777215, 33554431, 67108863, 134217727, 33554431, 536870911, 1073741823]) (.kill [14, 15, 16, 17, 18, 19, 20, 21, 22, 23, 24, 25, 26, 27, 28, 29, 30, 31, 32, 33, 34, 35, 36, 37, 38, 39, 40, 41, 42, 43]))
  (.cond (.tmp 44) (.ghost (.kill [1, 3, 4, 5, 44]) (.seq (.reg [⟨(some 2), .op (.mv (.const (Value.bool false))), none⟩])
  .ret))
  (.ghost (.kill [44]) .skip)))
  (.seq (.seq (.post (.reg [⟨(some 45), .op (.load 1 false (.tmp 3)), none⟩,
    ⟨(some 46), .op (.mv (.const (Value.int .i64 0))), none⟩]) (.kill [3]))
  (.post (.block 0 (.ghost .nv lo_impl_ValidRewriter_1)) .nv))
  (.ghost (.kill [1, 4, 5, 45, 46]) (.seq (.reg [⟨(some 2), .op (.mv (.const (Value.bool true))), none⟩])
  .ret))))))))
theorem cf_impl_ValidRewriter : chkFn Try.prog i_impl_ValidRewriter ac_impl_ValidRewriter [.tmp 2] 121 = true := by decide +kernel
def fa_impl_ValidRewriter : FnA := ⟨ac_impl_ValidRewriter, [.tmp 2], 121, false, true, [], .any, none⟩

/-- The checked code of impl RewriteOn 1. -/
def ac_impl_RewriteOn_1 : AC := (.seq (.post (.reg [⟨(some 3), .op (.mv (.const (Value.bool false))), none⟩]) (.kill [3]))
  (.seq (.post (.reg [⟨(some 4), .op (.mv (.tmp 0)), none⟩,
    ⟨(some 5), .op (.faddr (.tmp 1) 0), none⟩,
    ⟨(some 6), .op (.load 1 false (.tmp 5)), none⟩,
    ⟨(some 7), .op (.bin .sub (.tmp 6) (.const (Value.int .i64 1))), none⟩,
    ⟨(some 8), .call (.func i_impl_within) [(.tmp 4), (.const (Value.int .i64 0)), (.tmp 7)], none⟩,
    ⟨(some 9), .op (.un .not (.tmp 8)), none⟩,
    ⟨(some 3), .op (.mv (.tmp 9)), none⟩]) (.kill [0, 1, 4, 5, 6, 7, 8, 9]))
  .ret))
theorem cf_impl_RewriteOn_1 : chkFn Try.prog i_impl_RewriteOn_1 ac_impl_RewriteOn_1 [.tmp 3] 10 = true := by decide +kernel
def fa_impl_RewriteOn_1 : FnA := ⟨ac_impl_RewriteOn_1, [.tmp 3], 10, false, true, [], .any, none⟩

/-- The checked code of slices Clone   int64 int64 . -/
def ac_slices_Clone_L_int64 : AC := (.seq (.post (.reg [⟨(some 2), .op (.mv (.const (Value.slice none 0 0))), none⟩]) (.kill [2]))
  (.seq (.seq (.post (.reg [⟨(some 3), .op (.mv (.tmp 0)), none⟩,
    ⟨(some 4), .op (.eqnil false false .s (.tmp 3)), none⟩]) (.kill [3]))
  (.cond (.tmp 4) (.ghost (.kill [0, 4]) (.seq (.reg [⟨(some 2), .op (.mv (.const (Value.slice none 0 0))), none⟩])
  .ret))
  (.ghost (.kill [4]) .skip)))
  (.seq (.post (.post (.reg [⟨(some 5), .op (.lits true 1 0 (Value.int .i64 0) []), none⟩,
    ⟨(some 6), .op (.mv (.tmp 0)), none⟩,
    ⟨(some 7), .op (.append (.tmp 5) (.tmp 6) 1 8), none⟩,
    ⟨(some 2), .op (.mv (.tmp 7)), none⟩]) (.kill [0, 5, 6, 7])) .nv)
  .ret)))
theorem cf_slices_Clone_L_int64 : chkFn Try.prog i_slices_Clone_L_int64 ac_slices_Clone_L_int64 [.tmp 2] 8 = true := by decide +kernel
def fa_slices_Clone_L_int64 : FnA := ⟨ac_slices_Clone_L_int64, [.tmp 2], 8, false, false, [], .any, none⟩

/-- The checked code of impl isCall. -/
def ac_impl_isCall : AC := (.seq (.post (.reg [⟨(some 2), .op (.mv (.const (Value.bool false))), none⟩]) (.kill [2]))
  (.seq (.post (.reg [⟨(some 3), .op (.mv (.tmp 0)), none⟩,
    ⟨(some 4), .op (.bin .eql (.tmp 3) (.const (Value.int .u8 40))), none⟩,
    ⟨(some 5), .op (.mv (.tmp 4)), none⟩,
    ⟨(some 6), .op (.mv (.tmp 0)), some (5, false)⟩,
    ⟨(some 7), .op (.bin .eql (.tmp 6) (.const (Value.int .u8 91))), some (5, false)⟩,
    ⟨(some 8), .op (.pick (.tmp 5) (.const (Value.bool true)) (.tmp 7)), none⟩,
    ⟨(some 2), .op (.mv (.tmp 8)), none⟩]) (.kill [0, 3, 4, 5, 6, 7, 8]))
  .ret))
theorem cf_impl_isCall : chkFn Try.prog i_impl_isCall ac_impl_isCall [.tmp 2] 9 = true := by decide +kernel
def fa_impl_isCall : FnA := ⟨ac_impl_isCall, [.tmp 2], 9, false, true, [], .any, none⟩

/-- The checked code of impl kindOf. -/
def ac_impl_kindOf : AC := (.seq (.post (.reg [⟨(some 2), .op (.mv (.const (Value.int .i64 0))), none⟩]) (.kill [2]))
  (.seq (.post (.reg [⟨(some 3), .op (.mv (.tmp 0)), none⟩,
    ⟨(some 4), .call (.func i_strings_IndexByte) [(.const (Value.string ⟨#[40, 91, 41, 93, 97, 98]⟩)), (.tmp 3)], none⟩,
    ⟨(some 5), .op (.bin .rem (.tmp 4) (.const (Value.int .i64 2))), none⟩,
    ⟨(some 2), .op (.mv (.tmp 5)), none⟩]) (.kill [0, 3, 4, 5]))
  .ret))
theorem cf_impl_kindOf : chkFn Try.prog i_impl_kindOf ac_impl_kindOf [.tmp 2] 6 = true := by decide +kernel
def fa_impl_kindOf : FnA := ⟨ac_impl_kindOf, [.tmp 2], 6, false, true, [], .any, none⟩

/-- The checked code of impl isInner. -/
def ac_impl_isInner : AC := (.seq (.post (.reg [⟨(some 2), .op (.mv (.const (Value.bool false))), none⟩]) (.kill [2]))
  (.seq (.post (.reg [⟨(some 3), .op (.mv (.tmp 0)), none⟩,
    ⟨(some 4), .op (.bin .eql (.tmp 3) (.const (Value.int .u8 97))), none⟩,
    ⟨(some 5), .op (.mv (.tmp 4)), none⟩,
    ⟨(some 6), .op (.mv (.tmp 0)), some (5, false)⟩,
    ⟨(some 7), .op (.bin .eql (.tmp 6) (.const (Value.int .u8 98))), some (5, false)⟩,
    ⟨(some 8), .op (.pick (.tmp 5) (.const (Value.bool true)) (.tmp 7)), none⟩,
    ⟨(some 2), .op (.mv (.tmp 8)), none⟩]) (.kill [0, 3, 4, 5, 6, 7, 8]))
  .ret))
theorem cf_impl_isInner : chkFn Try.prog i_impl_isInner ac_impl_isInner [.tmp 2] 9 = true := by decide +kernel
def fa_impl_isInner : FnA := ⟨ac_impl_isInner, [.tmp 2], 9, false, true, [], .any, none⟩

/-- The checked code of   strings Builder  copyCheck. -/
def ac_P_strings_Builder_copyCheck : AC := (.seq (.post (.reg [⟨(some 2), .op (.mv (.tmp 0)), none⟩,
    ⟨(some 3), .op (.nilc (.tmp 2)), none⟩,
    ⟨(some 4), .op (.faddr (.tmp 3) 0), none⟩,
    ⟨(some 5), .op (.load 1 false (.tmp 4)), none⟩,
    ⟨(some 6), .op (.eqnil false false .p (.tmp 5)), none⟩]) (.kill [2, 3, 4, 5]))
  (.cond (.tmp 6) (.ghost (.kill [6]) (.post (.reg [⟨(some 7), .op (.mv (.tmp 0)), none⟩,
    ⟨(some 8), .op (.mv (.tmp 0)), none⟩,
    ⟨(some 9), .op (.bld .uns [(.tmp 8)]), none⟩,
    ⟨(some 10), .op (.bld (.noesc i_internal_abi_NoEscape) [(.tmp 9)]), none⟩,
    ⟨(some 11), .op (.bld (.funs 306) [(.tmp 10)]), none⟩,
    ⟨(some 12), .op (.nilc (.tmp 7)), none⟩,
    ⟨(some 13), .op (.faddr (.tmp 12) 0), none⟩,
    ⟨none, .op (.store 1 (.tmp 13) (.tmp 11)), none⟩]) (.kill [0, 7, 8, 9, 10, 11, 12, 13])))
  (.ghost (.kill [6]) (.seq (.post (.reg [⟨(some 14), .op (.mv (.tmp 0)), none⟩,
    ⟨(some 15), .op (.nilc (.tmp 14)), none⟩,
    ⟨(some 16), .op (.faddr (.tmp 15) 0), none⟩,
    ⟨(some 17), .op (.load 1 false (.tmp 16)), none⟩,
    ⟨(some 18), .op (.mv (.tmp 0)), none⟩,
    ⟨(some 19), .op (.bld (.eqp true) [(.tmp 17), (.tmp 18)]), none⟩]) (.kill [0, 14, 15, 16, 17, 18]))
  (.cond (.tmp 19) (.ghost (.kill [19]) (.reg [⟨none, .op .bad, none⟩]))
  (.ghost (.kill [19]) .skip))))))
theorem cf_P_strings_Builder_copyCheck : chkFn Try.prog i_P_strings_Builder_copyCheck ac_P_strings_Builder_copyCheck [] 20 = true := by decide +kernel
def fa_P_strings_Builder_copyCheck : FnA := ⟨ac_P_strings_Builder_copyCheck, [], 20, true, false, [], .any, none⟩

/-- The checked code of   strings Builder  WriteString. -/
def ac_P_strings_Builder_WriteString : AC := (.seq (.post (.reg [⟨(some 4), .op (.mv (.const (Value.int .i64 0))), none⟩,
    ⟨(some 5), .op (.mv (.const Value.nilIface)), none⟩]) (.kill [4, 5]))
  (.seq (.post (.reg [⟨(some 6), .op (.mv (.tmp 0)), none⟩,
    ⟨(some 7), .call (.func i_P_strings_Builder_copyCheck) [(.tmp 6)], none⟩]) (.kill [6, 7]))
  (.seq (.post (.reg [⟨(some 8), .op (.mv (.tmp 0)), none⟩,
    ⟨(some 9), .op (.mv (.tmp 0)), none⟩,
    ⟨(some 10), .op (.nilc (.tmp 9)), none⟩,
    ⟨(some 11), .op (.faddr (.tmp 10) 1), none⟩,
    ⟨(some 12), .op (.load 1 false (.tmp 11)), none⟩,
    ⟨(some 13), .op (.mv (.tmp 1)), none⟩,
    ⟨(some 14), .op (.bld (.appn 5 1 1) [(.tmp 12), (.tmp 13)]), none⟩,
    ⟨(some 15), .op (.nilc (.tmp 8)), none⟩,
    ⟨(some 16), .op (.faddr (.tmp 15) 1), none⟩,
    ⟨none, .op (.store 1 (.tmp 16) (.tmp 14)), none⟩]) (.kill [0, 8, 9, 10, 11, 12, 13, 14, 15, 16]))
  (.seq (.post (.reg [⟨(some 17), .op (.mv (.tmp 1)), none⟩,
    ⟨(some 18), .op (.len true (.tmp 17)), none⟩,
    ⟨(some 4), .op (.mv (.tmp 18)), none⟩,
    ⟨(some 5), .op (.mv (.const Value.nilIface)), none⟩]) (.kill [1, 17, 18]))
  .ret))))
theorem cf_P_strings_Builder_WriteString : chkFn Try.prog i_P_strings_Builder_WriteString ac_P_strings_Builder_WriteString [.tmp 4, .tmp 5] 19 = true := by decide +kernel
def fa_P_strings_Builder_WriteString : FnA := ⟨ac_P_strings_Builder_WriteString, [.tmp 4, .tmp 5], 19, true, false, [], .any, none⟩

/-- The checked code of   strings Builder  String. -/
def ac_P_strings_Builder_String : AC := (.seq (.post (.reg [⟨(some 2), .op (.mv (.const (Value.string ⟨#[]⟩))), none⟩]) (.kill [2]))
  (.seq (.post (.draw [⟨0, ⟨(some 3), .op (.mv (.tmp 0)), none⟩, []⟩,
    ⟨1, ⟨(some 4), .op (.nilc (.tmp 3)), none⟩, []⟩,
    ⟨2, ⟨(some 5), .op (.faddr (.tmp 4) 1), none⟩, []⟩,
    ⟨3, ⟨(some 6), .op (.load 1 false (.tmp 5)), none⟩, []⟩,
    ⟨4, ⟨(some 7), .op (.bld .sdata [(.tmp 6)]), none⟩, []⟩,
    ⟨5, ⟨(some 8), .op (.mv (.tmp 0)), none⟩, []⟩,
    ⟨6, ⟨(some 9), .op (.nilc (.tmp 8)), none⟩, []⟩,
    ⟨7, ⟨(some 10), .op (.faddr (.tmp 9) 1), none⟩, []⟩,
    ⟨8, ⟨(some 11), .op (.load 1 false (.tmp 10)), none⟩, []⟩,
    ⟨9, ⟨(some 12), .op (.len false (.tmp 11)), none⟩, []⟩,
    ⟨10, ⟨(some 13), .op (.bld (.ustr 5) [(.tmp 7), (.tmp 12)]), none⟩, []⟩,
    ⟨11, ⟨(some 2), .op (.mv (.tmp 13)), none⟩, []⟩]
    [0, 1, 3, 7, 15, 0, 32, 96, 224, 480, 1023, 2047]) (.kill [0, 3, 4, 5, 6, 7, 8, 9, 10, 11, 12, 13]))
  .ret))
theorem cf_P_strings_Builder_String : chkFn Try.prog i_P_strings_Builder_String ac_P_strings_Builder_String [.tmp 2] 14 = true := by decide +kernel
def fa_P_strings_Builder_String : FnA := ⟨ac_P_strings_Builder_String, [.tmp 2], 14, true, false, [], .any, none⟩

/-- The checked code of impl Rewriter  rewrite. -/
def lb_impl_Rewriter_rewrite_0 : AC := (.post (.seq (.reg [⟨(some 24), .op (.bin .lss (.tmp 23) (.tmp 22)), none⟩])
  (.seq (.cond (.tmp 24) (.ghost (.kill [24]) .skip)
  (.ghost (.kill [3, 4, 22, 23, 24]) (.exit 0)))
  (.seq (.block 1 (.seq (.post (.reg [⟨(some 25), .op (.mv (.tmp 23)), none⟩,
    ⟨(some 12), .op (.mv (.tmp 25)), none⟩]) (.kill [25]))
  (.seq (.post (.reg [⟨(some 26), .op (.mv (.tmp 3)), none⟩,
    ⟨(some 27), .op (.mv (.tmp 12)), none⟩,
    ⟨(some 28), .op (.idxStr (.tmp 26) (.tmp 27)), none⟩,
    ⟨(some 29), .call (.func i_impl_kindOf) [(.tmp 28)], none⟩,
    ⟨(some 30), .op (.build [Value.int .i64 0, Value.string ⟨#[]⟩] []), none⟩,
    ⟨(some 14), .op (.alloc (Value.agg #[Value.int .i64 0, Value.string ⟨#[]⟩])), none⟩,
    ⟨(some 13), .op (.mv (.tmp 29)), none⟩,
    ⟨none, .op (.store 2 (.tmp 14) (.tmp 30)), none⟩]) (.kill [26, 27, 28, 29, 30]))
  (.seq (.block 2 (.seq (.post (.reg [⟨(some 58), .op (.mv (.tmp 3)), none⟩,
    ⟨(some 59), .op (.mv (.tmp 12)), none⟩,
    ⟨(some 60), .op (.idxStr (.tmp 58) (.tmp 59)), none⟩,
    ⟨(some 61), .call (.func i_impl_isCall) [(.tmp 60)], none⟩,
    ⟨(some 57), .op (.mv (.tmp 61)), none⟩]) (.kill [58, 59, 60, 61]))
  (.cond (.tmp 57) (.ghost (.kill [12, 57]) (.seq (.post (.reg [⟨(some 62), .op (.faddr (.tmp 4) 2), none⟩,
    ⟨(some 63), .op (.load 1 false (.tmp 62)), none⟩,
    ⟨(some 64), .op (.mv (.tmp 1)), none⟩,
    ⟨(some 65), .op (.iaddrS (.tmp 63) (.tmp 64) 1), none⟩,
    ⟨(some 66), .op (.load 1 false (.tmp 65)), none⟩,
    ⟨(some 67), .op (.mv (.tmp 13)), none⟩,
    ⟨(some 68), .op (.iaddrS (.tmp 66) (.tmp 67) 3), none⟩,
    ⟨(some 69), .op (.load 3 true (.tmp 68)), none⟩,
    ⟨(some 15), .op (.alloc (Value.agg #[Value.int .i64 0, Value.int .i64 0, Value.string ⟨#[]⟩])), none⟩,
    ⟨none, .op (.store 3 (.tmp 15) (.tmp 69)), none⟩]) (.kill [1, 13, 62, 63, 64, 65, 66, 67, 68, 69]))
  (.post (.post (.draw [⟨0, ⟨(some 70), .op (.faddr (.tmp 15) 0), none⟩, []⟩,
    ⟨1, ⟨(some 71), .op (.load 1 false (.tmp 70)), none⟩, []⟩,
    ⟨2, ⟨(some 72), .op (.faddr (.tmp 15) 2), none⟩, []⟩,
    ⟨3, ⟨(some 73), .op (.load 1 false (.tmp 72)), none⟩, []⟩,
    ⟨4, ⟨(some 74), .op (.build [Value.int .i64 0, Value.string ⟨#[]⟩] [(0, 1, (.tmp 71)), (1, 1, (.tmp 73))]), none⟩, []⟩,
    ⟨5, ⟨(some 75), .op (.mv (.tmp 2)), none⟩, []⟩,
    ⟨6, ⟨(some 76), .op (.faddr (.tmp 15) 1), none⟩, []⟩,
    ⟨7, ⟨(some 77), .op (.load 1 false (.tmp 76)), none⟩, []⟩,
    ⟨8, ⟨(some 78), .op (.lits true 1 1 (Value.int .i64 0) [(0, (.tmp 77))]), none⟩, []⟩,
    ⟨9, ⟨(some 79), .op (.append (.tmp 75) (.tmp 78) 1 8), none⟩, [1, 3]⟩,
    ⟨10, ⟨none, .op (.store 2 (.tmp 14) (.tmp 74)), none⟩, []⟩,
    ⟨11, ⟨(some 2), .op (.mv (.tmp 79)), none⟩, []⟩]
    [0, 1, 0, 4, 15, 0, 0, 64, 192, 480, 1023, 2047]) (.kill [15, 70, 71, 72, 73, 74, 75, 76, 77, 78, 79])) .nv)))
  (.ghost (.kill [57]) (.seq (.post (.reg [⟨(some 81), .op (.mv (.tmp 3)), none⟩,
    ⟨(some 82), .op (.mv (.tmp 12)), none⟩,
    ⟨(some 83), .op (.idxStr (.tmp 81) (.tmp 82)), none⟩,
    ⟨(some 84), .call (.func i_impl_isInner) [(.tmp 83)], none⟩,
    ⟨(some 80), .op (.mv (.tmp 84)), none⟩]) (.kill [12, 81, 82, 83, 84]))
  (.cond (.tmp 80) (.ghost (.kill [80]) (.post (.reg [⟨(some 85), .op (.faddr (.tmp 4) 4), none⟩,
    ⟨(some 86), .op (.load 1 false (.tmp 85)), none⟩,
    ⟨(some 87), .op (.mv (.tmp 1)), none⟩,
    ⟨(some 88), .op (.iaddrS (.tmp 86) (.tmp 87) 1), none⟩,
    ⟨(some 89), .op (.load 1 false (.tmp 88)), none⟩,
    ⟨(some 90), .op (.mv (.tmp 13)), none⟩,
    ⟨(some 91), .op (.iaddrS (.tmp 89) (.tmp 90) 2), none⟩,
    ⟨(some 92), .op (.load 2 true (.tmp 91)), none⟩,
    ⟨none, .op (.store 2 (.tmp 14) (.tmp 92)), none⟩]) (.kill [1, 13, 85, 86, 87, 88, 89, 90, 91, 92])))
  (.ghost (.kill [80]) (.seq (.post (.reg [⟨(some 31), .op (.faddr (.tmp 4) 0), none⟩,
    ⟨(some 32), .op (.load 1 false (.tmp 31)), none⟩,
    ⟨(some 16), .op (.mv (.tmp 32)), none⟩]) (.kill [31, 32]))
  (.seq (.seq (.post (.reg [⟨(some 33), .op (.mv (.tmp 2)), none⟩,
    ⟨(some 34), .op (.len false (.tmp 33)), none⟩,
    ⟨(some 17), .op (.mv (.tmp 34)), none⟩]) (.kill [33, 34]))
  (.seq (.post (.reg [⟨(some 35), .op (.mv (.tmp 17)), none⟩,
    ⟨(some 36), .op (.bin .gtr (.tmp 35) (.const (Value.int .i64 0))), none⟩]) (.kill [35]))
  (.cond (.tmp 36) (.ghost (.kill [16, 36]) (.post (.post (.draw [⟨0, ⟨(some 37), .op (.mv (.tmp 2)), none⟩, []⟩,
    ⟨1, ⟨(some 38), .op (.mv (.tmp 17)), none⟩, []⟩,
    ⟨2, ⟨(some 39), .op (.bin .sub (.tmp 38) (.const (Value.int .i64 1))), none⟩, []⟩,
    ⟨3, ⟨(some 40), .op (.iaddrS (.tmp 37) (.tmp 39) 1), none⟩, []⟩,
    ⟨4, ⟨(some 41), .op (.load 1 false (.tmp 40)), none⟩, []⟩,
    ⟨5, ⟨(some 42), .op (.mv (.tmp 2)), none⟩, []⟩,
    ⟨6, ⟨(some 43), .op (.mv (.tmp 17)), none⟩, []⟩,
    ⟨7, ⟨(some 44), .op (.bin .sub (.tmp 43) (.const (Value.int .i64 1))), none⟩, []⟩,
    ⟨8, ⟨(some 45), .op (.slcS (.tmp 42) none (some (.tmp 44)) none 1), none⟩, []⟩,
    ⟨9, ⟨(some 16), .op (.mv (.tmp 41)), none⟩, []⟩,
    ⟨10, ⟨(some 2), .op (.mv (.tmp 45)), none⟩, []⟩]
    [0, 0, 2, 7, 15, 0, 0, 64, 224, 31, 1023]) (.kill [17, 37, 38, 39, 40, 41, 42, 43, 44, 45])) .nv))
  (.ghost (.kill [17, 36]) .skip))))
  (.post (.reg [⟨(some 46), .op (.faddr (.tmp 4) 3), none⟩,
    ⟨(some 47), .op (.load 1 false (.tmp 46)), none⟩,
    ⟨(some 48), .op (.mv (.tmp 1)), none⟩,
    ⟨(some 49), .op (.iaddrS (.tmp 47) (.tmp 48) 1), none⟩,
    ⟨(some 50), .op (.load 1 false (.tmp 49)), none⟩,
    ⟨(some 51), .op (.mv (.tmp 13)), none⟩,
    ⟨(some 52), .op (.iaddrS (.tmp 50) (.tmp 51) 1), none⟩,
    ⟨(some 53), .op (.load 1 false (.tmp 52)), none⟩,
    ⟨(some 54), .op (.mv (.tmp 16)), none⟩,
    ⟨(some 55), .op (.iaddrS (.tmp 53) (.tmp 54) 2), none⟩,
    ⟨(some 56), .op (.load 2 true (.tmp 55)), none⟩,
    ⟨none, .op (.store 2 (.tmp 14) (.tmp 56)), none⟩]) (.kill [1, 13, 16, 46, 47, 48, 49, 50, 51, 52, 53, 54, 55, 56])))))))))))
  (.seq (.post (.reg [⟨(some 93), .op (.faddr (.tmp 14) 1), none⟩,
    ⟨(some 94), .op (.load 1 false (.tmp 93)), none⟩,
    ⟨(some 95), .call (.func i_P_strings_Builder_WriteString) [(.tmp 11), (.tmp 94)], none⟩]) (.kill [93, 94, 95]))
  (.post (.reg [⟨(some 96), .op (.faddr (.tmp 14) 0), none⟩,
    ⟨(some 97), .op (.load 1 false (.tmp 96)), none⟩,
    ⟨(some 1), .op (.mv (.tmp 97)), none⟩]) (.kill [14, 96, 97])))))))
  (.post (.reg [⟨(some 98), .op (.bin .add (.tmp 23) (.const (Value.int .i64 1))), none⟩,
    ⟨(some 23), .op (.mv (.tmp 98)), none⟩]) (.kill [98]))))) .nv)
def lo_impl_Rewriter_rewrite_0 : AC := (.loop lb_impl_Rewriter_rewrite_0)
def ac_impl_Rewriter_rewrite : AC := (.seq (.post (.reg [⟨(some 4), .op (.box true (.tmp 0)), none⟩,
    ⟨(some 8), .op (.mv (.const (Value.int .i64 0))), none⟩,
    ⟨(some 9), .op (.mv (.const (Value.slice none 0 0))), none⟩,
    ⟨(some 10), .op (.mv (.const (Value.string ⟨#[]⟩))), none⟩]) (.kill [0, 8, 9, 10]))
  (.seq (.post (.reg [⟨(some 18), .op (.mv (.tmp 2)), none⟩,
    ⟨(some 19), .call (.func i_slices_Clone_L_int64) [(.tmp 18)], none⟩,
    ⟨(some 20), .op (.build [Value.pointer none, Value.slice none 0 0] []), none⟩,
    ⟨(some 11), .op (.bld (.allocT 306 (Value.agg #[Value.pointer none, Value.slice none 0 0])) []), none⟩,
    ⟨(some 2), .op (.mv (.tmp 19)), none⟩,
    ⟨none, .op (.store 2 (.tmp 11) (.tmp 20)), none⟩]) (.kill [18, 19, 20]))
  (.seq (.seq (.post (.reg [⟨(some 21), .op (.mv (.tmp 3)), none⟩,
    ⟨(some 22), .op (.len true (.tmp 21)), none⟩,
    ⟨(some 23), .op (.mv (.const (Value.int .i64 0))), none⟩]) (.kill [21]))
  (.post (.block 0 (.ghost (.ow 2 none 1) (.ghost .nv lo_impl_Rewriter_rewrite_0))) .nv))
  (.ghost (.kill [3, 4, 22, 23]) (.seq (.post (.reg [⟨(some 99), .op (.mv (.tmp 1)), none⟩,
    ⟨(some 100), .op (.mv (.tmp 2)), none⟩,
    ⟨(some 101), .call (.func i_P_strings_Builder_String) [(.tmp 11)], none⟩,
    ⟨(some 8), .op (.mv (.tmp 99)), none⟩,
    ⟨(some 9), .op (.mv (.tmp 100)), none⟩,
    ⟨(some 10), .op (.mv (.tmp 101)), none⟩]) (.kill [1, 2, 11, 99, 100, 101]))
  (.ghost .nv .ret))))))
theorem cf_impl_Rewriter_rewrite : chkFn Try.prog i_impl_Rewriter_rewrite ac_impl_Rewriter_rewrite [.tmp 8, .tmp 9, .tmp 10] 102 = true := by decide +kernel
def fa_impl_Rewriter_rewrite : FnA := ⟨ac_impl_Rewriter_rewrite, [.tmp 8, .tmp 9, .tmp 10], 102, false, false, [], .any, none⟩

/-- The checked code of impl RewriteOn. -/
def ac_impl_RewriteOn : AC := (.seq (.post (.reg [⟨(some 4), .op (.box true (.tmp 0)), none⟩,
    ⟨(some 8), .op (.mv (.const (Value.int .i64 0))), none⟩,
    ⟨(some 9), .op (.mv (.const (Value.slice none 0 0))), none⟩,
    ⟨(some 10), .op (.mv (.const (Value.string ⟨#[]⟩))), none⟩,
    ⟨(some 11), .op (.mv (.const (Value.int .i64 0))), none⟩]) (.kill [0, 8, 9, 10, 11]))
  (.seq (.block 0 (.seq (.post (.reg [⟨(some 16), .op (.load 5 true (.tmp 4)), none⟩,
    ⟨(some 17), .call (.func i_impl_ValidRewriter) [(.tmp 16)], none⟩,
    ⟨(some 18), .op (.un .not (.tmp 17)), none⟩,
    ⟨(some 19), .op (.mv (.tmp 18)), none⟩,
    ⟨(some 20), .op (.mv (.tmp 3)), some (19, false)⟩,
    ⟨(some 21), .call (.func i_impl_ValidWord) [(.tmp 20)], some (19, false)⟩,
    ⟨(some 22), .op (.un .not (.tmp 21)), some (19, false)⟩,
    ⟨(some 23), .op (.pick (.tmp 19) (.const (Value.bool true)) (.tmp 22)), none⟩,
    ⟨(some 15), .op (.mv (.tmp 23)), none⟩]) (.kill [16, 17, 18, 19, 20, 21, 22, 23]))
  (.cond (.tmp 15) (.ghost (.kill [1, 2, 3, 4, 15]) (.seq (.reg [⟨(some 8), .op (.mv (.const (Value.int .i64 0))), none⟩,
    ⟨(some 9), .op (.mv (.const (Value.slice none 0 0))), none⟩,
    ⟨(some 10), .op (.mv (.const (Value.string ⟨#[]⟩))), none⟩,
    ⟨(some 11), .op (.mv (.const (Value.int .i64 1))), none⟩])
  .ret))
  (.ghost (.kill [15]) (.seq (.post (.reg [⟨(some 25), .op (.mv (.tmp 1)), none⟩,
    ⟨(some 26), .op (.faddr (.tmp 4) 2), none⟩,
    ⟨(some 27), .op (.load 1 false (.tmp 26)), none⟩,
    ⟨(some 28), .call (.func i_impl_size_L_impl_OutPush) [(.tmp 27)], none⟩,
    ⟨(some 29), .op (.bin .sub (.tmp 28) (.const (Value.int .i64 1))), none⟩,
    ⟨(some 30), .call (.func i_impl_within) [(.tmp 25), (.const (Value.int .i64 0)), (.tmp 29)], none⟩,
    ⟨(some 31), .op (.un .not (.tmp 30)), none⟩,
    ⟨(some 32), .op (.mv (.tmp 31)), none⟩,
    ⟨(some 33), .op (.mv (.tmp 2)), some (32, false)⟩,
    ⟨(some 34), .op (.len false (.tmp 33)), some (32, false)⟩,
    ⟨(some 35), .op (.bin .gtr (.tmp 34) (.const (Value.int .i64 60))), some (32, false)⟩,
    ⟨(some 36), .op (.pick (.tmp 32) (.const (Value.bool true)) (.tmp 35)), none⟩,
    ⟨(some 37), .op (.mv (.tmp 36)), none⟩,
    ⟨(some 38), .op (.mv (.tmp 2)), some (37, false)⟩,
    ⟨(some 39), .op (.mkfn i_impl_RewriteOn_1 [(.tmp 4)]), some (37, false)⟩,
    ⟨(some 40), .call (.func i_slices_ContainsFunc_L_int64) [(.tmp 38), (.tmp 39)], some (37, false)⟩,
    ⟨(some 41), .op (.pick (.tmp 37) (.const (Value.bool true)) (.tmp 40)), none⟩,
    ⟨(some 24), .op (.mv (.tmp 41)), none⟩]) (.kill [25, 26, 27, 28, 29, 30, 31, 32, 33, 34, 35, 36, 37, 38, 39, 40, 41]))
  (.cond (.tmp 24) (.ghost (.kill [1, 2, 3, 4, 24]) (.seq (.reg [⟨(some 8), .op (.mv (.const (Value.int .i64 0))), none⟩,
    ⟨(some 9), .op (.mv (.const (Value.slice none 0 0))), none⟩,
    ⟨(some 10), .op (.mv (.const (Value.string ⟨#[]⟩))), none⟩,
    ⟨(some 11), .op (.mv (.const (Value.int .i64 2))), none⟩])
  .ret))
  (.ghost (.kill [24]) .skip)))))))
  (.seq (.post (.reg [⟨(some 43), .op (.load 5 true (.tmp 4)), none⟩,
    ⟨(some 44), .op (.mv (.tmp 1)), none⟩,
    ⟨(some 45), .op (.mv (.tmp 2)), none⟩,
    ⟨(some 46), .op (.mv (.tmp 3)), none⟩,
    ⟨(some 47), .call (.func i_impl_Rewriter_rewrite) [(.tmp 43), (.tmp 44), (.tmp 45), (.tmp 46)], none⟩,
    ⟨(some 42), .op (.mv (.tmp 47)), none⟩,
    ⟨(some 48), .op (.ext (.tmp 42) 0), none⟩,
    ⟨(some 49), .op (.ext (.tmp 42) 1), none⟩,
    ⟨(some 50), .op (.ext (.tmp 42) 2), none⟩,
    ⟨(some 12), .op (.mv (.tmp 48)), none⟩,
    ⟨(some 13), .op (.mv (.tmp 49)), none⟩,
    ⟨(some 14), .op (.mv (.tmp 50)), none⟩]) (.kill [1, 2, 3, 4, 42, 43, 44, 45, 46, 47, 48, 49, 50]))
  (.seq (.seq (.post (.reg [⟨(some 51), .op (.mv (.tmp 13)), none⟩,
    ⟨(some 52), .op (.len false (.tmp 51)), none⟩,
    ⟨(some 53), .op (.bin .gtr (.tmp 52) (.const (Value.int .i64 60))), none⟩,
    ⟨(some 54), .op (.mv (.tmp 53)), none⟩,
    ⟨(some 55), .op (.mv (.tmp 14)), some (54, false)⟩,
    ⟨(some 56), .op (.len true (.tmp 55)), some (54, false)⟩,
    ⟨(some 57), .op (.bin .gtr (.tmp 56) (.const (Value.int .i64 60))), some (54, false)⟩,
    ⟨(some 58), .op (.pick (.tmp 54) (.const (Value.bool true)) (.tmp 57)), none⟩]) (.kill [51, 52, 53, 54, 55, 56, 57]))
  (.cond (.tmp 58) (.ghost (.kill [12, 13, 14, 58]) (.seq (.reg [⟨(some 8), .op (.mv (.const (Value.int .i64 0))), none⟩,
    ⟨(some 9), .op (.mv (.const (Value.slice none 0 0))), none⟩,
    ⟨(some 10), .op (.mv (.const (Value.string ⟨#[]⟩))), none⟩,
    ⟨(some 11), .op (.mv (.const (Value.int .i64 3))), none⟩])
  .ret))
  (.ghost (.kill [58]) .skip)))
  (.seq (.post (.reg [⟨(some 59), .op (.mv (.tmp 12)), none⟩,
    ⟨(some 60), .op (.mv (.tmp 13)), none⟩,
    ⟨(some 61), .op (.mv (.tmp 14)), none⟩,
    ⟨(some 8), .op (.mv (.tmp 59)), none⟩,
    ⟨(some 9), .op (.mv (.tmp 60)), none⟩,
    ⟨(some 10), .op (.mv (.tmp 61)), none⟩,
    ⟨(some 11), .op (.mv (.const (Value.int .i64 0))), none⟩]) (.kill [12, 13, 14, 59, 60, 61]))
  .ret)))))
theorem cf_impl_RewriteOn : chkFn Try.prog i_impl_RewriteOn ac_impl_RewriteOn [.tmp 8, .tmp 9, .tmp 10, .tmp 11] 62 = true := by decide +kernel
def fa_impl_RewriteOn : FnA := ⟨ac_impl_RewriteOn, [.tmp 8, .tmp 9, .tmp 10, .tmp 11], 62, false, false, [(.agg [.any, .any, (.lst 1 (.lst 3 .any)), (.lst 1 (.lst 1 (.lst 2 .any))), (.lst 1 (.lst 2 .any))]), .any, (.lst 1 .any), .any], .any, none⟩

/-- The checked code of laws eqOutPush. -/
def ac_laws_eqOutPush : AC := (.seq (.post (.reg [⟨(some 2), .op (.box true (.tmp 0)), none⟩,
    ⟨(some 3), .op (.box true (.tmp 1)), none⟩,
    ⟨(some 4), .op (.mv (.const (Value.bool false))), none⟩]) (.kill [0, 1, 4]))
  (.seq (.seq (.post (.reg [⟨(some 5), .op (.faddr (.tmp 2) 0), none⟩,
    ⟨(some 6), .op (.load 1 false (.tmp 5)), none⟩,
    ⟨(some 7), .op (.faddr (.tmp 3) 0), none⟩,
    ⟨(some 8), .op (.load 1 false (.tmp 7)), none⟩,
    ⟨(some 9), .op (.bin .neq (.tmp 6) (.tmp 8)), none⟩]) (.kill [5, 6, 7, 8]))
  (.cond (.tmp 9) (.ghost (.kill [2, 3, 9]) (.seq (.reg [⟨(some 4), .op (.mv (.const (Value.bool false))), none⟩])
  .ret))
  (.ghost (.kill [9]) .skip)))
  (.seq (.seq (.post (.reg [⟨(some 10), .op (.faddr (.tmp 2) 1), none⟩,
    ⟨(some 11), .op (.load 1 false (.tmp 10)), none⟩,
    ⟨(some 12), .op (.faddr (.tmp 3) 1), none⟩,
    ⟨(some 13), .op (.load 1 false (.tmp 12)), none⟩,
    ⟨(some 14), .op (.bin .neq (.tmp 11) (.tmp 13)), none⟩]) (.kill [10, 11, 12, 13]))
  (.cond (.tmp 14) (.ghost (.kill [2, 3, 14]) (.seq (.reg [⟨(some 4), .op (.mv (.const (Value.bool false))), none⟩])
  .ret))
  (.ghost (.kill [14]) .skip)))
  (.seq (.seq (.post (.reg [⟨(some 15), .op (.faddr (.tmp 2) 2), none⟩,
    ⟨(some 16), .op (.load 1 false (.tmp 15)), none⟩,
    ⟨(some 17), .op (.faddr (.tmp 3) 2), none⟩,
    ⟨(some 18), .op (.load 1 false (.tmp 17)), none⟩,
    ⟨(some 19), .op (.bin .neq (.tmp 16) (.tmp 18)), none⟩]) (.kill [2, 3, 15, 16, 17, 18]))
  (.cond (.tmp 19) (.ghost (.kill [19]) (.seq (.reg [⟨(some 4), .op (.mv (.const (Value.bool false))), none⟩])
  .ret))
  (.ghost (.kill [19]) .skip)))
  (.seq (.reg [⟨(some 4), .op (.mv (.const (Value.bool true))), none⟩])
  .ret)))))
theorem cf_laws_eqOutPush : chkFn Try.prog i_laws_eqOutPush ac_laws_eqOutPush [.tmp 4] 20 = true := by decide +kernel
def fa_laws_eqOutPush : FnA := ⟨ac_laws_eqOutPush, [.tmp 4], 20, false, true, [], .any, none⟩

/-- The checked code of laws eqOutPushS. -/
def lb_laws_eqOutPushS_0 : AC := (.seq (.seq (.post (.reg [⟨(some 11), .op (.mv (.tmp 5)), none⟩,
    ⟨(some 12), .op (.mv (.tmp 0)), none⟩,
    ⟨(some 13), .op (.len false (.tmp 12)), none⟩,
    ⟨(some 14), .op (.bin .lss (.tmp 11) (.tmp 13)), none⟩]) (.kill [11, 12, 13]))
  (.cond (.tmp 14) (.ghost (.kill [14]) .skip)
  (.ghost (.kill [0, 1, 5, 14]) (.exit 0))))
  (.seq (.block 1 (.seq (.post (.draw [⟨0, ⟨(some 17), .op (.mv (.tmp 0)), none⟩, []⟩,
    ⟨1, ⟨(some 18), .op (.mv (.tmp 5)), none⟩, []⟩,
    ⟨2, ⟨(some 19), .op (.iaddrS (.tmp 17) (.tmp 18) 3), none⟩, []⟩,
    ⟨3, ⟨(some 20), .op (.load 3 true (.tmp 19)), none⟩, []⟩,
    ⟨4, ⟨(some 21), .op (.mv (.tmp 1)), none⟩, []⟩,
    ⟨5, ⟨(some 22), .op (.mv (.tmp 5)), none⟩, []⟩,
    ⟨6, ⟨(some 23), .op (.iaddrS (.tmp 21) (.tmp 22) 3), none⟩, []⟩,
    ⟨7, ⟨(some 24), .op (.load 3 true (.tmp 23)), none⟩, []⟩,
    ⟨8, ⟨(some 25), .call (.func i_laws_eqOutPush) [(.tmp 20), (.tmp 24)], none⟩, []⟩,
    ⟨9, ⟨(some 26), .op (.un .not (.tmp 25)), none⟩, []⟩]
    [0, 0, 3, 7, 0, 0, 48, 112, 255, 511]) (.kill [17, 18, 19, 20, 21, 22, 23, 24, 25]))
  (.cond (.tmp 26) (.ghost (.kill [0, 1, 5, 26]) (.seq (.reg [⟨(some 4), .op (.mv (.const (Value.bool false))), none⟩])
  .ret))
  (.ghost (.kill [26]) .skip))))
  (.post (.reg [⟨(some 15), .op (.mv (.tmp 5)), none⟩,
    ⟨(some 16), .op (.bin .add (.tmp 15) (.const (Value.int .i64 1))), none⟩,
    ⟨(some 5), .op (.mv (.tmp 16)), none⟩]) (.kill [15, 16]))))
def lo_laws_eqOutPushS_0 : AC := (.loop lb_laws_eqOutPushS_0)
def ac_laws_eqOutPushS : AC := (.seq (.post (.reg [⟨(some 4), .op (.mv (.const (Value.bool false))), none⟩]) (.kill [4]))
  (.seq (.seq (.post (.reg [⟨(some 6), .op (.mv (.tmp 0)), none⟩,
    ⟨(some 7), .op (.len false (.tmp 6)), none⟩,
    ⟨(some 8), .op (.mv (.tmp 1)), none⟩,
    ⟨(some 9), .op (.len false (.tmp 8)), none⟩,
    ⟨(some 10), .op (.bin .neq (.tmp 7) (.tmp 9)), none⟩]) (.kill [6, 7, 8, 9]))
  (.cond (.tmp 10) (.ghost (.kill [0, 1, 10]) (.seq (.reg [⟨(some 4), .op (.mv (.const (Value.bool false))), none⟩])
  .ret))
  (.ghost (.kill [10]) .skip)))
  (.seq (.seq (.reg [⟨(some 5), .op (.mv (.const (Value.int .i64 0))), none⟩])
  (.block 0 lo_laws_eqOutPushS_0))
  (.ghost (.kill [0, 1, 5]) (.seq (.reg [⟨(some 4), .op (.mv (.const (Value.bool true))), none⟩])
  .ret)))))
theorem cf_laws_eqOutPushS : chkFn Try.prog i_laws_eqOutPushS ac_laws_eqOutPushS [.tmp 4] 27 = true := by decide +kernel
def fa_laws_eqOutPushS : FnA := ⟨ac_laws_eqOutPushS, [.tmp 4], 27, false, true, [], .any, none⟩

/-- The checked code of laws eqOutPushSS. -/
def lb_laws_eqOutPushSS_0 : AC := (.seq (.seq (.post (.reg [⟨(some 11), .op (.mv (.tmp 5)), none⟩,
    ⟨(some 12), .op (.mv (.tmp 0)), none⟩,
    ⟨(some 13), .op (.len false (.tmp 12)), none⟩,
    ⟨(some 14), .op (.bin .lss (.tmp 11) (.tmp 13)), none⟩]) (.kill [11, 12, 13]))
  (.cond (.tmp 14) (.ghost (.kill [14]) .skip)
  (.ghost (.kill [0, 1, 5, 14]) (.exit 0))))
  (.seq (.block 1 (.seq (.post (.draw [⟨0, ⟨(some 17), .op (.mv (.tmp 0)), none⟩, []⟩,
    ⟨1, ⟨(some 18), .op (.mv (.tmp 5)), none⟩, []⟩,
    ⟨2, ⟨(some 19), .op (.iaddrS (.tmp 17) (.tmp 18) 1), none⟩, []⟩,
    ⟨3, ⟨(some 20), .op (.load 1 false (.tmp 19)), none⟩, []⟩,
    ⟨4, ⟨(some 21), .op (.mv (.tmp 1)), none⟩, []⟩,
    ⟨5, ⟨(some 22), .op (.mv (.tmp 5)), none⟩, []⟩,
    ⟨6, ⟨(some 23), .op (.iaddrS (.tmp 21) (.tmp 22) 1), none⟩, []⟩,
    ⟨7, ⟨(some 24), .op (.load 1 false (.tmp 23)), none⟩, []⟩,
    ⟨8, ⟨(some 25), .call (.func i_laws_eqOutPushS) [(.tmp 20), (.tmp 24)], none⟩, []⟩,
    ⟨9, ⟨(some 26), .op (.un .not (.tmp 25)), none⟩, []⟩]
    [0, 0, 3, 7, 0, 0, 48, 112, 255, 511]) (.kill [17, 18, 19, 20, 21, 22, 23, 24, 25]))
  (.cond (.tmp 26) (.ghost (.kill [0, 1, 5, 26]) (.seq (.reg [⟨(some 4), .op (.mv (.const (Value.bool false))), none⟩])
  .ret))
  (.ghost (.kill [26]) .skip))))
  (.post (.reg [⟨(some 15), .op (.mv (.tmp 5)), none⟩,
    ⟨(some 16), .op (.bin .add (.tmp 15) (.const (Value.int .i64 1))), none⟩,
    ⟨(some 5), .op (.mv (.tmp 16)), none⟩]) (.kill [15, 16]))))
def lo_laws_eqOutPushSS_0 : AC := (.loop lb_laws_eqOutPushSS_0)
def ac_laws_eqOutPushSS : AC := (.seq (.post (.reg [⟨(some 4), .op (.mv (.const (Value.bool false))), none⟩]) (.kill [4]))
  (.seq (.seq (.post (.reg [⟨(some 6), .op (.mv (.tmp 0)), none⟩,
    ⟨(some 7), .op (.len false (.tmp 6)), none⟩,
    ⟨(some 8), .op (.mv (.tmp 1)), none⟩,
    ⟨(some 9), .op (.len false (.tmp 8)), none⟩,
    ⟨(some 10), .op (.bin .neq (.tmp 7) (.tmp 9)), none⟩]) (.kill [6, 7, 8, 9]))
  (.cond (.tmp 10) (.ghost (.kill [0, 1, 10]) (.seq (.reg [⟨(some 4), .op (.mv (.const (Value.bool false))), none⟩])
  .ret))
  (.ghost (.kill [10]) .skip)))
  (.seq (.seq (.reg [⟨(some 5), .op (.mv (.const (Value.int .i64 0))), none⟩])
  (.block 0 lo_laws_eqOutPushSS_0))
  (.ghost (.kill [0, 1, 5]) (.seq (.reg [⟨(some 4), .op (.mv (.const (Value.bool true))), none⟩])
  .ret)))))
theorem cf_laws_eqOutPushSS : chkFn Try.prog i_laws_eqOutPushSS ac_laws_eqOutPushSS [.tmp 4] 27 = true := by decide +kernel
def fa_laws_eqOutPushSS : FnA := ⟨ac_laws_eqOutPushSS, [.tmp 4], 27, false, true, [], .any, none⟩

/-- The checked code of laws eqOutMove. -/
def ac_laws_eqOutMove : AC := (.seq (.post (.reg [⟨(some 2), .op (.box true (.tmp 0)), none⟩,
    ⟨(some 3), .op (.box true (.tmp 1)), none⟩,
    ⟨(some 4), .op (.mv (.const (Value.bool false))), none⟩]) (.kill [0, 1, 4]))
  (.seq (.seq (.post (.reg [⟨(some 5), .op (.faddr (.tmp 2) 0), none⟩,
    ⟨(some 6), .op (.load 1 false (.tmp 5)), none⟩,
    ⟨(some 7), .op (.faddr (.tmp 3) 0), none⟩,
    ⟨(some 8), .op (.load 1 false (.tmp 7)), none⟩,
    ⟨(some 9), .op (.bin .neq (.tmp 6) (.tmp 8)), none⟩]) (.kill [5, 6, 7, 8]))
  (.cond (.tmp 9) (.ghost (.kill [2, 3, 9]) (.seq (.reg [⟨(some 4), .op (.mv (.const (Value.bool false))), none⟩])
  .ret))
  (.ghost (.kill [9]) .skip)))
  (.seq (.seq (.post (.reg [⟨(some 10), .op (.faddr (.tmp 2) 1), none⟩,
    ⟨(some 11), .op (.load 1 false (.tmp 10)), none⟩,
    ⟨(some 12), .op (.faddr (.tmp 3) 1), none⟩,
    ⟨(some 13), .op (.load 1 false (.tmp 12)), none⟩,
    ⟨(some 14), .op (.bin .neq (.tmp 11) (.tmp 13)), none⟩]) (.kill [2, 3, 10, 11, 12, 13]))
  (.cond (.tmp 14) (.ghost (.kill [14]) (.seq (.reg [⟨(some 4), .op (.mv (.const (Value.bool false))), none⟩])
  .ret))
  (.ghost (.kill [14]) .skip)))
  (.seq (.reg [⟨(some 4), .op (.mv (.const (Value.bool true))), none⟩])
  .ret))))
theorem cf_laws_eqOutMove : chkFn Try.prog i_laws_eqOutMove ac_laws_eqOutMove [.tmp 4] 15 = true := by decide +kernel
def fa_laws_eqOutMove : FnA := ⟨ac_laws_eqOutMove, [.tmp 4], 15, false, true, [], .any, none⟩

/-- The checked code of laws eqOutMoveS. -/
def lb_laws_eqOutMoveS_0 : AC := (.seq (.seq (.post (.reg [⟨(some 11), .op (.mv (.tmp 5)), none⟩,
    ⟨(some 12), .op (.mv (.tmp 0)), none⟩,
    ⟨(some 13), .op (.len false (.tmp 12)), none⟩,
    ⟨(some 14), .op (.bin .lss (.tmp 11) (.tmp 13)), none⟩]) (.kill [11, 12, 13]))
  (.cond (.tmp 14) (.ghost (.kill [14]) .skip)
  (.ghost (.kill [0, 1, 5, 14]) (.exit 0))))
  (.seq (.block 1 (.seq (.post (.draw [⟨0, ⟨(some 17), .op (.mv (.tmp 0)), none⟩, []⟩,
    ⟨1, ⟨(some 18), .op (.mv (.tmp 5)), none⟩, []⟩,
    ⟨2, ⟨(some 19), .op (.iaddrS (.tmp 17) (.tmp 18) 2), none⟩, []⟩,
    ⟨3, ⟨(some 20), .op (.load 2 true (.tmp 19)), none⟩, []⟩,
    ⟨4, ⟨(some 21), .op (.mv (.tmp 1)), none⟩, []⟩,
    ⟨5, ⟨(some 22), .op (.mv (.tmp 5)), none⟩, []⟩,
    ⟨6, ⟨(some 23), .op (.iaddrS (.tmp 21) (.tmp 22) 2), none⟩, []⟩,
    ⟨7, ⟨(some 24), .op (.load 2 true (.tmp 23)), none⟩, []⟩,
    ⟨8, ⟨(some 25), .call (.func i_laws_eqOutMove) [(.tmp 20), (.tmp 24)], none⟩, []⟩,
    ⟨9, ⟨(some 26), .op (.un .not (.tmp 25)), none⟩, []⟩]
    [0, 0, 3, 7, 0, 0, 48, 112, 255, 511]) (.kill [17, 18, 19, 20, 21, 22, 23, 24, 25]))
  (.cond (.tmp 26) (.ghost (.kill [0, 1, 5, 26]) (.seq (.reg [⟨(some 4), .op (.mv (.const (Value.bool false))), none⟩])
  .ret))
  (.ghost (.kill [26]) .skip))))
  (.post (.reg [⟨(some 15), .op (.mv (.tmp 5)), none⟩,
    ⟨(some 16), .op (.bin .add (.tmp 15) (.const (Value.int .i64 1))), none⟩,
    ⟨(some 5), .op (.mv (.tmp 16)), none⟩]) (.kill [15, 16]))))
def lo_laws_eqOutMoveS_0 : AC := (.loop lb_laws_eqOutMoveS_0)
def ac_laws_eqOutMoveS : AC := (.seq (.post (.reg [⟨(some 4), .op (.mv (.const (Value.bool false))), none⟩]) (.kill [4]))
  (.seq (.seq (.post (.reg [⟨(some 6), .op (.mv (.tmp 0)), none⟩,
    ⟨(some 7), .op (.len false (.tmp 6)), none⟩,
    ⟨(some 8), .op (.mv (.tmp 1)), none⟩,
    ⟨(some 9), .op (.len false (.tmp 8)), none⟩,
    ⟨(some 10), .op (.bin .neq (.tmp 7) (.tmp 9)), none⟩]) (.kill [6, 7, 8, 9]))
  (.cond (.tmp 10) (.ghost (.kill [0, 1, 10]) (.seq (.reg [⟨(some 4), .op (.mv (.const (Value.bool false))), none⟩])
  .ret))
  (.ghost (.kill [10]) .skip)))
  (.seq (.seq (.reg [⟨(some 5), .op (.mv (.const (Value.int .i64 0))), none⟩])
  (.block 0 lo_laws_eqOutMoveS_0))
  (.ghost (.kill [0, 1, 5]) (.seq (.reg [⟨(some 4), .op (.mv (.const (Value.bool true))), none⟩])
  .ret)))))
theorem cf_laws_eqOutMoveS : chkFn Try.prog i_laws_eqOutMoveS ac_laws_eqOutMoveS [.tmp 4] 27 = true := by decide +kernel
def fa_laws_eqOutMoveS : FnA := ⟨ac_laws_eqOutMoveS, [.tmp 4], 27, false, true, [], .any, none⟩

/-- The checked code of laws eqOutMoveSS. -/
def lb_laws_eqOutMoveSS_0 : AC := (.seq (.seq (.post (.reg [⟨(some 11), .op (.mv (.tmp 5)), none⟩,
    ⟨(some 12), .op (.mv (.tmp 0)), none⟩,
    ⟨(some 13), .op (.len false (.tmp 12)), none⟩,
    ⟨(some 14), .op (.bin .lss (.tmp 11) (.tmp 13)), none⟩]) (.kill [11, 12, 13]))
  (.cond (.tmp 14) (.ghost (.kill [14]) .skip)
  (.ghost (.kill [0, 1, 5, 14]) (.exit 0))))
  (.seq (.block 1 (.seq (.post (.draw [⟨0, ⟨(some 17), .op (.mv (.tmp 0)), none⟩, []⟩,
    ⟨1, ⟨(some 18), .op (.mv (.tmp 5)), none⟩, []⟩,
    ⟨2, ⟨(some 19), .op (.iaddrS (.tmp 17) (.tmp 18) 1), none⟩, []⟩,
    ⟨3, ⟨(some 20), .op (.load 1 false (.tmp 19)), none⟩, []⟩,
    ⟨4, ⟨(some 21), .op (.mv (.tmp 1)), none⟩, []⟩,
    ⟨5, ⟨(some 22), .op (.mv (.tmp 5)), none⟩, []⟩,
    ⟨6, ⟨(some 23), .op (.iaddrS (.tmp 21) (.tmp 22) 1), none⟩, []⟩,
    ⟨7, ⟨(some 24), .op (.load 1 false (.tmp 23)), none⟩, []⟩,
    ⟨8, ⟨(some 25), .call (.func i_laws_eqOutMoveS) [(.tmp 20), (.tmp 24)], none⟩, []⟩,
    ⟨9, ⟨(some 26), .op (.un .not (.tmp 25)), none⟩, []⟩]
    [0, 0, 3, 7, 0, 0, 48, 112, 255, 511]) (.kill [17, 18, 19, 20, 21, 22, 23, 24, 25]))
  (.cond (.tmp 26) (.ghost (.kill [0, 1, 5, 26]) (.seq (.reg [⟨(some 4), .op (.mv (.const (Value.bool false))), none⟩])
  .ret))
  (.ghost (.kill [26]) .skip))))
  (.post (.reg [⟨(some 15), .op (.mv (.tmp 5)), none⟩,
    ⟨(some 16), .op (.bin .add (.tmp 15) (.const (Value.int .i64 1))), none⟩,
    ⟨(some 5), .op (.mv (.tmp 16)), none⟩]) (.kill [15, 16]))))
def lo_laws_eqOutMoveSS_0 : AC := (.loop lb_laws_eqOutMoveSS_0)
def ac_laws_eqOutMoveSS : AC := (.seq (.post (.reg [⟨(some 4), .op (.mv (.const (Value.bool false))), none⟩]) (.kill [4]))
  (.seq (.seq (.post (.reg [⟨(some 6), .op (.mv (.tmp 0)), none⟩,
    ⟨(some 7), .op (.len false (.tmp 6)), none⟩,
    ⟨(some 8), .op (.mv (.tmp 1)), none⟩,
    ⟨(some 9), .op (.len false (.tmp 8)), none⟩,
    ⟨(some 10), .op (.bin .neq (.tmp 7) (.tmp 9)), none⟩]) (.kill [6, 7, 8, 9]))
  (.cond (.tmp 10) (.ghost (.kill [0, 1, 10]) (.seq (.reg [⟨(some 4), .op (.mv (.const (Value.bool false))), none⟩])
  .ret))
  (.ghost (.kill [10]) .skip)))
  (.seq (.seq (.reg [⟨(some 5), .op (.mv (.const (Value.int .i64 0))), none⟩])
  (.block 0 lo_laws_eqOutMoveSS_0))
  (.ghost (.kill [0, 1, 5]) (.seq (.reg [⟨(some 4), .op (.mv (.const (Value.bool true))), none⟩])
  .ret)))))
theorem cf_laws_eqOutMoveSS : chkFn Try.prog i_laws_eqOutMoveSS ac_laws_eqOutMoveSS [.tmp 4] 27 = true := by decide +kernel
def fa_laws_eqOutMoveSS : FnA := ⟨ac_laws_eqOutMoveSS, [.tmp 4], 27, false, true, [], .any, none⟩

/-- The checked code of laws eqOutMoveSSS. -/
def lb_laws_eqOutMoveSSS_0 : AC := (.seq (.seq (.post (.reg [⟨(some 11), .op (.mv (.tmp 5)), none⟩,
    ⟨(some 12), .op (.mv (.tmp 0)), none⟩,
    ⟨(some 13), .op (.len false (.tmp 12)), none⟩,
    ⟨(some 14), .op (.bin .lss (.tmp 11) (.tmp 13)), none⟩]) (.kill [11, 12, 13]))
  (.cond (.tmp 14) (.ghost (.kill [14]) .skip)
  (.ghost (.kill [0, 1, 5, 14]) (.exit 0))))
  (.seq (.block 1 (.seq (.post (.draw [⟨0, ⟨(some 17), .op (.mv (.tmp 0)), none⟩, []⟩,
    ⟨1, ⟨(some 18), .op (.mv (.tmp 5)), none⟩, []⟩,
    ⟨2, ⟨(some 19), .op (.iaddrS (.tmp 17) (.tmp 18) 1), none⟩, []⟩,
    ⟨3, ⟨(some 20), .op (.load 1 false (.tmp 19)), none⟩, []⟩,
    ⟨4, ⟨(some 21), .op (.mv (.tmp 1)), none⟩, []⟩,
    ⟨5, ⟨(some 22), .op (.mv (.tmp 5)), none⟩, []⟩,
    ⟨6, ⟨(some 23), .op (.iaddrS (.tmp 21) (.tmp 22) 1), none⟩, []⟩,
    ⟨7, ⟨(some 24), .op (.load 1 false (.tmp 23)), none⟩, []⟩,
    ⟨8, ⟨(some 25), .call (.func i_laws_eqOutMoveSS) [(.tmp 20), (.tmp 24)], none⟩, []⟩,
    ⟨9, ⟨(some 26), .op (.un .not (.tmp 25)), none⟩, []⟩]
    [0, 0, 3, 7, 0, 0, 48, 112, 255, 511]) (.kill [17, 18, 19, 20, 21, 22, 23, 24, 25]))
  (.cond (.tmp 26) (.ghost (.kill [0, 1, 5, 26]) (.seq (.reg [⟨(some 4), .op (.mv (.const (Value.bool false))), none⟩])
  .ret))
  (.ghost (.kill [26]) .skip))))
  (.post (.reg [⟨(some 15), .op (.mv (.tmp 5)), none⟩,
    ⟨(some 16), .op (.bin .add (.tmp 15) (.const (Value.int .i64 1))), none⟩,
    ⟨(some 5), .op (.mv (.tmp 16)), none⟩]) (.kill [15, 16]))))
def lo_laws_eqOutMoveSSS_0 : AC := (.loop lb_laws_eqOutMoveSSS_0)
def ac_laws_eqOutMoveSSS : AC := (.seq (.post (.reg [⟨(some 4), .op (.mv (.const (Value.bool false))), none⟩]) (.kill [4]))
  (.seq (.seq (.post (.reg [⟨(some 6), .op (.mv (.tmp 0)), none⟩,
    ⟨(some 7), .op (.len false (.tmp 6)), none⟩,
    ⟨(some 8), .op (.mv (.tmp 1)), none⟩,
    ⟨(some 9), .op (.len false (.tmp 8)), none⟩,
    ⟨(some 10), .op (.bin .neq (.tmp 7) (.tmp 9)), none⟩]) (.kill [6, 7, 8, 9]))
  (.cond (.tmp 10) (.ghost (.kill [0, 1, 10]) (.seq (.reg [⟨(some 4), .op (.mv (.const (Value.bool false))), none⟩])
  .ret))
  (.ghost (.kill [10]) .skip)))
  (.seq (.seq (.reg [⟨(some 5), .op (.mv (.const (Value.int .i64 0))), none⟩])
  (.block 0 lo_laws_eqOutMoveSSS_0))
  (.ghost (.kill [0, 1, 5]) (.seq (.reg [⟨(some 4), .op (.mv (.const (Value.bool true))), none⟩])
  .ret)))))
theorem cf_laws_eqOutMoveSSS : chkFn Try.prog i_laws_eqOutMoveSSS ac_laws_eqOutMoveSSS [.tmp 4] 27 = true := by decide +kernel
def fa_laws_eqOutMoveSSS : FnA := ⟨ac_laws_eqOutMoveSSS, [.tmp 4], 27, false, true, [], .any, none⟩

/-- The checked code of laws eqRewriter. -/
def ac_laws_eqRewriter : AC := (.seq (.post (.reg [⟨(some 2), .op (.box true (.tmp 0)), none⟩,
    ⟨(some 3), .op (.box true (.tmp 1)), none⟩,
    ⟨(some 4), .op (.mv (.const (Value.bool false))), none⟩]) (.kill [0, 1, 4]))
  (.seq (.seq (.post (.reg [⟨(some 5), .op (.faddr (.tmp 2) 0), none⟩,
    ⟨(some 6), .op (.load 1 false (.tmp 5)), none⟩,
    ⟨(some 7), .op (.faddr (.tmp 3) 0), none⟩,
    ⟨(some 8), .op (.load 1 false (.tmp 7)), none⟩,
    ⟨(some 9), .op (.bin .neq (.tmp 6) (.tmp 8)), none⟩]) (.kill [5, 6, 7, 8]))
  (.cond (.tmp 9) (.ghost (.kill [2, 3, 9]) (.seq (.reg [⟨(some 4), .op (.mv (.const (Value.bool false))), none⟩])
  .ret))
  (.ghost (.kill [9]) .skip)))
  (.seq (.seq (.post (.reg [⟨(some 10), .op (.faddr (.tmp 2) 1), none⟩,
    ⟨(some 11), .op (.load 1 false (.tmp 10)), none⟩,
    ⟨(some 12), .op (.faddr (.tmp 3) 1), none⟩,
    ⟨(some 13), .op (.load 1 false (.tmp 12)), none⟩,
    ⟨(some 14), .op (.bin .neq (.tmp 11) (.tmp 13)), none⟩]) (.kill [10, 11, 12, 13]))
  (.cond (.tmp 14) (.ghost (.kill [2, 3, 14]) (.seq (.reg [⟨(some 4), .op (.mv (.const (Value.bool false))), none⟩])
  .ret))
  (.ghost (.kill [14]) .skip)))
  (.seq (.seq (.post (.reg [⟨(some 15), .op (.faddr (.tmp 2) 2), none⟩,
    ⟨(some 16), .op (.load 1 false (.tmp 15)), none⟩,
    ⟨(some 17), .op (.faddr (.tmp 3) 2), none⟩,
    ⟨(some 18), .op (.load 1 false (.tmp 17)), none⟩,
    ⟨(some 19), .call (.func i_laws_eqOutPushSS) [(.tmp 16), (.tmp 18)], none⟩,
    ⟨(some 20), .op (.un .not (.tmp 19)), none⟩]) (.kill [15, 16, 17, 18, 19]))
  (.cond (.tmp 20) (.ghost (.kill [2, 3, 20]) (.seq (.reg [⟨(some 4), .op (.mv (.const (Value.bool false))), none⟩])
  .ret))
  (.ghost (.kill [20]) .skip)))
  (.seq (.seq (.post (.reg [⟨(some 21), .op (.faddr (.tmp 2) 3), none⟩,
    ⟨(some 22), .op (.load 1 false (.tmp 21)), none⟩,
    ⟨(some 23), .op (.faddr (.tmp 3) 3), none⟩,
    ⟨(some 24), .op (.load 1 false (.tmp 23)), none⟩,
    ⟨(some 25), .call (.func i_laws_eqOutMoveSSS) [(.tmp 22), (.tmp 24)], none⟩,
    ⟨(some 26), .op (.un .not (.tmp 25)), none⟩]) (.kill [21, 22, 23, 24, 25]))
  (.cond (.tmp 26) (.ghost (.kill [2, 3, 26]) (.seq (.reg [⟨(some 4), .op (.mv (.const (Value.bool false))), none⟩])
  .ret))
  (.ghost (.kill [26]) .skip)))
  (.seq (.seq (.post (.reg [⟨(some 27), .op (.faddr (.tmp 2) 4), none⟩,
    ⟨(some 28), .op (.load 1 false (.tmp 27)), none⟩,
    ⟨(some 29), .op (.faddr (.tmp 3) 4), none⟩,
    ⟨(some 30), .op (.load 1 false (.tmp 29)), none⟩,
    ⟨(some 31), .call (.func i_laws_eqOutMoveSS) [(.tmp 28), (.tmp 30)], none⟩,
    ⟨(some 32), .op (.un .not (.tmp 31)), none⟩]) (.kill [2, 3, 27, 28, 29, 30, 31]))
  (.cond (.tmp 32) (.ghost (.kill [32]) (.seq (.reg [⟨(some 4), .op (.mv (.const (Value.bool false))), none⟩])
  .ret))
  (.ghost (.kill [32]) .skip)))
  (.seq (.reg [⟨(some 4), .op (.mv (.const (Value.bool true))), none⟩])
  .ret)))))))
theorem cf_laws_eqRewriter : chkFn Try.prog i_laws_eqRewriter ac_laws_eqRewriter [.tmp 4] 33 = true := by decide +kernel
def fa_laws_eqRewriter : FnA := ⟨ac_laws_eqRewriter, [.tmp 4], 33, false, true, [(.agg [.any, .any, (.lst 1 (.lst 3 .any)), (.lst 1 (.lst 1 (.lst 2 .any))), (.lst 1 (.lst 2 .any))]), (.agg [.any, .any, (.lst 1 (.lst 3 .any)), (.lst 1 (.lst 1 (.lst 2 .any))), (.lst 1 (.lst 2 .any))])], .any, none⟩

/-- The checked code of laws markText. -/
def lb_laws_markText_0 : AC := (.post (.seq (.seq (.post (.reg [⟨(some 6), .op (.mv (.tmp 0)), none⟩,
    ⟨(some 7), .op (.bin .gtr (.tmp 6) (.const (Value.int .i64 0))), none⟩]) (.kill [6]))
  (.cond (.tmp 7) (.ghost (.kill [7]) .skip)
  (.ghost (.kill [0, 7]) (.exit 0))))
  (.block 1 (.seq (.post (.reg [⟨(some 8), .op (.mv (.tmp 0)), none⟩,
    ⟨(some 9), .op (.bin .rem (.tmp 8) (.const (Value.int .i64 10))), none⟩,
    ⟨(some 10), .op (.bin .add (.const (Value.int .i64 48)) (.tmp 9)), none⟩,
    ⟨(some 11), .op (.conv .u8 (.tmp 10)), none⟩,
    ⟨(some 12), .op (.lits false 1 1 (Value.int .u8 0) [(0, (.tmp 11))]), none⟩,
    ⟨(some 13), .op (.b2s (.tmp 12)), none⟩,
    ⟨(some 14), .op (.mv (.tmp 3)), none⟩,
    ⟨(some 15), .op (.bin .add (.tmp 13) (.tmp 14)), none⟩,
    ⟨(some 3), .op (.mv (.tmp 15)), none⟩]) (.kill [8, 9, 10, 11, 12, 13, 14, 15]))
  (.post (.reg [⟨(some 16), .op (.mv (.tmp 0)), none⟩,
    ⟨(some 17), .op (.bin .quo (.tmp 16) (.const (Value.int .i64 10))), none⟩,
    ⟨(some 0), .op (.mv (.tmp 17)), none⟩]) (.kill [16, 17]))))) .nv)
def lo_laws_markText_0 : AC := (.loop lb_laws_markText_0)
def ac_laws_markText : AC := (.seq (.post (.reg [⟨(some 2), .op (.mv (.const (Value.string ⟨#[]⟩))), none⟩]) (.kill [2]))
  (.seq (.seq (.post (.reg [⟨(some 4), .op (.mv (.tmp 0)), none⟩,
    ⟨(some 5), .op (.bin .leq (.tmp 4) (.const (Value.int .i64 0))), none⟩]) (.kill [4]))
  (.cond (.tmp 5) (.ghost (.kill [0, 5]) (.seq (.reg [⟨(some 2), .op (.mv (.const (Value.string ⟨#[109, 48]⟩))), none⟩])
  .ret))
  (.ghost (.kill [5]) .skip)))
  (.seq (.reg [⟨(some 3), .op (.mv (.const (Value.string ⟨#[]⟩))), none⟩])
  (.seq (.post (.block 0 (.ghost .nv lo_laws_markText_0)) .nv)
  (.ghost (.kill [0]) (.seq (.post (.reg [⟨(some 18), .op (.mv (.tmp 3)), none⟩,
    ⟨(some 19), .op (.bin .add (.const (Value.string ⟨#[109]⟩)) (.tmp 18)), none⟩,
    ⟨(some 2), .op (.mv (.tmp 19)), none⟩]) (.kill [3, 18, 19]))
  .ret))))))
theorem cf_laws_markText : chkFn Try.prog i_laws_markText ac_laws_markText [.tmp 2] 20 = true := by decide +kernel
def fa_laws_markText : FnA := ⟨ac_laws_markText, [.tmp 2], 20, false, true, [], .any, none⟩

/-- The checked code of laws markOutPushS. -/
def lb_laws_markOutPushS_0 : AC := (.seq (.seq (.post (.reg [⟨(some 6), .op (.mv (.tmp 5)), none⟩,
    ⟨(some 7), .op (.mv (.tmp 0)), none⟩,
    ⟨(some 8), .op (.len false (.tmp 7)), none⟩,
    ⟨(some 9), .op (.bin .lss (.tmp 6) (.tmp 8)), none⟩]) (.kill [6, 7, 8]))
  (.cond (.tmp 9) (.ghost (.kill [9]) .skip)
  (.ghost (.kill [0, 5, 9]) (.exit 0))))
  (.seq (.block 1 (.seq (.post (.reg [⟨(some 12), .op (.mv (.tmp 0)), none⟩,
    ⟨(some 13), .op (.mv (.tmp 5)), none⟩,
    ⟨(some 14), .op (.mv (.tmp 1)), none⟩,
    ⟨(some 15), .op (.iaddrS (.tmp 12) (.tmp 13) 3), none⟩,
    ⟨(some 16), .op (.faddr (.tmp 15) 0), none⟩,
    ⟨none, .op (.store 1 (.tmp 16) (.tmp 14)), none⟩]) (.kill [12, 13, 14, 15, 16]))
  (.seq (.post (.reg [⟨(some 17), .op (.mv (.tmp 1)), none⟩,
    ⟨(some 18), .op (.bin .add (.tmp 17) (.const (Value.int .i64 1))), none⟩,
    ⟨(some 1), .op (.mv (.tmp 18)), none⟩]) (.kill [17, 18]))
  (.seq (.post (.reg [⟨(some 19), .op (.mv (.tmp 0)), none⟩,
    ⟨(some 20), .op (.mv (.tmp 5)), none⟩,
    ⟨(some 21), .op (.mv (.tmp 1)), none⟩,
    ⟨(some 22), .op (.iaddrS (.tmp 19) (.tmp 20) 3), none⟩,
    ⟨(some 23), .op (.faddr (.tmp 22) 1), none⟩,
    ⟨none, .op (.store 1 (.tmp 23) (.tmp 21)), none⟩]) (.kill [19, 20, 21, 22, 23]))
  (.seq (.post (.reg [⟨(some 24), .op (.mv (.tmp 1)), none⟩,
    ⟨(some 25), .op (.bin .add (.tmp 24) (.const (Value.int .i64 1))), none⟩,
    ⟨(some 1), .op (.mv (.tmp 25)), none⟩]) (.kill [24, 25]))
  (.seq (.post (.reg [⟨(some 26), .op (.mv (.tmp 0)), none⟩,
    ⟨(some 27), .op (.mv (.tmp 5)), none⟩,
    ⟨(some 28), .op (.mv (.tmp 1)), none⟩,
    ⟨(some 29), .call (.func i_laws_markText) [(.tmp 28)], none⟩,
    ⟨(some 30), .op (.iaddrS (.tmp 26) (.tmp 27) 3), none⟩,
    ⟨(some 31), .op (.faddr (.tmp 30) 2), none⟩,
    ⟨none, .op (.store 1 (.tmp 31) (.tmp 29)), none⟩]) (.kill [26, 27, 28, 29, 30, 31]))
  (.post (.reg [⟨(some 32), .op (.mv (.tmp 1)), none⟩,
    ⟨(some 33), .op (.bin .add (.tmp 32) (.const (Value.int .i64 1))), none⟩,
    ⟨(some 1), .op (.mv (.tmp 33)), none⟩]) (.kill [32, 33]))))))))
  (.post (.reg [⟨(some 10), .op (.mv (.tmp 5)), none⟩,
    ⟨(some 11), .op (.bin .add (.tmp 10) (.const (Value.int .i64 1))), none⟩,
    ⟨(some 5), .op (.mv (.tmp 11)), none⟩]) (.kill [10, 11]))))
def lo_laws_markOutPushS_0 : AC := (.loop lb_laws_markOutPushS_0)
def ac_laws_markOutPushS : AC := (.seq (.post (.reg [⟨(some 4), .op (.mv (.const (Value.int .i64 0))), none⟩]) (.kill [4]))
  (.seq (.seq (.reg [⟨(some 5), .op (.mv (.const (Value.int .i64 0))), none⟩])
  (.block 0 lo_laws_markOutPushS_0))
  (.ghost (.kill [0, 5]) (.seq (.post (.reg [⟨(some 34), .op (.mv (.tmp 1)), none⟩,
    ⟨(some 4), .op (.mv (.tmp 34)), none⟩]) (.kill [1, 34]))
  .ret))))
theorem cf_laws_markOutPushS : chkFn Try.prog i_laws_markOutPushS ac_laws_markOutPushS [.tmp 4] 35 = true := by decide +kernel
def fa_laws_markOutPushS : FnA := ⟨ac_laws_markOutPushS, [.tmp 4], 35, true, false, [], .any, none⟩

/-- The checked code of laws markOutPushSS. -/
def lb_laws_markOutPushSS_0 : AC := (.seq (.seq (.post (.reg [⟨(some 6), .op (.mv (.tmp 5)), none⟩,
    ⟨(some 7), .op (.mv (.tmp 0)), none⟩,
    ⟨(some 8), .op (.len false (.tmp 7)), none⟩,
    ⟨(some 9), .op (.bin .lss (.tmp 6) (.tmp 8)), none⟩]) (.kill [6, 7, 8]))
  (.cond (.tmp 9) (.ghost (.kill [9]) .skip)
  (.ghost (.kill [0, 5, 9]) (.exit 0))))
  (.seq (.block 1 (.post (.reg [⟨(some 12), .op (.mv (.tmp 0)), none⟩,
    ⟨(some 13), .op (.mv (.tmp 5)), none⟩,
    ⟨(some 14), .op (.iaddrS (.tmp 12) (.tmp 13) 1), none⟩,
    ⟨(some 15), .op (.load 1 false (.tmp 14)), none⟩,
    ⟨(some 16), .op (.mv (.tmp 1)), none⟩,
    ⟨(some 17), .call (.func i_laws_markOutPushS) [(.tmp 15), (.tmp 16)], none⟩,
    ⟨(some 1), .op (.mv (.tmp 17)), none⟩]) (.kill [12, 13, 14, 15, 16, 17])))
  (.post (.reg [⟨(some 10), .op (.mv (.tmp 5)), none⟩,
    ⟨(some 11), .op (.bin .add (.tmp 10) (.const (Value.int .i64 1))), none⟩,
    ⟨(some 5), .op (.mv (.tmp 11)), none⟩]) (.kill [10, 11]))))
def lo_laws_markOutPushSS_0 : AC := (.loop lb_laws_markOutPushSS_0)
def ac_laws_markOutPushSS : AC := (.seq (.post (.reg [⟨(some 4), .op (.mv (.const (Value.int .i64 0))), none⟩]) (.kill [4]))
  (.seq (.seq (.reg [⟨(some 5), .op (.mv (.const (Value.int .i64 0))), none⟩])
  (.block 0 lo_laws_markOutPushSS_0))
  (.ghost (.kill [0, 5]) (.seq (.post (.reg [⟨(some 18), .op (.mv (.tmp 1)), none⟩,
    ⟨(some 4), .op (.mv (.tmp 18)), none⟩]) (.kill [1, 18]))
  .ret))))
theorem cf_laws_markOutPushSS : chkFn Try.prog i_laws_markOutPushSS ac_laws_markOutPushSS [.tmp 4] 19 = true := by decide +kernel
def fa_laws_markOutPushSS : FnA := ⟨ac_laws_markOutPushSS, [.tmp 4], 19, true, false, [], .any, none⟩

/-- The checked code of laws markOutMoveS. -/
def lb_laws_markOutMoveS_0 : AC := (.seq (.seq (.post (.reg [⟨(some 6), .op (.mv (.tmp 5)), none⟩,
    ⟨(some 7), .op (.mv (.tmp 0)), none⟩,
    ⟨(some 8), .op (.len false (.tmp 7)), none⟩,
    ⟨(some 9), .op (.bin .lss (.tmp 6) (.tmp 8)), none⟩]) (.kill [6, 7, 8]))
  (.cond (.tmp 9) (.ghost (.kill [9]) .skip)
  (.ghost (.kill [0, 5, 9]) (.exit 0))))
  (.seq (.block 1 (.seq (.post (.reg [⟨(some 12), .op (.mv (.tmp 0)), none⟩,
    ⟨(some 13), .op (.mv (.tmp 5)), none⟩,
    ⟨(some 14), .op (.mv (.tmp 1)), none⟩,
    ⟨(some 15), .op (.iaddrS (.tmp 12) (.tmp 13) 2), none⟩,
    ⟨(some 16), .op (.faddr (.tmp 15) 0), none⟩,
    ⟨none, .op (.store 1 (.tmp 16) (.tmp 14)), none⟩]) (.kill [12, 13, 14, 15, 16]))
  (.seq (.post (.reg [⟨(some 17), .op (.mv (.tmp 1)), none⟩,
    ⟨(some 18), .op (.bin .add (.tmp 17) (.const (Value.int .i64 1))), none⟩,
    ⟨(some 1), .op (.mv (.tmp 18)), none⟩]) (.kill [17, 18]))
  (.seq (.post (.reg [⟨(some 19), .op (.mv (.tmp 0)), none⟩,
    ⟨(some 20), .op (.mv (.tmp 5)), none⟩,
    ⟨(some 21), .op (.mv (.tmp 1)), none⟩,
    ⟨(some 22), .call (.func i_laws_markText) [(.tmp 21)], none⟩,
    ⟨(some 23), .op (.iaddrS (.tmp 19) (.tmp 20) 2), none⟩,
    ⟨(some 24), .op (.faddr (.tmp 23) 1), none⟩,
    ⟨none, .op (.store 1 (.tmp 24) (.tmp 22)), none⟩]) (.kill [19, 20, 21, 22, 23, 24]))
  (.post (.reg [⟨(some 25), .op (.mv (.tmp 1)), none⟩,
    ⟨(some 26), .op (.bin .add (.tmp 25) (.const (Value.int .i64 1))), none⟩,
    ⟨(some 1), .op (.mv (.tmp 26)), none⟩]) (.kill [25, 26]))))))
  (.post (.reg [⟨(some 10), .op (.mv (.tmp 5)), none⟩,
    ⟨(some 11), .op (.bin .add (.tmp 10) (.const (Value.int .i64 1))), none⟩,
    ⟨(some 5), .op (.mv (.tmp 11)), none⟩]) (.kill [10, 11]))))
def lo_laws_markOutMoveS_0 : AC := (.loop lb_laws_markOutMoveS_0)
def ac_laws_markOutMoveS : AC := (.seq (.post (.reg [⟨(some 4), .op (.mv (.const (Value.int .i64 0))), none⟩]) (.kill [4]))
  (.seq (.seq (.reg [⟨(some 5), .op (.mv (.const (Value.int .i64 0))), none⟩])
  (.block 0 lo_laws_markOutMoveS_0))
  (.ghost (.kill [0, 5]) (.seq (.post (.reg [⟨(some 27), .op (.mv (.tmp 1)), none⟩,
    ⟨(some 4), .op (.mv (.tmp 27)), none⟩]) (.kill [1, 27]))
  .ret))))
theorem cf_laws_markOutMoveS : chkFn Try.prog i_laws_markOutMoveS ac_laws_markOutMoveS [.tmp 4] 28 = true := by decide +kernel
def fa_laws_markOutMoveS : FnA := ⟨ac_laws_markOutMoveS, [.tmp 4], 28, true, false, [], .any, none⟩

/-- The checked code of laws markOutMoveSS. -/
def lb_laws_markOutMoveSS_0 : AC := (.seq (.seq (.post (.reg [⟨(some 6), .op (.mv (.tmp 5)), none⟩,
    ⟨(some 7), .op (.mv (.tmp 0)), none⟩,
    ⟨(some 8), .op (.len false (.tmp 7)), none⟩,
    ⟨(some 9), .op (.bin .lss (.tmp 6) (.tmp 8)), none⟩]) (.kill [6, 7, 8]))
  (.cond (.tmp 9) (.ghost (.kill [9]) .skip)
  (.ghost (.kill [0, 5, 9]) (.exit 0))))
  (.seq (.block 1 (.post (.reg [⟨(some 12), .op (.mv (.tmp 0)), none⟩,
    ⟨(some 13), .op (.mv (.tmp 5)), none⟩,
    ⟨(some 14), .op (.iaddrS (.tmp 12) (.tmp 13) 1), none⟩,
    ⟨(some 15), .op (.load 1 false (.tmp 14)), none⟩,
    ⟨(some 16), .op (.mv (.tmp 1)), none⟩,
    ⟨(some 17), .call (.func i_laws_markOutMoveS) [(.tmp 15), (.tmp 16)], none⟩,
    ⟨(some 1), .op (.mv (.tmp 17)), none⟩]) (.kill [12, 13, 14, 15, 16, 17])))
  (.post (.reg [⟨(some 10), .op (.mv (.tmp 5)), none⟩,
    ⟨(some 11), .op (.bin .add (.tmp 10) (.const (Value.int .i64 1))), none⟩,
    ⟨(some 5), .op (.mv (.tmp 11)), none⟩]) (.kill [10, 11]))))
def lo_laws_markOutMoveSS_0 : AC := (.loop lb_laws_markOutMoveSS_0)
def ac_laws_markOutMoveSS : AC := (.seq (.post (.reg [⟨(some 4), .op (.mv (.const (Value.int .i64 0))), none⟩]) (.kill [4]))
  (.seq (.seq (.reg [⟨(some 5), .op (.mv (.const (Value.int .i64 0))), none⟩])
  (.block 0 lo_laws_markOutMoveSS_0))
  (.ghost (.kill [0, 5]) (.seq (.post (.reg [⟨(some 18), .op (.mv (.tmp 1)), none⟩,
    ⟨(some 4), .op (.mv (.tmp 18)), none⟩]) (.kill [1, 18]))
  .ret))))
theorem cf_laws_markOutMoveSS : chkFn Try.prog i_laws_markOutMoveSS ac_laws_markOutMoveSS [.tmp 4] 19 = true := by decide +kernel
def fa_laws_markOutMoveSS : FnA := ⟨ac_laws_markOutMoveSS, [.tmp 4], 19, true, false, [], .any, none⟩

/-- The checked code of laws markOutMoveSSS. -/
def lb_laws_markOutMoveSSS_0 : AC := (.seq (.seq (.post (.reg [⟨(some 6), .op (.mv (.tmp 5)), none⟩,
    ⟨(some 7), .op (.mv (.tmp 0)), none⟩,
    ⟨(some 8), .op (.len false (.tmp 7)), none⟩,
    ⟨(some 9), .op (.bin .lss (.tmp 6) (.tmp 8)), none⟩]) (.kill [6, 7, 8]))
  (.cond (.tmp 9) (.ghost (.kill [9]) .skip)
  (.ghost (.kill [0, 5, 9]) (.exit 0))))
  (.seq (.block 1 (.post (.reg [⟨(some 12), .op (.mv (.tmp 0)), none⟩,
    ⟨(some 13), .op (.mv (.tmp 5)), none⟩,
    ⟨(some 14), .op (.iaddrS (.tmp 12) (.tmp 13) 1), none⟩,
    ⟨(some 15), .op (.load 1 false (.tmp 14)), none⟩,
    ⟨(some 16), .op (.mv (.tmp 1)), none⟩,
    ⟨(some 17), .call (.func i_laws_markOutMoveSS) [(.tmp 15), (.tmp 16)], none⟩,
    ⟨(some 1), .op (.mv (.tmp 17)), none⟩]) (.kill [12, 13, 14, 15, 16, 17])))
  (.post (.reg [⟨(some 10), .op (.mv (.tmp 5)), none⟩,
    ⟨(some 11), .op (.bin .add (.tmp 10) (.const (Value.int .i64 1))), none⟩,
    ⟨(some 5), .op (.mv (.tmp 11)), none⟩]) (.kill [10, 11]))))
def lo_laws_markOutMoveSSS_0 : AC := (.loop lb_laws_markOutMoveSSS_0)
def ac_laws_markOutMoveSSS : AC := (.seq (.post (.reg [⟨(some 4), .op (.mv (.const (Value.int .i64 0))), none⟩]) (.kill [4]))
  (.seq (.seq (.reg [⟨(some 5), .op (.mv (.const (Value.int .i64 0))), none⟩])
  (.block 0 lo_laws_markOutMoveSSS_0))
  (.ghost (.kill [0, 5]) (.seq (.post (.reg [⟨(some 18), .op (.mv (.tmp 1)), none⟩,
    ⟨(some 4), .op (.mv (.tmp 18)), none⟩]) (.kill [1, 18]))
  .ret))))
theorem cf_laws_markOutMoveSSS : chkFn Try.prog i_laws_markOutMoveSSS ac_laws_markOutMoveSSS [.tmp 4] 19 = true := by decide +kernel
def fa_laws_markOutMoveSSS : FnA := ⟨ac_laws_markOutMoveSSS, [.tmp 4], 19, true, false, [], .any, none⟩

/-- The checked code of laws markRewriter. -/
def ac_laws_markRewriter : AC := (.seq (.post (.reg [⟨(some 2), .op (.box false (.tmp 0)), none⟩,
    ⟨(some 4), .op (.mv (.const (Value.int .i64 0))), none⟩]) (.kill [0, 4]))
  (.seq (.post (.reg [⟨(some 5), .op (.faddr (.tmp 2) 2), none⟩,
    ⟨(some 6), .op (.load 1 false (.tmp 5)), none⟩,
    ⟨(some 7), .op (.mv (.tmp 1)), none⟩,
    ⟨(some 8), .call (.func i_laws_markOutPushSS) [(.tmp 6), (.tmp 7)], none⟩,
    ⟨(some 1), .op (.mv (.tmp 8)), none⟩]) (.kill [5, 6, 7, 8]))
  (.seq (.post (.reg [⟨(some 9), .op (.faddr (.tmp 2) 3), none⟩,
    ⟨(some 10), .op (.load 1 false (.tmp 9)), none⟩,
    ⟨(some 11), .op (.mv (.tmp 1)), none⟩,
    ⟨(some 12), .call (.func i_laws_markOutMoveSSS) [(.tmp 10), (.tmp 11)], none⟩,
    ⟨(some 1), .op (.mv (.tmp 12)), none⟩]) (.kill [9, 10, 11, 12]))
  (.seq (.post (.reg [⟨(some 13), .op (.faddr (.tmp 2) 4), none⟩,
    ⟨(some 14), .op (.load 1 false (.tmp 13)), none⟩,
    ⟨(some 15), .op (.mv (.tmp 1)), none⟩,
    ⟨(some 16), .call (.func i_laws_markOutMoveSS) [(.tmp 14), (.tmp 15)], none⟩,
    ⟨(some 1), .op (.mv (.tmp 16)), none⟩]) (.kill [2, 13, 14, 15, 16]))
  (.seq (.post (.reg [⟨(some 17), .op (.mv (.tmp 1)), none⟩,
    ⟨(some 4), .op (.mv (.tmp 17)), none⟩]) (.kill [1, 17]))
  .ret)))))
theorem cf_laws_markRewriter : chkFn Try.prog i_laws_markRewriter ac_laws_markRewriter [.tmp 4] 18 = true := by decide +kernel
def fa_laws_markRewriter : FnA := ⟨ac_laws_markRewriter, [.tmp 4], 18, true, false, [], .any, none⟩

/-- The checked code of laws FnExactRewriteOn. -/
def ac_laws_FnExactRewriteOn : AC := (.seq (.post (.reg [⟨(some 4), .op (.box true (.tmp 0)), none⟩,
    ⟨(some 8), .op (.mv (.const (Value.bool false))), none⟩]) (.kill [0, 8]))
  (.seq (.seq (.post (.reg [⟨(some 27), .op (.mv (.tmp 2)), none⟩,
    ⟨(some 28), .op (.len false (.tmp 27)), none⟩,
    ⟨(some 29), .op (.bin .gtr (.tmp 28) (.const (Value.int .i64 1048576))), none⟩]) (.kill [27, 28]))
  (.cond (.tmp 29) (.ghost (.kill [1, 2, 3, 4, 29]) (.seq (.reg [⟨(some 8), .op (.mv (.const (Value.bool true))), none⟩])
  .ret))
  (.ghost (.kill [29]) .skip)))
  (.seq (.seq (.post (.reg [⟨(some 30), .op (.mv (.tmp 3)), none⟩,
    ⟨(some 31), .op (.len true (.tmp 30)), none⟩,
    ⟨(some 32), .op (.bin .gtr (.tmp 31) (.const (Value.int .i64 1048576))), none⟩]) (.kill [30, 31]))
  (.cond (.tmp 32) (.ghost (.kill [1, 2, 3, 4, 32]) (.seq (.reg [⟨(some 8), .op (.mv (.const (Value.bool true))), none⟩])
  .ret))
  (.ghost (.kill [32]) .skip)))
  (.seq (.reg [⟨(some 9), .op (.mv (.const (Value.int .i64 1048576))), none⟩])
  (.seq (.post (.reg [⟨(some 33), .op (.load 5 true (.tmp 4)), none⟩,
    ⟨(some 34), .op (.mv (.tmp 9)), none⟩,
    ⟨(some 35), .call (.func i_laws_szRewriter) [(.tmp 33), (.tmp 34)], none⟩,
    ⟨(some 9), .op (.mv (.tmp 35)), none⟩]) (.kill [33, 34, 35]))
  (.seq (.seq (.post (.reg [⟨(some 36), .op (.mv (.tmp 9)), none⟩,
    ⟨(some 37), .op (.bin .lss (.tmp 36) (.const (Value.int .i64 0))), none⟩]) (.kill [9, 36]))
  (.cond (.tmp 37) (.ghost (.kill [1, 2, 3, 4, 37]) (.seq (.reg [⟨(some 8), .op (.mv (.const (Value.bool true))), none⟩])
  .ret))
  (.ghost (.kill [37]) .skip)))
  (.seq (.post (.reg [⟨(some 39), .op (.load 5 true (.tmp 4)), none⟩,
    ⟨(some 40), .call (.func i_laws_toRewriter) [(.tmp 39)] true, none⟩,
    ⟨(some 41), .op (.mv (.tmp 1)), none⟩,
    ⟨(some 42), .op (.mv (.tmp 2)), none⟩,
    ⟨(some 43), .call (.func i_laws_toInt64S) [(.tmp 42)] true, none⟩,
    ⟨(some 44), .op (.mv (.tmp 3)), none⟩,
    ⟨(some 45), .call (.func i_spec_RewriteOn) [(.tmp 40), (.tmp 41), (.tmp 43), (.tmp 44)], none⟩,
    ⟨(some 38), .op (.mv (.tmp 45)), none⟩,
    ⟨(some 46), .op (.ext (.tmp 38) 0), none⟩,
    ⟨(some 47), .op (.ext (.tmp 38) 1), none⟩,
    ⟨(some 48), .op (.ext (.tmp 38) 2), none⟩,
    ⟨(some 49), .op (.ext (.tmp 38) 3), none⟩,
    ⟨(some 10), .op (.mv (.tmp 46)), none⟩,
    ⟨(some 11), .op (.mv (.tmp 47)), none⟩,
    ⟨(some 12), .op (.mv (.tmp 48)), none⟩,
    ⟨(some 13), .op (.mv (.tmp 49)), none⟩]) (.kill [38, 39, 40, 41, 42, 43, 44, 45, 46, 47, 48, 49]))
  (.seq (.post (.reg [⟨(some 50), .op (.load 5 true (.tmp 4)), none⟩,
    ⟨(some 51), .call (.func i_laws_toRewriter) [(.tmp 50)], none⟩,
    ⟨(some 14), .op (.alloc (Value.agg #[Value.int .i64 0, Value.int .i64 0, Value.slice none 0 0, Value.slice none 0 0, Value.slice none 0 0])), none⟩,
    ⟨none, .op (.store 5 (.tmp 14) (.tmp 51)), none⟩]) (.kill [50, 51]))
  (.seq (.post (.reg [⟨(some 52), .op (.mv (.tmp 2)), none⟩,
    ⟨(some 53), .call (.func i_laws_toInt64S) [(.tmp 52)], none⟩,
    ⟨(some 15), .op (.mv (.tmp 53)), none⟩]) (.kill [52, 53]))
  (.seq (.post (.reg [⟨(some 55), .op (.load 5 true (.tmp 14)), none⟩,
    ⟨(some 56), .op (.mv (.tmp 1)), none⟩,
    ⟨(some 57), .op (.mv (.tmp 15)), none⟩,
    ⟨(some 58), .op (.mv (.tmp 3)), none⟩,
    ⟨(some 59), .call (.func i_impl_RewriteOn) [(.tmp 55), (.tmp 56), (.tmp 57), (.tmp 58)], none⟩,
    ⟨(some 54), .op (.mv (.tmp 59)), none⟩,
    ⟨(some 60), .op (.ext (.tmp 54) 0), none⟩,
    ⟨(some 61), .op (.ext (.tmp 54) 1), none⟩,
    ⟨(some 62), .op (.ext (.tmp 54) 2), none⟩,
    ⟨(some 63), .op (.ext (.tmp 54) 3), none⟩,
    ⟨(some 16), .op (.mv (.tmp 60)), none⟩,
    ⟨(some 17), .op (.mv (.tmp 61)), none⟩,
    ⟨(some 18), .op (.mv (.tmp 62)), none⟩,
    ⟨(some 19), .op (.mv (.tmp 63)), none⟩]) (.kill [54, 55, 56, 57, 58, 59, 60, 61, 62, 63]))
  (.seq (.seq (.post (.reg [⟨(some 64), .op (.mv (.tmp 16)), none⟩,
    ⟨(some 65), .op (.mv (.tmp 10)), none⟩,
    ⟨(some 66), .op (.bin .neq (.tmp 64) (.tmp 65)), none⟩,
    ⟨(some 67), .op (.mv (.tmp 66)), none⟩,
    ⟨(some 68), .op (.mv (.tmp 17)), some (67, false)⟩,
    ⟨(some 69), .op (.mv (.tmp 11)), some (67, false)⟩,
    ⟨(some 70), .call (.func i_laws_eqInt64S) [(.tmp 68), (.tmp 69)], some (67, false)⟩,
    ⟨(some 71), .op (.un .not (.tmp 70)), some (67, false)⟩,
    ⟨(some 72), .op (.pick (.tmp 67) (.const (Value.bool true)) (.tmp 71)), none⟩,
    ⟨(some 73), .op (.mv (.tmp 72)), none⟩,
    ⟨(some 74), .op (.mv (.tmp 18)), some (73, false)⟩,
    ⟨(some 75), .op (.mv (.tmp 12)), some (73, false)⟩,
    ⟨(some 76), .op (.bin .neq (.tmp 74) (.tmp 75)), some (73, false)⟩,
    ⟨(some 77), .op (.pick (.tmp 73) (.const (Value.bool true)) (.tmp 76)), none⟩,
    ⟨(some 78), .op (.mv (.tmp 77)), none⟩,
    ⟨(some 79), .op (.mv (.tmp 19)), some (78, false)⟩,
    ⟨(some 80), .op (.mv (.tmp 13)), some (78, false)⟩,
    ⟨(some 81), .op (.bin .neq (.tmp 79) (.tmp 80)), some (78, false)⟩,
    ⟨(some 82), .op (.pick (.tmp 78) (.const (Value.bool true)) (.tmp 81)), none⟩]) (.kill [64, 65, 66, 67, 68, 69, 70, 71, 72, 73, 74, 75, 76, 77, 78, 79, 80, 81]))
  (.cond (.tmp 82) (.ghost (.kill [1, 2, 3, 4, 10, 11, 12, 13, 14, 15, 16, 17, 18, 19, 82]) (.seq (.reg [⟨(some 8), .op (.mv (.const (Value.bool false))), none⟩])
  .ret))
  (.ghost (.kill [82]) .skip)))
  (.seq (.seq (.post (.draw [⟨0, ⟨(some 83), .op (.load 5 true (.tmp 14)), none⟩, []⟩,
    ⟨1, ⟨(some 84), .op (.load 5 true (.tmp 4)), none⟩, []⟩,
    ⟨2, ⟨(some 85), .call (.func i_laws_toRewriter) [(.tmp 84)], none⟩, [0]⟩,
    ⟨3, ⟨(some 86), .call (.func i_laws_eqRewriter) [(.tmp 83), (.tmp 85)], none⟩, []⟩,
    ⟨4, ⟨(some 87), .op (.un .not (.tmp 86)), none⟩, []⟩]
    [0, 0, 2, 7, 15]) (.kill [83, 84, 85, 86]))
  (.cond (.tmp 87) (.ghost (.kill [1, 2, 3, 4, 10, 11, 12, 13, 14, 15, 16, 17, 18, 19, 87]) (.seq (.reg [⟨(some 8), .op (.mv (.const (Value.bool false))), none⟩])
  .ret))
  (.ghost (.kill [87]) .skip)))
  (.seq (.seq (.post (.reg [⟨(some 88), .op (.mv (.tmp 15)), none⟩,
    ⟨(some 89), .op (.mv (.tmp 2)), none⟩,
    ⟨(some 90), .call (.func i_laws_toInt64S) [(.tmp 89)], none⟩,
    ⟨(some 91), .call (.func i_laws_eqInt64S) [(.tmp 88), (.tmp 90)], none⟩,
    ⟨(some 92), .op (.un .not (.tmp 91)), none⟩]) (.kill [88, 89, 90, 91]))
  (.cond (.tmp 92) (.ghost (.kill [1, 2, 3, 4, 10, 11, 12, 13, 14, 15, 16, 17, 18, 19, 92]) (.seq (.reg [⟨(some 8), .op (.mv (.const (Value.bool false))), none⟩])
  .ret))
  (.ghost (.kill [92]) .skip)))
  (.seq (.reg [⟨(some 20), .op (.mv (.const (Value.int .i64 1))), none⟩])
  (.seq (.post (.reg [⟨(some 93), .op (.load 5 true (.tmp 14)), none⟩,
    ⟨(some 94), .op (.mv (.tmp 20)), none⟩,
    ⟨(some 95), .call (.func i_laws_markRewriter) [(.tmp 93), (.tmp 94)], none⟩,
    ⟨(some 20), .op (.mv (.tmp 95)), none⟩]) (.kill [14, 93, 94, 95]))
  (.seq (.post (.reg [⟨(some 96), .op (.mv (.tmp 15)), none⟩,
    ⟨(some 97), .op (.mv (.tmp 20)), none⟩,
    ⟨(some 98), .call (.func i_laws_markInt64S) [(.tmp 96), (.tmp 97)], none⟩,
    ⟨(some 20), .op (.mv (.tmp 98)), none⟩]) (.kill [15, 96, 97, 98]))
  (.seq (.seq (.post (.reg [⟨(some 99), .op (.mv (.tmp 20)), none⟩,
    ⟨(some 100), .op (.bin .lss (.tmp 99) (.const (Value.int .i64 0))), none⟩,
    ⟨(some 101), .op (.mv (.tmp 100)), none⟩,
    ⟨(some 102), .op (.mv (.tmp 16)), some (101, false)⟩,
    ⟨(some 103), .op (.mv (.tmp 10)), some (101, false)⟩,
    ⟨(some 104), .op (.bin .neq (.tmp 102) (.tmp 103)), some (101, false)⟩,
    ⟨(some 105), .op (.pick (.tmp 101) (.const (Value.bool true)) (.tmp 104)), none⟩,
    ⟨(some 106), .op (.mv (.tmp 105)), none⟩,
    ⟨(some 107), .op (.mv (.tmp 17)), some (106, false)⟩,
    ⟨(some 108), .op (.mv (.tmp 11)), some (106, false)⟩,
    ⟨(some 109), .call (.func i_laws_eqInt64S) [(.tmp 107), (.tmp 108)], some (106, false)⟩,
    ⟨(some 110), .op (.un .not (.tmp 109)), some (106, false)⟩,
    ⟨(some 111), .op (.pick (.tmp 106) (.const (Value.bool true)) (.tmp 110)), none⟩,
    ⟨(some 112), .op (.mv (.tmp 111)), none⟩,
    ⟨(some 113), .op (.mv (.tmp 18)), some (112, false)⟩,
    ⟨(some 114), .op (.mv (.tmp 12)), some (112, false)⟩,
    ⟨(some 115), .op (.bin .neq (.tmp 113) (.tmp 114)), some (112, false)⟩,
    ⟨(some 116), .op (.pick (.tmp 112) (.const (Value.bool true)) (.tmp 115)), none⟩,
    ⟨(some 117), .op (.mv (.tmp 116)), none⟩,
    ⟨(some 118), .op (.mv (.tmp 19)), some (117, false)⟩,
    ⟨(some 119), .op (.mv (.tmp 13)), some (117, false)⟩,
    ⟨(some 120), .op (.bin .neq (.tmp 118) (.tmp 119)), some (117, false)⟩,
    ⟨(some 121), .op (.pick (.tmp 117) (.const (Value.bool true)) (.tmp 120)), none⟩]) (.kill [16, 18, 19, 20, 99, 100, 101, 102, 103, 104, 105, 106, 107, 108, 109, 110, 111, 112, 113, 114, 115, 116, 117, 118, 119, 120]))
  (.cond (.tmp 121) (.ghost (.kill [1, 2, 3, 4, 10, 11, 12, 13, 17, 121]) (.seq (.reg [⟨(some 8), .op (.mv (.const (Value.bool false))), none⟩])
  .ret))
  (.ghost (.kill [121]) .skip)))
  (.seq (.reg [⟨(some 21), .op (.mv (.const (Value.int .i64 1))), none⟩])
  (.seq (.post (.reg [⟨(some 122), .op (.mv (.tmp 17)), none⟩,
    ⟨(some 123), .op (.mv (.tmp 21)), none⟩,
    ⟨(some 124), .call (.func i_laws_markInt64S) [(.tmp 122), (.tmp 123)], none⟩,
    ⟨(some 21), .op (.mv (.tmp 124)), none⟩]) (.kill [122, 123, 124]))
  (.seq (.reg [⟨(some 22), .op (.mv (.const (Value.int .i64 1))), none⟩])
  (.seq (.post (.reg [⟨(some 125), .op (.mv (.tmp 17)), none⟩,
    ⟨(some 126), .op (.mv (.tmp 22)), none⟩,
    ⟨(some 127), .call (.func i_laws_heldInt64S) [(.tmp 125), (.tmp 126)], none⟩,
    ⟨(some 22), .op (.mv (.tmp 127)), none⟩]) (.kill [125, 126, 127]))
  (.seq (.seq (.post (.reg [⟨(some 128), .op (.mv (.tmp 22)), none⟩,
    ⟨(some 129), .op (.bin .lss (.tmp 128) (.const (Value.int .i64 0))), none⟩]) (.kill [128]))
  (.cond (.tmp 129) (.ghost (.kill [1, 2, 3, 4, 10, 11, 12, 13, 17, 21, 22, 129]) (.seq (.reg [⟨(some 8), .op (.mv (.const (Value.bool false))), none⟩])
  .ret))
  (.ghost (.kill [129]) .skip)))
  (.seq (.seq (.post (.reg [⟨(some 130), .op (.mv (.tmp 22)), none⟩,
    ⟨(some 131), .op (.mv (.tmp 21)), none⟩,
    ⟨(some 132), .op (.bin .neq (.tmp 130) (.tmp 131)), none⟩]) (.kill [22, 130, 131]))
  (.cond (.tmp 132) (.ghost (.kill [1, 2, 3, 4, 10, 11, 12, 13, 17, 21, 132]) (.seq (.reg [⟨(some 8), .op (.mv (.const (Value.bool false))), none⟩])
  .ret))
  (.ghost (.kill [132]) .skip)))
  (.seq (.post (.reg [⟨(some 134), .op (.load 5 true (.tmp 4)), none⟩,
    ⟨(some 135), .call (.func i_laws_toRewriter) [(.tmp 134)], none⟩,
    ⟨(some 136), .op (.mv (.tmp 1)), none⟩,
    ⟨(some 137), .op (.mv (.tmp 2)), none⟩,
    ⟨(some 138), .call (.func i_laws_toInt64S) [(.tmp 137)], none⟩,
    ⟨(some 139), .op (.mv (.tmp 3)), none⟩,
    ⟨(some 140), .call (.func i_impl_RewriteOn) [(.tmp 135), (.tmp 136), (.tmp 138), (.tmp 139)], none⟩,
    ⟨(some 133), .op (.mv (.tmp 140)), none⟩,
    ⟨(some 141), .op (.ext (.tmp 133) 0), none⟩,
    ⟨(some 142), .op (.ext (.tmp 133) 1), none⟩,
    ⟨(some 143), .op (.ext (.tmp 133) 2), none⟩,
    ⟨(some 144), .op (.ext (.tmp 133) 3), none⟩,
    ⟨(some 23), .op (.mv (.tmp 141)), none⟩,
    ⟨(some 24), .op (.mv (.tmp 142)), none⟩,
    ⟨(some 25), .op (.mv (.tmp 143)), none⟩,
    ⟨(some 26), .op (.mv (.tmp 144)), none⟩]) (.kill [1, 2, 3, 4, 133, 134, 135, 136, 137, 138, 139, 140, 141, 142, 143, 144]))
  (.seq (.seq (.post (.reg [⟨(some 145), .op (.mv (.tmp 23)), none⟩,
    ⟨(some 146), .op (.mv (.tmp 10)), none⟩,
    ⟨(some 147), .op (.bin .neq (.tmp 145) (.tmp 146)), none⟩,
    ⟨(some 148), .op (.mv (.tmp 147)), none⟩,
    ⟨(some 149), .op (.mv (.tmp 24)), some (148, false)⟩,
    ⟨(some 150), .op (.mv (.tmp 11)), some (148, false)⟩,
    ⟨(some 151), .call (.func i_laws_eqInt64S) [(.tmp 149), (.tmp 150)], some (148, false)⟩,
    ⟨(some 152), .op (.un .not (.tmp 151)), some (148, false)⟩,
    ⟨(some 153), .op (.pick (.tmp 148) (.const (Value.bool true)) (.tmp 152)), none⟩,
    ⟨(some 154), .op (.mv (.tmp 153)), none⟩,
    ⟨(some 155), .op (.mv (.tmp 25)), some (154, false)⟩,
    ⟨(some 156), .op (.mv (.tmp 12)), some (154, false)⟩,
    ⟨(some 157), .op (.bin .neq (.tmp 155) (.tmp 156)), some (154, false)⟩,
    ⟨(some 158), .op (.pick (.tmp 154) (.const (Value.bool true)) (.tmp 157)), none⟩,
    ⟨(some 159), .op (.mv (.tmp 158)), none⟩,
    ⟨(some 160), .op (.mv (.tmp 26)), some (159, false)⟩,
    ⟨(some 161), .op (.mv (.tmp 13)), some (159, false)⟩,
    ⟨(some 162), .op (.bin .neq (.tmp 160) (.tmp 161)), some (159, false)⟩,
    ⟨(some 163), .op (.pick (.tmp 159) (.const (Value.bool true)) (.tmp 162)), none⟩]) (.kill [10, 11, 12, 13, 23, 24, 25, 26, 145, 146, 147, 148, 149, 150, 151, 152, 153, 154, 155, 156, 157, 158, 159, 160, 161, 162]))
  (.cond (.tmp 163) (.ghost (.kill [17, 21, 163]) (.seq (.reg [⟨(some 8), .op (.mv (.const (Value.bool false))), none⟩])
  .ret))
  (.ghost (.kill [163]) .skip)))
  (.seq (.reg [⟨(some 22), .op (.mv (.const (Value.int .i64 1))), none⟩])
  (.seq (.post (.reg [⟨(some 164), .op (.mv (.tmp 17)), none⟩,
    ⟨(some 165), .op (.mv (.tmp 22)), none⟩,
    ⟨(some 166), .call (.func i_laws_heldInt64S) [(.tmp 164), (.tmp 165)], none⟩,
    ⟨(some 22), .op (.mv (.tmp 166)), none⟩]) (.kill [17, 164, 165, 166]))
  (.seq (.seq (.post (.reg [⟨(some 167), .op (.mv (.tmp 22)), none⟩,
    ⟨(some 168), .op (.bin .lss (.tmp 167) (.const (Value.int .i64 0))), none⟩]) (.kill [167]))
  (.cond (.tmp 168) (.ghost (.kill [21, 22, 168]) (.seq (.reg [⟨(some 8), .op (.mv (.const (Value.bool false))), none⟩])
  .ret))
  (.ghost (.kill [168]) .skip)))
  (.seq (.seq (.post (.reg [⟨(some 169), .op (.mv (.tmp 22)), none⟩,
    ⟨(some 170), .op (.mv (.tmp 21)), none⟩,
    ⟨(some 171), .op (.bin .neq (.tmp 169) (.tmp 170)), none⟩]) (.kill [21, 22, 169, 170]))
  (.cond (.tmp 171) (.ghost (.kill [171]) (.seq (.reg [⟨(some 8), .op (.mv (.const (Value.bool false))), none⟩])
  .ret))
  (.ghost (.kill [171]) .skip)))
  (.seq (.reg [⟨(some 8), .op (.mv (.const (Value.bool true))), none⟩])
  .ret))))))))))))))))))))))))))))))
theorem cf_laws_FnExactRewriteOn : chkFn Try.prog i_laws_FnExactRewriteOn ac_laws_FnExactRewriteOn [.tmp 8] 172 = true := by decide +kernel
def fa_laws_FnExactRewriteOn : FnA := ⟨ac_laws_FnExactRewriteOn, [.tmp 8], 172, false, true, [], .any, none⟩

end Go.Proofs.Ytjfpmpbdbpgofaa
