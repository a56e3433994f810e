/- The code of the functions, checked against the loaded program; printed by a program (gen2.py). -/
import Derived.Test.YtlahdcofclkjjaaProg
import Derived.Test.YtlahdcofclkjjaaAw25
set_option linter.unusedVariables false
set_option maxRecDepth 100000
namespace Go.Proofs.Ytlahdcofclkjjaa
open Aw

/-! The numbers of the functions. -/
def i_laws_FnExactValidRewriter : FuncId := 3
def i_laws_FnExactEditTrees : FuncId := 4
def i_laws_FnExactUndoTreeEdit : FuncId := 5
def i_laws_FnExactIsStructural : FuncId := 6
def i_laws_FnExactRewrite : FuncId := 7
def i_laws_FnExactTakes : FuncId := 11
def i_laws_szRewriter : FuncId := 12
def i_spec_ValidRewriter : FuncId := 13
def i_laws_toRewriter : FuncId := 14
def i_impl_ValidRewriter : FuncId := 15
def i_laws_eqRewriter : FuncId := 16
def i_laws_szTreeEditS : FuncId := 17
def i_spec_EditTrees : FuncId := 18
def i_laws_toTreeEditS : FuncId := 19
def i_impl_EditTrees : FuncId := 20
def i_laws_eqTreeEditS : FuncId := 21
def i_laws_szTreeEdit : FuncId := 22
def i_spec_UndoTreeEdit : FuncId := 23
def i_laws_toTreeEdit : FuncId := 24
def i_impl_UndoTreeEdit : FuncId := 25
def i_laws_eqTreeEdit : FuncId := 26
def i_spec_IsStructural : FuncId := 27
def i_impl_IsStructural : FuncId := 28
def i_spec_Rewrite : FuncId := 29
def i_impl_Rewrite : FuncId := 30
def i_laws_toInt64S : FuncId := 32
def i_laws_eqInt64S : FuncId := 34
def i_laws_szChecker : FuncId := 49
def i_spec_Takes : FuncId := 50
def i_laws_toChecker : FuncId := 51
def i_impl_Takes : FuncId := 52
def i_laws_eqChecker : FuncId := 53
def i_laws_szOutPushSS : FuncId := 54
def i_laws_szOutMoveSSS : FuncId := 55
def i_laws_szOutMoveSS : FuncId := 56
def i_spec_l06Ok : FuncId := 57
def i_laws_toOutPushSS : FuncId := 58
def i_laws_toOutMoveSSS : FuncId := 59
def i_laws_toOutMoveSS : FuncId := 60
def i_impl_size_L_impl_OutPush : FuncId := 61
def i_impl_ValidRewriter_1 : FuncId := 62
def i_impl_within : FuncId := 63
def i_impl_isOut : FuncId := 64
def i_impl_ValidRewriter_2 : FuncId := 65
def i_impl_size_impl_OutMove : FuncId := 66
def i_slices_ContainsFunc_L_impl_OutMove : FuncId := 67
def i_impl_ValidRewriter_2_1 : FuncId := 68
def i_impl_size_L_L_impl_OutMove : FuncId := 69
def i_impl_size_L_impl_OutMove : FuncId := 70
def i_laws_eqOutPushSS : FuncId := 71
def i_laws_eqOutMoveSSS : FuncId := 72
def i_laws_eqOutMoveSS : FuncId := 73
def i_spec_l01Ok : FuncId := 74
def i_spec_l06Edit : FuncId := 75
def i_spec_l06Made : FuncId := 76
def i_impl_ValidWord : FuncId := 77
def i_slices_ContainsFunc_L_impl_TreeEdit : FuncId := 78
def i_impl_EditTrees_1 : FuncId := 79
def i_impl_ValidTreeEdit : FuncId := 80
def i_impl_editTree : FuncId := 81
def i_spec_l06Given : FuncId := 82
def i_spec_l01Factors : FuncId := 83
def i_spec_l01Partners : FuncId := 84
def i_impl_EditTree : FuncId := 85
def i_impl_factors : FuncId := 86
def i_impl_isCall : FuncId := 87
def i_impl_bodyAt : FuncId := 88
def i_spec_l06Structural : FuncId := 89
def i_impl_Rewriter_isStructural : FuncId := 90
def i_spec_l06Reads : FuncId := 91
def i_impl_Rewriter_rewrite : FuncId := 92
def i_impl_orLimit : FuncId := 93
def i_spec_l00In : FuncId := 94
def i_spec_l00Own : FuncId := 95
def i_slices_ContainsFunc_L_int64 : FuncId := 96
def i_slices_Clone_L_int64 : FuncId := 109
def i_laws_eqInt64SS : FuncId := 110
def i_laws_szBoolS : FuncId := 113
def i_laws_szPushSS : FuncId := 114
def i_laws_szInt64SSS : FuncId := 115
def i_laws_szInt64SS : FuncId := 116
def i_spec_l02Given : FuncId := 117
def i_spec_l02Takes : FuncId := 118
def i_laws_toBoolS : FuncId := 119
def i_laws_toPushSS : FuncId := 120
def i_laws_toInt64SSS : FuncId := 121
def i_laws_toInt64SS : FuncId := 122
def i_impl_ValidChecker : FuncId := 123
def i_impl_Checker_takes : FuncId := 124
def i_laws_eqBoolS : FuncId := 125
def i_laws_eqPushSS : FuncId := 126
def i_laws_eqInt64SSS : FuncId := 127
def i_laws_szOutPushS : FuncId := 128
def i_laws_szOutMoveS : FuncId := 129
def i_spec_l06Moves : FuncId := 130
def i_spec_l06Out : FuncId := 131
def i_laws_toOutPushS : FuncId := 132
def i_laws_toOutMoveS : FuncId := 133
def i_slices_IndexFunc_L_impl_OutMove : FuncId := 134
def i_laws_eqOutPushS : FuncId := 135
def i_laws_eqOutMoveS : FuncId := 136
def i_spec_l01Symbol : FuncId := 137
def i_spec_l01Matched : FuncId := 138
def i_spec_l06Brackets : FuncId := 139
def i_spec_PutAt : FuncId := 140
def i_spec_CutMatched : FuncId := 141
def i_spec_l01Call : FuncId := 142
def i_strings_IndexByte : FuncId := 143
def i_slices_IndexFunc_L_impl_TreeEdit : FuncId := 144
def i_impl_treeFormOf : FuncId := 145
def i_impl_isMatched : FuncId := 146
def i_impl_isBrackets : FuncId := 147
def i_impl_PutAt : FuncId := 148
def i_impl_CutMatched : FuncId := 149
def i_spec_l01Return : FuncId := 150
def i_impl_match : FuncId := 151
def i_spec_l06Has : FuncId := 152
def i_impl_isPending : FuncId := 153
def i_impl_Rewriter_isStructural_1 : FuncId := 154
def i_P_spec_l06Run_read : FuncId := 155
def i_impl_kindOf : FuncId := 156
def i_impl_isInner : FuncId := 157
def i_P_strings_Builder_WriteString : FuncId := 158
def i_P_strings_Builder_String : FuncId := 159
def i_slices_IndexFunc_L_int64 : FuncId := 160
def i_laws_szPushS : FuncId := 174
def i_laws_szInt64S : FuncId := 175
def i_spec_l02Ok : FuncId := 176
def i_spec_l02Go : FuncId := 177
def i_laws_toPushS : FuncId := 178
def i_impl_size_bool : FuncId := 179
def i_impl_Checker_isState : FuncId := 180
def i_impl_size_L_impl_Push : FuncId := 181
def i_impl_size_L_L_int64 : FuncId := 182
def i_impl_size_L_int64 : FuncId := 183
def i_impl_ValidChecker_1 : FuncId := 184
def i_impl_size_int64 : FuncId := 185
def i_impl_ValidChecker_1_1 : FuncId := 186
def i_impl_Checker_isMark : FuncId := 187
def i_impl_Checker_end : FuncId := 188
def i_laws_eqPushS : FuncId := 189
def i_laws_szOutPush : FuncId := 190
def i_laws_szOutMove : FuncId := 191
def i_laws_toOutPush : FuncId := 192
def i_laws_toOutMove : FuncId := 193
def i_laws_eqOutPush : FuncId := 194
def i_laws_eqOutMove : FuncId := 195
def i_spec_l01Pending : FuncId := 196
def i_spec_l01Told : FuncId := 197
def i_spec_l01Closed : FuncId := 198
def i_internal_stringslite_IndexByte : FuncId := 199
def i_impl_isReturn : FuncId := 200
def i_P_strings_Builder_copyCheck : FuncId := 201
def i_spec_l02List : FuncId := 216
def i_spec_l02Step : FuncId := 217
def i_laws_toPush : FuncId := 218
def i_impl_Checker_run : FuncId := 219
def i_impl_Checker_end_1 : FuncId := 220
def i_laws_eqPush : FuncId := 221
def i_internal_bytealg_IndexByteString : FuncId := 222
def i_impl_Checker_step : FuncId := 229

/-- The checked code of laws szOutPush. -/
def ac_laws_szOutPush : AC := (.seq (.post (.reg [⟨(some 2), .op (.box true (.tmp 0)), none⟩,
    ⟨(some 4), .op (.mv (.const (Value.int .i64 0))), none⟩]) (.kill [0, 4]))
  (.seq (.post (.reg [⟨(some 5), .op (.mv (.tmp 1)), none⟩,
    ⟨(some 6), .op (.faddr (.tmp 2) 2), none⟩,
    ⟨(some 7), .op (.load 1 false (.tmp 6)), none⟩,
    ⟨(some 8), .op (.len true (.tmp 7)), none⟩,
    ⟨(some 9), .op (.bin .sub (.tmp 5) (.tmp 8)), none⟩,
    ⟨(some 1), .op (.mv (.tmp 9)), none⟩]) (.kill [2, 5, 6, 7, 8, 9]))
  (.seq (.seq (.post (.reg [⟨(some 10), .op (.mv (.tmp 1)), none⟩,
    ⟨(some 11), .op (.bin .lss (.tmp 10) (.const (Value.int .i64 0))), none⟩]) (.kill [10]))
  (.cond (.tmp 11) (.ghost (.kill [1, 11]) (.seq (.reg [⟨(some 4), .op (.mv (.const (Value.int .i64 (-1)))), none⟩])
  .ret))
  (.ghost (.kill [11]) .skip)))
  (.seq (.post (.reg [⟨(some 12), .op (.mv (.tmp 1)), none⟩,
    ⟨(some 4), .op (.mv (.tmp 12)), none⟩]) (.kill [1, 12]))
  .ret))))
theorem cf_laws_szOutPush : chkFn Try.prog i_laws_szOutPush ac_laws_szOutPush [.tmp 4] 13 = true := by decide +kernel
def fa_laws_szOutPush : FnA := ⟨ac_laws_szOutPush, [.tmp 4], 13, false, true, [], .any⟩

/-- The checked code of laws szOutPushS. -/
def lb_laws_szOutPushS_0 : AC := (.seq (.seq (.post (.reg [⟨(some 12), .op (.mv (.tmp 5)), none⟩,
    ⟨(some 13), .op (.mv (.tmp 0)), none⟩,
    ⟨(some 14), .op (.len false (.tmp 13)), none⟩,
    ⟨(some 15), .op (.bin .lss (.tmp 12) (.tmp 14)), none⟩]) (.kill [12, 13, 14]))
  (.cond (.tmp 15) (.ghost (.kill [15]) .skip)
  (.ghost (.kill [0, 5, 15]) (.exit 0))))
  (.seq (.block 1 (.seq (.post (.reg [⟨(some 18), .op (.mv (.tmp 0)), none⟩,
    ⟨(some 19), .op (.mv (.tmp 5)), none⟩,
    ⟨(some 20), .op (.iaddrS (.tmp 18) (.tmp 19) 3), none⟩,
    ⟨(some 21), .op (.load 3 true (.tmp 20)), none⟩,
    ⟨(some 22), .op (.mv (.tmp 1)), none⟩,
    ⟨(some 23), .call (.func i_laws_szOutPush) [(.tmp 21), (.tmp 22)], none⟩,
    ⟨(some 1), .op (.mv (.tmp 23)), none⟩]) (.kill [18, 19, 20, 21, 22, 23]))
  (.seq (.post (.reg [⟨(some 24), .op (.mv (.tmp 1)), none⟩,
    ⟨(some 25), .op (.bin .lss (.tmp 24) (.const (Value.int .i64 0))), none⟩]) (.kill [24]))
  (.cond (.tmp 25) (.ghost (.kill [0, 1, 5, 25]) (.seq (.reg [⟨(some 4), .op (.mv (.const (Value.int .i64 (-1)))), none⟩])
  .ret))
  (.ghost (.kill [25]) .skip)))))
  (.post (.reg [⟨(some 16), .op (.mv (.tmp 5)), none⟩,
    ⟨(some 17), .op (.bin .add (.tmp 16) (.const (Value.int .i64 1))), none⟩,
    ⟨(some 5), .op (.mv (.tmp 17)), none⟩]) (.kill [16, 17]))))
def lo_laws_szOutPushS_0 : AC := (.loop lb_laws_szOutPushS_0)
def ac_laws_szOutPushS : AC := (.seq (.post (.reg [⟨(some 4), .op (.mv (.const (Value.int .i64 0))), none⟩]) (.kill [4]))
  (.seq (.post (.reg [⟨(some 6), .op (.mv (.tmp 1)), none⟩,
    ⟨(some 7), .op (.mv (.tmp 0)), none⟩,
    ⟨(some 8), .op (.len false (.tmp 7)), none⟩,
    ⟨(some 9), .op (.bin .sub (.tmp 6) (.tmp 8)), none⟩,
    ⟨(some 1), .op (.mv (.tmp 9)), none⟩]) (.kill [6, 7, 8, 9]))
  (.seq (.seq (.post (.reg [⟨(some 10), .op (.mv (.tmp 1)), none⟩,
    ⟨(some 11), .op (.bin .lss (.tmp 10) (.const (Value.int .i64 0))), none⟩]) (.kill [10]))
  (.cond (.tmp 11) (.ghost (.kill [0, 1, 11]) (.seq (.reg [⟨(some 4), .op (.mv (.const (Value.int .i64 (-1)))), none⟩])
  .ret))
  (.ghost (.kill [11]) .skip)))
  (.seq (.seq (.reg [⟨(some 5), .op (.mv (.const (Value.int .i64 0))), none⟩])
  (.block 0 lo_laws_szOutPushS_0))
  (.ghost (.kill [0, 5]) (.seq (.post (.reg [⟨(some 26), .op (.mv (.tmp 1)), none⟩,
    ⟨(some 4), .op (.mv (.tmp 26)), none⟩]) (.kill [1, 26]))
  .ret))))))
theorem cf_laws_szOutPushS : chkFn Try.prog i_laws_szOutPushS ac_laws_szOutPushS [.tmp 4] 27 = true := by decide +kernel
def fa_laws_szOutPushS : FnA := ⟨ac_laws_szOutPushS, [.tmp 4], 27, false, true, [], .any⟩

/-- The checked code of laws szOutPushSS. -/
def lb_laws_szOutPushSS_0 : AC := (.seq (.seq (.post (.reg [⟨(some 12), .op (.mv (.tmp 5)), none⟩,
    ⟨(some 13), .op (.mv (.tmp 0)), none⟩,
    ⟨(some 14), .op (.len false (.tmp 13)), none⟩,
    ⟨(some 15), .op (.bin .lss (.tmp 12) (.tmp 14)), none⟩]) (.kill [12, 13, 14]))
  (.cond (.tmp 15) (.ghost (.kill [15]) .skip)
  (.ghost (.kill [0, 5, 15]) (.exit 0))))
  (.seq (.block 1 (.seq (.post (.reg [⟨(some 18), .op (.mv (.tmp 0)), none⟩,
    ⟨(some 19), .op (.mv (.tmp 5)), none⟩,
    ⟨(some 20), .op (.iaddrS (.tmp 18) (.tmp 19) 1), none⟩,
    ⟨(some 21), .op (.load 1 false (.tmp 20)), none⟩,
    ⟨(some 22), .op (.mv (.tmp 1)), none⟩,
    ⟨(some 23), .call (.func i_laws_szOutPushS) [(.tmp 21), (.tmp 22)], none⟩,
    ⟨(some 1), .op (.mv (.tmp 23)), none⟩]) (.kill [18, 19, 20, 21, 22, 23]))
  (.seq (.post (.reg [⟨(some 24), .op (.mv (.tmp 1)), none⟩,
    ⟨(some 25), .op (.bin .lss (.tmp 24) (.const (Value.int .i64 0))), none⟩]) (.kill [24]))
  (.cond (.tmp 25) (.ghost (.kill [0, 1, 5, 25]) (.seq (.reg [⟨(some 4), .op (.mv (.const (Value.int .i64 (-1)))), none⟩])
  .ret))
  (.ghost (.kill [25]) .skip)))))
  (.post (.reg [⟨(some 16), .op (.mv (.tmp 5)), none⟩,
    ⟨(some 17), .op (.bin .add (.tmp 16) (.const (Value.int .i64 1))), none⟩,
    ⟨(some 5), .op (.mv (.tmp 17)), none⟩]) (.kill [16, 17]))))
def lo_laws_szOutPushSS_0 : AC := (.loop lb_laws_szOutPushSS_0)
def ac_laws_szOutPushSS : AC := (.seq (.post (.reg [⟨(some 4), .op (.mv (.const (Value.int .i64 0))), none⟩]) (.kill [4]))
  (.seq (.post (.reg [⟨(some 6), .op (.mv (.tmp 1)), none⟩,
    ⟨(some 7), .op (.mv (.tmp 0)), none⟩,
    ⟨(some 8), .op (.len false (.tmp 7)), none⟩,
    ⟨(some 9), .op (.bin .sub (.tmp 6) (.tmp 8)), none⟩,
    ⟨(some 1), .op (.mv (.tmp 9)), none⟩]) (.kill [6, 7, 8, 9]))
  (.seq (.seq (.post (.reg [⟨(some 10), .op (.mv (.tmp 1)), none⟩,
    ⟨(some 11), .op (.bin .lss (.tmp 10) (.const (Value.int .i64 0))), none⟩]) (.kill [10]))
  (.cond (.tmp 11) (.ghost (.kill [0, 1, 11]) (.seq (.reg [⟨(some 4), .op (.mv (.const (Value.int .i64 (-1)))), none⟩])
  .ret))
  (.ghost (.kill [11]) .skip)))
  (.seq (.seq (.reg [⟨(some 5), .op (.mv (.const (Value.int .i64 0))), none⟩])
  (.block 0 lo_laws_szOutPushSS_0))
  (.ghost (.kill [0, 5]) (.seq (.post (.reg [⟨(some 26), .op (.mv (.tmp 1)), none⟩,
    ⟨(some 4), .op (.mv (.tmp 26)), none⟩]) (.kill [1, 26]))
  .ret))))))
theorem cf_laws_szOutPushSS : chkFn Try.prog i_laws_szOutPushSS ac_laws_szOutPushSS [.tmp 4] 27 = true := by decide +kernel
def fa_laws_szOutPushSS : FnA := ⟨ac_laws_szOutPushSS, [.tmp 4], 27, false, true, [], .any⟩

/-- The checked code of laws szOutMove. -/
def ac_laws_szOutMove : AC := (.seq (.post (.reg [⟨(some 2), .op (.box true (.tmp 0)), none⟩,
    ⟨(some 4), .op (.mv (.const (Value.int .i64 0))), none⟩]) (.kill [0, 4]))
  (.seq (.post (.reg [⟨(some 5), .op (.mv (.tmp 1)), none⟩,
    ⟨(some 6), .op (.faddr (.tmp 2) 1), none⟩,
    ⟨(some 7), .op (.load 1 false (.tmp 6)), none⟩,
    ⟨(some 8), .op (.len true (.tmp 7)), none⟩,
    ⟨(some 9), .op (.bin .sub (.tmp 5) (.tmp 8)), none⟩,
    ⟨(some 1), .op (.mv (.tmp 9)), none⟩]) (.kill [2, 5, 6, 7, 8, 9]))
  (.seq (.seq (.post (.reg [⟨(some 10), .op (.mv (.tmp 1)), none⟩,
    ⟨(some 11), .op (.bin .lss (.tmp 10) (.const (Value.int .i64 0))), none⟩]) (.kill [10]))
  (.cond (.tmp 11) (.ghost (.kill [1, 11]) (.seq (.reg [⟨(some 4), .op (.mv (.const (Value.int .i64 (-1)))), none⟩])
  .ret))
  (.ghost (.kill [11]) .skip)))
  (.seq (.post (.reg [⟨(some 12), .op (.mv (.tmp 1)), none⟩,
    ⟨(some 4), .op (.mv (.tmp 12)), none⟩]) (.kill [1, 12]))
  .ret))))
theorem cf_laws_szOutMove : chkFn Try.prog i_laws_szOutMove ac_laws_szOutMove [.tmp 4] 13 = true := by decide +kernel
def fa_laws_szOutMove : FnA := ⟨ac_laws_szOutMove, [.tmp 4], 13, false, true, [], .any⟩

/-- The checked code of laws szOutMoveS. -/
def lb_laws_szOutMoveS_0 : AC := (.seq (.seq (.post (.reg [⟨(some 12), .op (.mv (.tmp 5)), none⟩,
    ⟨(some 13), .op (.mv (.tmp 0)), none⟩,
    ⟨(some 14), .op (.len false (.tmp 13)), none⟩,
    ⟨(some 15), .op (.bin .lss (.tmp 12) (.tmp 14)), none⟩]) (.kill [12, 13, 14]))
  (.cond (.tmp 15) (.ghost (.kill [15]) .skip)
  (.ghost (.kill [0, 5, 15]) (.exit 0))))
  (.seq (.block 1 (.seq (.post (.reg [⟨(some 18), .op (.mv (.tmp 0)), none⟩,
    ⟨(some 19), .op (.mv (.tmp 5)), none⟩,
    ⟨(some 20), .op (.iaddrS (.tmp 18) (.tmp 19) 2), none⟩,
    ⟨(some 21), .op (.load 2 true (.tmp 20)), none⟩,
    ⟨(some 22), .op (.mv (.tmp 1)), none⟩,
    ⟨(some 23), .call (.func i_laws_szOutMove) [(.tmp 21), (.tmp 22)], none⟩,
    ⟨(some 1), .op (.mv (.tmp 23)), none⟩]) (.kill [18, 19, 20, 21, 22, 23]))
  (.seq (.post (.reg [⟨(some 24), .op (.mv (.tmp 1)), none⟩,
    ⟨(some 25), .op (.bin .lss (.tmp 24) (.const (Value.int .i64 0))), none⟩]) (.kill [24]))
  (.cond (.tmp 25) (.ghost (.kill [0, 1, 5, 25]) (.seq (.reg [⟨(some 4), .op (.mv (.const (Value.int .i64 (-1)))), none⟩])
  .ret))
  (.ghost (.kill [25]) .skip)))))
  (.post (.reg [⟨(some 16), .op (.mv (.tmp 5)), none⟩,
    ⟨(some 17), .op (.bin .add (.tmp 16) (.const (Value.int .i64 1))), none⟩,
    ⟨(some 5), .op (.mv (.tmp 17)), none⟩]) (.kill [16, 17]))))
def lo_laws_szOutMoveS_0 : AC := (.loop lb_laws_szOutMoveS_0)
def ac_laws_szOutMoveS : AC := (.seq (.post (.reg [⟨(some 4), .op (.mv (.const (Value.int .i64 0))), none⟩]) (.kill [4]))
  (.seq (.post (.reg [⟨(some 6), .op (.mv (.tmp 1)), none⟩,
    ⟨(some 7), .op (.mv (.tmp 0)), none⟩,
    ⟨(some 8), .op (.len false (.tmp 7)), none⟩,
    ⟨(some 9), .op (.bin .sub (.tmp 6) (.tmp 8)), none⟩,
    ⟨(some 1), .op (.mv (.tmp 9)), none⟩]) (.kill [6, 7, 8, 9]))
  (.seq (.seq (.post (.reg [⟨(some 10), .op (.mv (.tmp 1)), none⟩,
    ⟨(some 11), .op (.bin .lss (.tmp 10) (.const (Value.int .i64 0))), none⟩]) (.kill [10]))
  (.cond (.tmp 11) (.ghost (.kill [0, 1, 11]) (.seq (.reg [⟨(some 4), .op (.mv (.const (Value.int .i64 (-1)))), none⟩])
  .ret))
  (.ghost (.kill [11]) .skip)))
  (.seq (.seq (.reg [⟨(some 5), .op (.mv (.const (Value.int .i64 0))), none⟩])
  (.block 0 lo_laws_szOutMoveS_0))
  (.ghost (.kill [0, 5]) (.seq (.post (.reg [⟨(some 26), .op (.mv (.tmp 1)), none⟩,
    ⟨(some 4), .op (.mv (.tmp 26)), none⟩]) (.kill [1, 26]))
  .ret))))))
theorem cf_laws_szOutMoveS : chkFn Try.prog i_laws_szOutMoveS ac_laws_szOutMoveS [.tmp 4] 27 = true := by decide +kernel
def fa_laws_szOutMoveS : FnA := ⟨ac_laws_szOutMoveS, [.tmp 4], 27, false, true, [], .any⟩

/-- The checked code of laws szOutMoveSS. -/
def lb_laws_szOutMoveSS_0 : AC := (.seq (.seq (.post (.reg [⟨(some 12), .op (.mv (.tmp 5)), none⟩,
    ⟨(some 13), .op (.mv (.tmp 0)), none⟩,
    ⟨(some 14), .op (.len false (.tmp 13)), none⟩,
    ⟨(some 15), .op (.bin .lss (.tmp 12) (.tmp 14)), none⟩]) (.kill [12, 13, 14]))
  (.cond (.tmp 15) (.ghost (.kill [15]) .skip)
  (.ghost (.kill [0, 5, 15]) (.exit 0))))
  (.seq (.block 1 (.seq (.post (.reg [⟨(some 18), .op (.mv (.tmp 0)), none⟩,
    ⟨(some 19), .op (.mv (.tmp 5)), none⟩,
    ⟨(some 20), .op (.iaddrS (.tmp 18) (.tmp 19) 1), none⟩,
    ⟨(some 21), .op (.load 1 false (.tmp 20)), none⟩,
    ⟨(some 22), .op (.mv (.tmp 1)), none⟩,
    ⟨(some 23), .call (.func i_laws_szOutMoveS) [(.tmp 21), (.tmp 22)], none⟩,
    ⟨(some 1), .op (.mv (.tmp 23)), none⟩]) (.kill [18, 19, 20, 21, 22, 23]))
  (.seq (.post (.reg [⟨(some 24), .op (.mv (.tmp 1)), none⟩,
    ⟨(some 25), .op (.bin .lss (.tmp 24) (.const (Value.int .i64 0))), none⟩]) (.kill [24]))
  (.cond (.tmp 25) (.ghost (.kill [0, 1, 5, 25]) (.seq (.reg [⟨(some 4), .op (.mv (.const (Value.int .i64 (-1)))), none⟩])
  .ret))
  (.ghost (.kill [25]) .skip)))))
  (.post (.reg [⟨(some 16), .op (.mv (.tmp 5)), none⟩,
    ⟨(some 17), .op (.bin .add (.tmp 16) (.const (Value.int .i64 1))), none⟩,
    ⟨(some 5), .op (.mv (.tmp 17)), none⟩]) (.kill [16, 17]))))
def lo_laws_szOutMoveSS_0 : AC := (.loop lb_laws_szOutMoveSS_0)
def ac_laws_szOutMoveSS : AC := (.seq (.post (.reg [⟨(some 4), .op (.mv (.const (Value.int .i64 0))), none⟩]) (.kill [4]))
  (.seq (.post (.reg [⟨(some 6), .op (.mv (.tmp 1)), none⟩,
    ⟨(some 7), .op (.mv (.tmp 0)), none⟩,
    ⟨(some 8), .op (.len false (.tmp 7)), none⟩,
    ⟨(some 9), .op (.bin .sub (.tmp 6) (.tmp 8)), none⟩,
    ⟨(some 1), .op (.mv (.tmp 9)), none⟩]) (.kill [6, 7, 8, 9]))
  (.seq (.seq (.post (.reg [⟨(some 10), .op (.mv (.tmp 1)), none⟩,
    ⟨(some 11), .op (.bin .lss (.tmp 10) (.const (Value.int .i64 0))), none⟩]) (.kill [10]))
  (.cond (.tmp 11) (.ghost (.kill [0, 1, 11]) (.seq (.reg [⟨(some 4), .op (.mv (.const (Value.int .i64 (-1)))), none⟩])
  .ret))
  (.ghost (.kill [11]) .skip)))
  (.seq (.seq (.reg [⟨(some 5), .op (.mv (.const (Value.int .i64 0))), none⟩])
  (.block 0 lo_laws_szOutMoveSS_0))
  (.ghost (.kill [0, 5]) (.seq (.post (.reg [⟨(some 26), .op (.mv (.tmp 1)), none⟩,
    ⟨(some 4), .op (.mv (.tmp 26)), none⟩]) (.kill [1, 26]))
  .ret))))))
theorem cf_laws_szOutMoveSS : chkFn Try.prog i_laws_szOutMoveSS ac_laws_szOutMoveSS [.tmp 4] 27 = true := by decide +kernel
def fa_laws_szOutMoveSS : FnA := ⟨ac_laws_szOutMoveSS, [.tmp 4], 27, false, true, [], .any⟩

/-- The checked code of laws szOutMoveSSS. -/
def lb_laws_szOutMoveSSS_0 : AC := (.seq (.seq (.post (.reg [⟨(some 12), .op (.mv (.tmp 5)), none⟩,
    ⟨(some 13), .op (.mv (.tmp 0)), none⟩,
    ⟨(some 14), .op (.len false (.tmp 13)), none⟩,
    ⟨(some 15), .op (.bin .lss (.tmp 12) (.tmp 14)), none⟩]) (.kill [12, 13, 14]))
  (.cond (.tmp 15) (.ghost (.kill [15]) .skip)
  (.ghost (.kill [0, 5, 15]) (.exit 0))))
  (.seq (.block 1 (.seq (.post (.reg [⟨(some 18), .op (.mv (.tmp 0)), none⟩,
    ⟨(some 19), .op (.mv (.tmp 5)), none⟩,
    ⟨(some 20), .op (.iaddrS (.tmp 18) (.tmp 19) 1), none⟩,
    ⟨(some 21), .op (.load 1 false (.tmp 20)), none⟩,
    ⟨(some 22), .op (.mv (.tmp 1)), none⟩,
    ⟨(some 23), .call (.func i_laws_szOutMoveSS) [(.tmp 21), (.tmp 22)], none⟩,
    ⟨(some 1), .op (.mv (.tmp 23)), none⟩]) (.kill [18, 19, 20, 21, 22, 23]))
  (.seq (.post (.reg [⟨(some 24), .op (.mv (.tmp 1)), none⟩,
    ⟨(some 25), .op (.bin .lss (.tmp 24) (.const (Value.int .i64 0))), none⟩]) (.kill [24]))
  (.cond (.tmp 25) (.ghost (.kill [0, 1, 5, 25]) (.seq (.reg [⟨(some 4), .op (.mv (.const (Value.int .i64 (-1)))), none⟩])
  .ret))
  (.ghost (.kill [25]) .skip)))))
  (.post (.reg [⟨(some 16), .op (.mv (.tmp 5)), none⟩,
    ⟨(some 17), .op (.bin .add (.tmp 16) (.const (Value.int .i64 1))), none⟩,
    ⟨(some 5), .op (.mv (.tmp 17)), none⟩]) (.kill [16, 17]))))
def lo_laws_szOutMoveSSS_0 : AC := (.loop lb_laws_szOutMoveSSS_0)
def ac_laws_szOutMoveSSS : AC := (.seq (.post (.reg [⟨(some 4), .op (.mv (.const (Value.int .i64 0))), none⟩]) (.kill [4]))
  (.seq (.post (.reg [⟨(some 6), .op (.mv (.tmp 1)), none⟩,
    ⟨(some 7), .op (.mv (.tmp 0)), none⟩,
    ⟨(some 8), .op (.len false (.tmp 7)), none⟩,
    ⟨(some 9), .op (.bin .sub (.tmp 6) (.tmp 8)), none⟩,
    ⟨(some 1), .op (.mv (.tmp 9)), none⟩]) (.kill [6, 7, 8, 9]))
  (.seq (.seq (.post (.reg [⟨(some 10), .op (.mv (.tmp 1)), none⟩,
    ⟨(some 11), .op (.bin .lss (.tmp 10) (.const (Value.int .i64 0))), none⟩]) (.kill [10]))
  (.cond (.tmp 11) (.ghost (.kill [0, 1, 11]) (.seq (.reg [⟨(some 4), .op (.mv (.const (Value.int .i64 (-1)))), none⟩])
  .ret))
  (.ghost (.kill [11]) .skip)))
  (.seq (.seq (.reg [⟨(some 5), .op (.mv (.const (Value.int .i64 0))), none⟩])
  (.block 0 lo_laws_szOutMoveSSS_0))
  (.ghost (.kill [0, 5]) (.seq (.post (.reg [⟨(some 26), .op (.mv (.tmp 1)), none⟩,
    ⟨(some 4), .op (.mv (.tmp 26)), none⟩]) (.kill [1, 26]))
  .ret))))))
theorem cf_laws_szOutMoveSSS : chkFn Try.prog i_laws_szOutMoveSSS ac_laws_szOutMoveSSS [.tmp 4] 27 = true := by decide +kernel
def fa_laws_szOutMoveSSS : FnA := ⟨ac_laws_szOutMoveSSS, [.tmp 4], 27, false, true, [], .any⟩

/-- The checked code of laws szRewriter. -/
def ac_laws_szRewriter : AC := (.seq (.post (.reg [⟨(some 2), .op (.box true (.tmp 0)), none⟩,
    ⟨(some 4), .op (.mv (.const (Value.int .i64 0))), none⟩]) (.kill [0, 4]))
  (.seq (.post (.reg [⟨(some 5), .op (.faddr (.tmp 2) 2), none⟩,
    ⟨(some 6), .op (.load 1 false (.tmp 5)), none⟩,
    ⟨(some 7), .op (.mv (.tmp 1)), none⟩,
    ⟨(some 8), .call (.func i_laws_szOutPushSS) [(.tmp 6), (.tmp 7)], none⟩,
    ⟨(some 1), .op (.mv (.tmp 8)), none⟩]) (.kill [5, 6, 7, 8]))
  (.seq (.seq (.post (.reg [⟨(some 9), .op (.mv (.tmp 1)), none⟩,
    ⟨(some 10), .op (.bin .lss (.tmp 9) (.const (Value.int .i64 0))), none⟩]) (.kill [9]))
  (.cond (.tmp 10) (.ghost (.kill [1, 2, 10]) (.seq (.reg [⟨(some 4), .op (.mv (.const (Value.int .i64 (-1)))), none⟩])
  .ret))
  (.ghost (.kill [10]) .skip)))
  (.seq (.post (.reg [⟨(some 11), .op (.faddr (.tmp 2) 3), none⟩,
    ⟨(some 12), .op (.load 1 false (.tmp 11)), none⟩,
    ⟨(some 13), .op (.mv (.tmp 1)), none⟩,
    ⟨(some 14), .call (.func i_laws_szOutMoveSSS) [(.tmp 12), (.tmp 13)], none⟩,
    ⟨(some 1), .op (.mv (.tmp 14)), none⟩]) (.kill [11, 12, 13, 14]))
  (.seq (.seq (.post (.reg [⟨(some 15), .op (.mv (.tmp 1)), none⟩,
    ⟨(some 16), .op (.bin .lss (.tmp 15) (.const (Value.int .i64 0))), none⟩]) (.kill [15]))
  (.cond (.tmp 16) (.ghost (.kill [1, 2, 16]) (.seq (.reg [⟨(some 4), .op (.mv (.const (Value.int .i64 (-1)))), none⟩])
  .ret))
  (.ghost (.kill [16]) .skip)))
  (.seq (.post (.reg [⟨(some 17), .op (.faddr (.tmp 2) 4), none⟩,
    ⟨(some 18), .op (.load 1 false (.tmp 17)), none⟩,
    ⟨(some 19), .op (.mv (.tmp 1)), none⟩,
    ⟨(some 20), .call (.func i_laws_szOutMoveSS) [(.tmp 18), (.tmp 19)], none⟩,
    ⟨(some 1), .op (.mv (.tmp 20)), none⟩]) (.kill [2, 17, 18, 19, 20]))
  (.seq (.seq (.post (.reg [⟨(some 21), .op (.mv (.tmp 1)), none⟩,
    ⟨(some 22), .op (.bin .lss (.tmp 21) (.const (Value.int .i64 0))), none⟩]) (.kill [21]))
  (.cond (.tmp 22) (.ghost (.kill [1, 22]) (.seq (.reg [⟨(some 4), .op (.mv (.const (Value.int .i64 (-1)))), none⟩])
  .ret))
  (.ghost (.kill [22]) .skip)))
  (.seq (.post (.reg [⟨(some 23), .op (.mv (.tmp 1)), none⟩,
    ⟨(some 4), .op (.mv (.tmp 23)), none⟩]) (.kill [1, 23]))
  .ret))))))))
theorem cf_laws_szRewriter : chkFn Try.prog i_laws_szRewriter ac_laws_szRewriter [.tmp 4] 24 = true := by decide +kernel
def fa_laws_szRewriter : FnA := ⟨ac_laws_szRewriter, [.tmp 4], 24, false, true, [], .any⟩

/-- The checked code of spec l00In. -/
def ac_spec_l00In : AC := (.seq (.post (.reg [⟨(some 6), .op (.mv (.const (Value.bool false))), none⟩]) (.kill [6]))
  (.seq (.post (.reg [⟨(some 7), .op (.mv (.tmp 0)), none⟩,
    ⟨(some 8), .op (.mv (.tmp 1)), none⟩,
    ⟨(some 9), .op (.bin .geq (.tmp 7) (.tmp 8)), none⟩,
    ⟨(some 10), .op (.mv (.tmp 9)), none⟩,
    ⟨(some 11), .op (.mv (.tmp 0)), some (10, true)⟩,
    ⟨(some 12), .op (.mv (.tmp 2)), some (10, true)⟩,
    ⟨(some 13), .op (.bin .leq (.tmp 11) (.tmp 12)), some (10, true)⟩,
    ⟨(some 14), .op (.pick (.tmp 10) (.tmp 13) (.const (Value.bool false))), none⟩,
    ⟨(some 6), .op (.mv (.tmp 14)), none⟩]) (.kill [0, 1, 2, 7, 8, 9, 10, 11, 12, 13, 14]))
  .ret))
theorem cf_spec_l00In : chkFn Try.prog i_spec_l00In ac_spec_l00In [.tmp 6] 15 = true := by decide +kernel
def fa_spec_l00In : FnA := ⟨ac_spec_l00In, [.tmp 6], 15, false, true, [], .any⟩

/-- The checked code of spec l01Symbol. -/
def lb_spec_l01Symbol_0 : AC := (.seq (.seq (.post (.reg [⟨(some 4), .op (.mv (.tmp 3)), none⟩,
    ⟨(some 5), .op (.bin .lss (.tmp 4) (.const (Value.int .i64 6))), none⟩]) (.kill [4]))
  (.cond (.tmp 5) (.ghost (.kill [5]) .skip)
  (.ghost (.kill [0, 3, 5]) (.exit 0))))
  (.seq (.block 1 (.seq (.post (.reg [⟨(some 8), .op (.mv (.tmp 3)), none⟩,
    ⟨(some 9), .op (.idxStr (.const (Value.string ⟨#[40, 91, 41, 93, 97, 98]⟩)) (.tmp 8)), none⟩,
    ⟨(some 10), .op (.mv (.tmp 0)), none⟩,
    ⟨(some 11), .op (.bin .eql (.tmp 9) (.tmp 10)), none⟩]) (.kill [8, 9, 10]))
  (.cond (.tmp 11) (.ghost (.kill [0, 11]) (.seq (.post (.reg [⟨(some 12), .op (.mv (.tmp 3)), none⟩,
    ⟨(some 2), .op (.mv (.tmp 12)), none⟩]) (.kill [3, 12]))
  .ret))
  (.ghost (.kill [11]) .skip))))
  (.post (.reg [⟨(some 6), .op (.mv (.tmp 3)), none⟩,
    ⟨(some 7), .op (.bin .add (.tmp 6) (.const (Value.int .i64 1))), none⟩,
    ⟨(some 3), .op (.mv (.tmp 7)), none⟩]) (.kill [6, 7]))))
def lo_spec_l01Symbol_0 : AC := (.loop lb_spec_l01Symbol_0)
def ac_spec_l01Symbol : AC := (.seq (.post (.reg [⟨(some 2), .op (.mv (.const (Value.int .i64 0))), none⟩]) (.kill [2]))
  (.seq (.seq (.reg [⟨(some 3), .op (.mv (.const (Value.int .i64 0))), none⟩])
  (.block 0 lo_spec_l01Symbol_0))
  (.ghost (.kill [0, 3]) (.seq (.reg [⟨(some 2), .op (.mv (.const (Value.int .i64 (-1)))), none⟩])
  .ret))))
theorem cf_spec_l01Symbol : chkFn Try.prog i_spec_l01Symbol ac_spec_l01Symbol [.tmp 2] 13 = true := by decide +kernel
def fa_spec_l01Symbol : FnA := ⟨ac_spec_l01Symbol, [.tmp 2], 13, false, true, [], .any⟩

/-- The checked code of spec l01Ok. -/
def lb_spec_l01Ok_0 : AC := (.seq (.seq (.post (.reg [⟨(some 4), .op (.mv (.tmp 3)), none⟩,
    ⟨(some 5), .op (.mv (.tmp 0)), none⟩,
    ⟨(some 6), .op (.len true (.tmp 5)), none⟩,
    ⟨(some 7), .op (.bin .lss (.tmp 4) (.tmp 6)), none⟩]) (.kill [4, 5, 6]))
  (.cond (.tmp 7) (.ghost (.kill [7]) .skip)
  (.ghost (.kill [3, 7]) (.exit 0))))
  (.seq (.block 1 (.seq (.post (.reg [⟨(some 10), .op (.mv (.tmp 0)), none⟩,
    ⟨(some 11), .op (.mv (.tmp 3)), none⟩,
    ⟨(some 12), .op (.idxStr (.tmp 10) (.tmp 11)), none⟩,
    ⟨(some 13), .call (.func i_spec_l01Symbol) [(.tmp 12)], none⟩,
    ⟨(some 14), .op (.bin .lss (.tmp 13) (.const (Value.int .i64 0))), none⟩]) (.kill [10, 11, 12, 13]))
  (.cond (.tmp 14) (.ghost (.kill [0, 3, 14]) (.seq (.reg [⟨(some 2), .op (.mv (.const (Value.bool false))), none⟩])
  .ret))
  (.ghost (.kill [14]) .skip))))
  (.post (.reg [⟨(some 8), .op (.mv (.tmp 3)), none⟩,
    ⟨(some 9), .op (.bin .add (.tmp 8) (.const (Value.int .i64 1))), none⟩,
    ⟨(some 3), .op (.mv (.tmp 9)), none⟩]) (.kill [8, 9]))))
def lo_spec_l01Ok_0 : AC := (.loop lb_spec_l01Ok_0)
def ac_spec_l01Ok : AC := (.seq (.post (.reg [⟨(some 2), .op (.mv (.const (Value.bool false))), none⟩]) (.kill [2]))
  (.seq (.seq (.reg [⟨(some 3), .op (.mv (.const (Value.int .i64 0))), none⟩])
  (.block 0 lo_spec_l01Ok_0))
  (.ghost (.kill [3]) (.seq (.post (.reg [⟨(some 15), .op (.mv (.tmp 0)), none⟩,
    ⟨(some 16), .op (.len true (.tmp 15)), none⟩,
    ⟨(some 17), .op (.bin .leq (.tmp 16) (.const (Value.int .i64 60))), none⟩,
    ⟨(some 2), .op (.mv (.tmp 17)), none⟩]) (.kill [0, 15, 16, 17]))
  .ret))))
theorem cf_spec_l01Ok : chkFn Try.prog i_spec_l01Ok ac_spec_l01Ok [.tmp 2] 18 = true := by decide +kernel
def fa_spec_l01Ok : FnA := ⟨ac_spec_l01Ok, [.tmp 2], 18, false, true, [], .any⟩

/-- The checked code of spec l06Out. -/
def ac_spec_l06Out : AC := (.seq (.post (.reg [⟨(some 2), .op (.mv (.const (Value.bool false))), none⟩]) (.kill [2]))
  (.seq (.post (.reg [⟨(some 3), .op (.mv (.tmp 0)), none⟩,
    ⟨(some 4), .op (.len true (.tmp 3)), none⟩,
    ⟨(some 5), .op (.bin .leq (.tmp 4) (.const (Value.int .i64 4))), none⟩,
    ⟨(some 6), .op (.mv (.tmp 5)), none⟩,
    ⟨(some 7), .op (.mv (.tmp 0)), some (6, true)⟩,
    ⟨(some 8), .call (.func i_spec_l01Ok) [(.tmp 7)], some (6, true)⟩,
    ⟨(some 9), .op (.pick (.tmp 6) (.tmp 8) (.const (Value.bool false))), none⟩,
    ⟨(some 2), .op (.mv (.tmp 9)), none⟩]) (.kill [0, 3, 4, 5, 6, 7, 8, 9]))
  .ret))
theorem cf_spec_l06Out : chkFn Try.prog i_spec_l06Out ac_spec_l06Out [.tmp 2] 10 = true := by decide +kernel
def fa_spec_l06Out : FnA := ⟨ac_spec_l06Out, [.tmp 2], 10, false, true, [], .any⟩

/-- The checked code of spec l06Moves. -/
def lb_spec_l06Moves_0 : AC := (.seq (.seq (.post (.reg [⟨(some 8), .op (.mv (.tmp 7)), none⟩,
    ⟨(some 9), .op (.mv (.tmp 0)), none⟩,
    ⟨(some 10), .op (.len false (.tmp 9)), none⟩,
    ⟨(some 11), .op (.bin .lss (.tmp 8) (.tmp 10)), none⟩]) (.kill [8, 9, 10]))
  (.cond (.tmp 11) (.ghost (.kill [11]) .skip)
  (.ghost (.kill [2, 7, 11]) (.exit 0))))
  (.seq (.block 1 (.seq (.post (.reg [⟨(some 14), .op (.mv (.tmp 0)), none⟩,
    ⟨(some 15), .op (.mv (.tmp 7)), none⟩,
    ⟨(some 16), .op (.iaddrS (.tmp 14) (.tmp 15) 2), none⟩,
    ⟨(some 17), .op (.faddr (.tmp 16) 0), none⟩,
    ⟨(some 18), .op (.load 1 false (.tmp 17)), none⟩,
    ⟨(some 19), .op (.mv (.tmp 2)), none⟩,
    ⟨(some 20), .op (.bin .sub (.tmp 19) (.const (Value.int .i64 1))), none⟩,
    ⟨(some 21), .call (.func i_spec_l00In) [(.tmp 18), (.const (Value.int .i64 0)), (.tmp 20)], none⟩,
    ⟨(some 22), .op (.un .not (.tmp 21)), none⟩,
    ⟨(some 23), .op (.mv (.tmp 22)), none⟩,
    ⟨(some 24), .op (.mv (.tmp 0)), some (23, false)⟩,
    ⟨(some 25), .op (.mv (.tmp 7)), some (23, false)⟩,
    ⟨(some 26), .op (.iaddrS (.tmp 24) (.tmp 25) 2), some (23, false)⟩,
    ⟨(some 27), .op (.faddr (.tmp 26) 1), some (23, false)⟩,
    ⟨(some 28), .op (.load 1 false (.tmp 27)), some (23, false)⟩,
    ⟨(some 29), .call (.func i_spec_l06Out) [(.tmp 28)], some (23, false)⟩,
    ⟨(some 30), .op (.un .not (.tmp 29)), some (23, false)⟩,
    ⟨(some 31), .op (.pick (.tmp 23) (.const (Value.bool true)) (.tmp 30)), none⟩]) (.kill [14, 15, 16, 17, 18, 19, 20, 21, 22, 23, 24, 25, 26, 27, 28, 29, 30]))
  (.cond (.tmp 31) (.ghost (.kill [0, 1, 2, 7, 31]) (.seq (.reg [⟨(some 6), .op (.mv (.const (Value.bool false))), none⟩])
  .ret))
  (.ghost (.kill [31]) .skip))))
  (.post (.reg [⟨(some 12), .op (.mv (.tmp 7)), none⟩,
    ⟨(some 13), .op (.bin .add (.tmp 12) (.const (Value.int .i64 1))), none⟩,
    ⟨(some 7), .op (.mv (.tmp 13)), none⟩]) (.kill [12, 13]))))
def lo_spec_l06Moves_0 : AC := (.loop lb_spec_l06Moves_0)
def ac_spec_l06Moves : AC := (.seq (.post (.reg [⟨(some 6), .op (.mv (.const (Value.bool false))), none⟩]) (.kill [6]))
  (.seq (.seq (.reg [⟨(some 7), .op (.mv (.const (Value.int .i64 0))), none⟩])
  (.block 0 lo_spec_l06Moves_0))
  (.ghost (.kill [2, 7]) (.seq (.post (.reg [⟨(some 32), .op (.mv (.tmp 0)), none⟩,
    ⟨(some 33), .op (.len false (.tmp 32)), none⟩,
    ⟨(some 34), .op (.mv (.tmp 1)), none⟩,
    ⟨(some 35), .op (.bin .eql (.tmp 33) (.tmp 34)), none⟩,
    ⟨(some 6), .op (.mv (.tmp 35)), none⟩]) (.kill [0, 1, 32, 33, 34, 35]))
  .ret))))
theorem cf_spec_l06Moves : chkFn Try.prog i_spec_l06Moves ac_spec_l06Moves [.tmp 6] 36 = true := by decide +kernel
def fa_spec_l06Moves : FnA := ⟨ac_spec_l06Moves, [.tmp 6], 36, false, true, [], .any⟩

/-- The checked code of spec l06Ok. -/
def lb_spec_l06Ok_0 : AC := (.post (.seq (.seq (.post (.reg [⟨(some 88), .op (.mv (.tmp 5)), none⟩,
    ⟨(some 89), .op (.bin .lss (.tmp 88) (.const (Value.int .i64 2))), none⟩]) (.kill [88]))
  (.cond (.tmp 89) (.ghost (.kill [89]) .skip)
  (.ghost (.kill [5, 89]) (.exit 2))))
  (.seq (.block 3 (.seq (.post (.reg [⟨(some 92), .op (.mv (.tmp 0)), none⟩,
    ⟨(some 93), .op (.nilc (.tmp 92)), none⟩,
    ⟨(some 94), .op (.faddr (.tmp 93) 2), none⟩,
    ⟨(some 95), .op (.load 1 false (.tmp 94)), none⟩,
    ⟨(some 96), .op (.mv (.tmp 4)), none⟩,
    ⟨(some 97), .op (.iaddrS (.tmp 95) (.tmp 96) 1), none⟩,
    ⟨(some 98), .op (.load 1 false (.tmp 97)), none⟩,
    ⟨(some 99), .op (.mv (.tmp 5)), none⟩,
    ⟨(some 100), .op (.iaddrS (.tmp 98) (.tmp 99) 3), none⟩,
    ⟨(some 101), .op (.load 3 true (.tmp 100)), none⟩,
    ⟨(some 6), .op (.alloc (Value.agg #[Value.int .i64 0, Value.int .i64 0, Value.string ⟨#[]⟩])), none⟩,
    ⟨none, .op (.store 3 (.tmp 6) (.tmp 101)), none⟩]) (.kill [92, 93, 94, 95, 96, 97, 98, 99, 100, 101]))
  (.seq (.post (.draw [⟨0, ⟨(some 102), .op (.faddr (.tmp 6) 0), none⟩, []⟩,
    ⟨1, ⟨(some 103), .op (.load 1 false (.tmp 102)), none⟩, []⟩,
    ⟨2, ⟨(some 104), .op (.mv (.tmp 3)), none⟩, []⟩,
    ⟨3, ⟨(some 105), .op (.bin .sub (.tmp 104) (.const (Value.int .i64 1))), none⟩, []⟩,
    ⟨4, ⟨(some 106), .call (.func i_spec_l00In) [(.tmp 103), (.const (Value.int .i64 0)), (.tmp 105)], none⟩, []⟩,
    ⟨5, ⟨(some 107), .op (.un .not (.tmp 106)), none⟩, []⟩,
    ⟨6, ⟨(some 108), .op (.mv (.tmp 107)), none⟩, []⟩,
    ⟨7, ⟨(some 109), .op (.faddr (.tmp 6) 1), some (108, false)⟩, []⟩,
    ⟨8, ⟨(some 110), .op (.load 1 false (.tmp 109)), some (108, false)⟩, []⟩,
    ⟨9, ⟨(some 111), .op (.mv (.tmp 0)), some (108, false)⟩, []⟩,
    ⟨10, ⟨(some 112), .op (.nilc (.tmp 111)), some (108, false)⟩, []⟩,
    ⟨11, ⟨(some 113), .op (.faddr (.tmp 112) 0), some (108, false)⟩, []⟩,
    ⟨12, ⟨(some 114), .op (.load 1 false (.tmp 113)), some (108, false)⟩, []⟩,
    ⟨13, ⟨(some 115), .op (.bin .sub (.tmp 114) (.const (Value.int .i64 1))), some (108, false)⟩, []⟩,
    ⟨14, ⟨(some 116), .call (.func i_spec_l00In) [(.tmp 110), (.const (Value.int .i64 0)), (.tmp 115)], some (108, false)⟩, []⟩,
    ⟨15, ⟨(some 117), .op (.un .not (.tmp 116)), some (108, false)⟩, []⟩,
    ⟨16, ⟨(some 118), .op (.pick (.tmp 108) (.const (Value.bool true)) (.tmp 117)), none⟩, []⟩,
    ⟨17, ⟨(some 119), .op (.mv (.tmp 118)), none⟩, []⟩,
    ⟨18, ⟨(some 120), .op (.faddr (.tmp 6) 2), some (119, false)⟩, []⟩,
    ⟨19, ⟨(some 121), .op (.load 1 false (.tmp 120)), some (119, false)⟩, []⟩,
    ⟨20, ⟨(some 122), .call (.func i_spec_l06Out) [(.tmp 121)], some (119, false)⟩, []⟩,
    ⟨21, ⟨(some 123), .op (.un .not (.tmp 122)), some (119, false)⟩, []⟩,
    ⟨22, ⟨(some 124), .op (.pick (.tmp 119) (.const (Value.bool true)) (.tmp 123)), none⟩, []⟩,
    ⟨23, ⟨(some 125), .op (.mv (.tmp 124)), none⟩, []⟩,
    ⟨24, ⟨(some 126), .op (.mv (.tmp 0)), some (125, false)⟩, []⟩,
    ⟨25, ⟨(some 127), .op (.nilc (.tmp 126)), some (125, false)⟩, []⟩,
    ⟨26, ⟨(some 128), .op (.faddr (.tmp 127) 3), some (125, false)⟩, []⟩,
    ⟨27, ⟨(some 129), .op (.load 1 false (.tmp 128)), some (125, false)⟩, []⟩,
    ⟨28, ⟨(some 130), .op (.mv (.tmp 4)), some (125, false)⟩, []⟩,
    ⟨29, ⟨(some 131), .op (.iaddrS (.tmp 129) (.tmp 130) 1), some (125, false)⟩, []⟩,
    ⟨30, ⟨(some 132), .op (.load 1 false (.tmp 131)), some (125, false)⟩, []⟩,
    ⟨31, ⟨(some 133), .op (.mv (.tmp 5)), some (125, false)⟩, []⟩,
    ⟨32, ⟨(some 134), .op (.iaddrS (.tmp 132) (.tmp 133) 1), some (125, false)⟩, []⟩,
    ⟨33, ⟨(some 135), .op (.load 1 false (.tmp 134)), some (125, false)⟩, []⟩,
    ⟨34, ⟨(some 136), .op (.mv (.tmp 0)), some (125, false)⟩, []⟩,
    ⟨35, ⟨(some 137), .op (.nilc (.tmp 136)), some (125, false)⟩, []⟩,
    ⟨36, ⟨(some 138), .op (.faddr (.tmp 137) 0), some (125, false)⟩, []⟩,
    ⟨37, ⟨(some 139), .op (.load 1 false (.tmp 138)), some (125, false)⟩, []⟩,
    ⟨38, ⟨(some 140), .op (.bin .add (.tmp 139) (.const (Value.int .i64 1))), some (125, false)⟩, []⟩,
    ⟨39, ⟨(some 141), .op (.mv (.tmp 3)), some (125, false)⟩, []⟩,
    ⟨40, ⟨(some 142), .call (.func i_spec_l06Moves) [(.tmp 135), (.tmp 140), (.tmp 141)], some (125, false)⟩, []⟩,
    ⟨41, ⟨(some 143), .op (.un .not (.tmp 142)), some (125, false)⟩, []⟩,
    ⟨42, ⟨(some 144), .op (.pick (.tmp 125) (.const (Value.bool true)) (.tmp 143)), none⟩, []⟩]
    [0, 1, 0, 4, 15, 31, 63, 127, 255, 127, 639, 1663, 3711, 7807, 16383, 32767, 65535, 131071, 262143, 524287, 1048575, 2097151, 4194303, 8388607, 16777215, 33554431, 67108863, 134217727, 16777215, 536870911, 1073741823, 16777215, 4294967295, 8589934591, 16777215, 17196646399, 51556384767, 120275861503, 257714814975, 16777215, 1099511627775, 2199023255551, 4398046511103]) (.kill [6, 102, 103, 104, 105, 106, 107, 108, 109, 110, 111, 112, 113, 114, 115, 116, 117, 118, 119, 120, 121, 122, 123, 124, 125, 126, 127, 128, 129, 130, 131, 132, 133, 134, 135, 136, 137, 138, 139, 140, 141, 142, 143]))
  (.cond (.tmp 144) (.ghost (.kill [0, 3, 4, 5, 144]) (.seq (.reg [⟨(some 2), .op (.mv (.const (Value.bool false))), none⟩])
  .ret))
  (.ghost (.kill [144]) .skip)))))
  (.post (.reg [⟨(some 90), .op (.mv (.tmp 5)), none⟩,
    ⟨(some 91), .op (.bin .add (.tmp 90) (.const (Value.int .i64 1))), none⟩,
    ⟨(some 5), .op (.mv (.tmp 91)), none⟩]) (.kill [90, 91])))) .nv)
def lo_spec_l06Ok_0 : AC := (.loop lb_spec_l06Ok_0)
def lb_spec_l06Ok_1 : AC := (.post (.seq (.seq (.post (.reg [⟨(some 51), .op (.mv (.tmp 4)), none⟩,
    ⟨(some 52), .op (.mv (.tmp 3)), none⟩,
    ⟨(some 53), .op (.bin .lss (.tmp 51) (.tmp 52)), none⟩]) (.kill [51, 52]))
  (.cond (.tmp 53) (.ghost (.kill [53]) .skip)
  (.ghost (.kill [0, 3, 4, 53]) (.exit 0))))
  (.seq (.block 1 (.seq (.seq (.post (.reg [⟨(some 56), .op (.mv (.tmp 0)), none⟩,
    ⟨(some 57), .op (.nilc (.tmp 56)), none⟩,
    ⟨(some 58), .op (.faddr (.tmp 57) 2), none⟩,
    ⟨(some 59), .op (.load 1 false (.tmp 58)), none⟩,
    ⟨(some 60), .op (.mv (.tmp 4)), none⟩,
    ⟨(some 61), .op (.iaddrS (.tmp 59) (.tmp 60) 1), none⟩,
    ⟨(some 62), .op (.load 1 false (.tmp 61)), none⟩,
    ⟨(some 63), .op (.len false (.tmp 62)), none⟩,
    ⟨(some 64), .op (.bin .neq (.tmp 63) (.const (Value.int .i64 2))), none⟩,
    ⟨(some 65), .op (.mv (.tmp 64)), none⟩,
    ⟨(some 66), .op (.mv (.tmp 0)), some (65, false)⟩,
    ⟨(some 67), .op (.nilc (.tmp 66)), some (65, false)⟩,
    ⟨(some 68), .op (.faddr (.tmp 67) 3), some (65, false)⟩,
    ⟨(some 69), .op (.load 1 false (.tmp 68)), some (65, false)⟩,
    ⟨(some 70), .op (.mv (.tmp 4)), some (65, false)⟩,
    ⟨(some 71), .op (.iaddrS (.tmp 69) (.tmp 70) 1), some (65, false)⟩,
    ⟨(some 72), .op (.load 1 false (.tmp 71)), some (65, false)⟩,
    ⟨(some 73), .op (.len false (.tmp 72)), some (65, false)⟩,
    ⟨(some 74), .op (.bin .neq (.tmp 73) (.const (Value.int .i64 2))), some (65, false)⟩,
    ⟨(some 75), .op (.pick (.tmp 65) (.const (Value.bool true)) (.tmp 74)), none⟩,
    ⟨(some 76), .op (.mv (.tmp 75)), none⟩,
    ⟨(some 77), .op (.mv (.tmp 0)), some (76, false)⟩,
    ⟨(some 78), .op (.nilc (.tmp 77)), some (76, false)⟩,
    ⟨(some 79), .op (.faddr (.tmp 78) 4), some (76, false)⟩,
    ⟨(some 80), .op (.load 1 false (.tmp 79)), some (76, false)⟩,
    ⟨(some 81), .op (.mv (.tmp 4)), some (76, false)⟩,
    ⟨(some 82), .op (.iaddrS (.tmp 80) (.tmp 81) 1), some (76, false)⟩,
    ⟨(some 83), .op (.load 1 false (.tmp 82)), some (76, false)⟩,
    ⟨(some 84), .op (.mv (.tmp 3)), some (76, false)⟩,
    ⟨(some 85), .call (.func i_spec_l06Moves) [(.tmp 83), (.const (Value.int .i64 2)), (.tmp 84)], some (76, false)⟩,
    ⟨(some 86), .op (.un .not (.tmp 85)), some (76, false)⟩,
    ⟨(some 87), .op (.pick (.tmp 76) (.const (Value.bool true)) (.tmp 86)), none⟩]) (.kill [56, 57, 58, 59, 60, 61, 62, 63, 64, 65, 66, 67, 68, 69, 70, 71, 72, 73, 74, 75, 76, 77, 78, 79, 80, 81, 82, 83, 84, 85, 86]))
  (.cond (.tmp 87) (.ghost (.kill [0, 3, 4, 87]) (.seq (.reg [⟨(some 2), .op (.mv (.const (Value.bool false))), none⟩])
  .ret))
  (.ghost (.kill [87]) .skip)))
  (.seq (.reg [⟨(some 5), .op (.mv (.const (Value.int .i64 0))), none⟩])
  (.post (.block 2 (.ghost .nv lo_spec_l06Ok_0)) .nv))))
  (.ghost (.kill [5]) (.post (.reg [⟨(some 54), .op (.mv (.tmp 4)), none⟩,
    ⟨(some 55), .op (.bin .add (.tmp 54) (.const (Value.int .i64 1))), none⟩,
    ⟨(some 4), .op (.mv (.tmp 55)), none⟩]) (.kill [54, 55]))))) .nv)
def lo_spec_l06Ok_1 : AC := (.loop lb_spec_l06Ok_1)
def ac_spec_l06Ok : AC := (.seq (.post (.reg [⟨(some 2), .op (.mv (.const (Value.bool false))), none⟩]) (.kill [2]))
  (.seq (.post (.reg [⟨(some 7), .op (.mv (.tmp 0)), none⟩,
    ⟨(some 8), .op (.nilc (.tmp 7)), none⟩,
    ⟨(some 9), .op (.faddr (.tmp 8) 2), none⟩,
    ⟨(some 10), .op (.load 1 false (.tmp 9)), none⟩,
    ⟨(some 11), .op (.len false (.tmp 10)), none⟩,
    ⟨(some 3), .op (.mv (.tmp 11)), none⟩]) (.kill [7, 8, 9, 10, 11]))
  (.seq (.seq (.post (.reg [⟨(some 12), .op (.mv (.tmp 3)), none⟩,
    ⟨(some 13), .call (.func i_spec_l00In) [(.tmp 12), (.const (Value.int .i64 1)), (.const (Value.int .i64 8))], none⟩,
    ⟨(some 14), .op (.un .not (.tmp 13)), none⟩,
    ⟨(some 15), .op (.mv (.tmp 14)), none⟩,
    ⟨(some 16), .op (.mv (.tmp 0)), some (15, false)⟩,
    ⟨(some 17), .op (.nilc (.tmp 16)), some (15, false)⟩,
    ⟨(some 18), .op (.faddr (.tmp 17) 0), some (15, false)⟩,
    ⟨(some 19), .op (.load 1 false (.tmp 18)), some (15, false)⟩,
    ⟨(some 20), .call (.func i_spec_l00In) [(.tmp 19), (.const (Value.int .i64 1)), (.const (Value.int .i64 8))], some (15, false)⟩,
    ⟨(some 21), .op (.un .not (.tmp 20)), some (15, false)⟩,
    ⟨(some 22), .op (.pick (.tmp 15) (.const (Value.bool true)) (.tmp 21)), none⟩,
    ⟨(some 23), .op (.mv (.tmp 22)), none⟩,
    ⟨(some 24), .op (.mv (.tmp 0)), some (23, false)⟩,
    ⟨(some 25), .op (.nilc (.tmp 24)), some (23, false)⟩,
    ⟨(some 26), .op (.faddr (.tmp 25) 1), some (23, false)⟩,
    ⟨(some 27), .op (.load 1 false (.tmp 26)), some (23, false)⟩,
    ⟨(some 28), .op (.mv (.tmp 3)), some (23, false)⟩,
    ⟨(some 29), .op (.bin .sub (.tmp 28) (.const (Value.int .i64 1))), some (23, false)⟩,
    ⟨(some 30), .call (.func i_spec_l00In) [(.tmp 27), (.const (Value.int .i64 0)), (.tmp 29)], some (23, false)⟩,
    ⟨(some 31), .op (.un .not (.tmp 30)), some (23, false)⟩,
    ⟨(some 32), .op (.pick (.tmp 23) (.const (Value.bool true)) (.tmp 31)), none⟩,
    ⟨(some 33), .op (.mv (.tmp 32)), none⟩,
    ⟨(some 34), .op (.mv (.tmp 0)), some (33, false)⟩,
    ⟨(some 35), .op (.nilc (.tmp 34)), some (33, false)⟩,
    ⟨(some 36), .op (.faddr (.tmp 35) 3), some (33, false)⟩,
    ⟨(some 37), .op (.load 1 false (.tmp 36)), some (33, false)⟩,
    ⟨(some 38), .op (.len false (.tmp 37)), some (33, false)⟩,
    ⟨(some 39), .op (.mv (.tmp 3)), some (33, false)⟩,
    ⟨(some 40), .op (.bin .neq (.tmp 38) (.tmp 39)), some (33, false)⟩,
    ⟨(some 41), .op (.pick (.tmp 33) (.const (Value.bool true)) (.tmp 40)), none⟩,
    ⟨(some 42), .op (.mv (.tmp 41)), none⟩,
    ⟨(some 43), .op (.mv (.tmp 0)), some (42, false)⟩,
    ⟨(some 44), .op (.nilc (.tmp 43)), some (42, false)⟩,
    ⟨(some 45), .op (.faddr (.tmp 44) 4), some (42, false)⟩,
    ⟨(some 46), .op (.load 1 false (.tmp 45)), some (42, false)⟩,
    ⟨(some 47), .op (.len false (.tmp 46)), some (42, false)⟩,
    ⟨(some 48), .op (.mv (.tmp 3)), some (42, false)⟩,
    ⟨(some 49), .op (.bin .neq (.tmp 47) (.tmp 48)), some (42, false)⟩,
    ⟨(some 50), .op (.pick (.tmp 42) (.const (Value.bool true)) (.tmp 49)), none⟩]) (.kill [12, 13, 14, 15, 16, 17, 18, 19, 20, 21, 22, 23, 24, 25, 26, 27, 28, 29, 30, 31, 32, 33, 34, 35, 36, 37, 38, 39, 40, 41, 42, 43, 44, 45, 46, 47, 48, 49]))
  (.cond (.tmp 50) (.ghost (.kill [0, 3, 50]) (.seq (.reg [⟨(some 2), .op (.mv (.const (Value.bool false))), none⟩])
  .ret))
  (.ghost (.kill [50]) .skip)))
  (.seq (.seq (.reg [⟨(some 4), .op (.mv (.const (Value.int .i64 0))), none⟩])
  (.post (.block 0 (.ghost .nv lo_spec_l06Ok_1)) .nv))
  (.ghost (.kill [0, 3, 4]) (.seq (.reg [⟨(some 2), .op (.mv (.const (Value.bool true))), none⟩])
  .ret))))))
theorem cf_spec_l06Ok : chkFn Try.prog i_spec_l06Ok ac_spec_l06Ok [.tmp 2] 145 = true := by decide +kernel
def fa_spec_l06Ok : FnA := ⟨ac_spec_l06Ok, [.tmp 2], 145, false, true, [], .any⟩

/-- The checked code of spec ValidRewriter. -/
def ac_spec_ValidRewriter : AC := (.seq (.post (.reg [⟨(some 1), .op (.box true (.tmp 0)), none⟩,
    ⟨(some 2), .op (.mv (.const (Value.bool false))), none⟩]) (.kill [0, 2]))
  (.seq (.post (.reg [⟨(some 3), .call (.func i_spec_l06Ok) [(.tmp 1)], none⟩,
    ⟨(some 2), .op (.mv (.tmp 3)), none⟩]) (.kill [1, 3]))
  .ret))
theorem cf_spec_ValidRewriter : chkFn Try.prog i_spec_ValidRewriter ac_spec_ValidRewriter [.tmp 2] 4 = true := by decide +kernel
def fa_spec_ValidRewriter : FnA := ⟨ac_spec_ValidRewriter, [.tmp 2], 4, false, true, [], .any⟩

/-- The checked code of laws toOutPush. -/
def ac_laws_toOutPush : AC := (.seq (.post (.reg [⟨(some 1), .op (.box true (.tmp 0)), none⟩,
    ⟨(some 2), .op (.alloc (Value.agg #[Value.int .i64 0, Value.int .i64 0, Value.string ⟨#[]⟩])), none⟩]) (.kill [0]))
  (.seq (.reg [⟨(some 3), .op (.alloc (Value.agg #[Value.int .i64 0, Value.int .i64 0, Value.string ⟨#[]⟩])), none⟩])
  (.seq (.post (.reg [⟨(some 4), .op (.faddr (.tmp 1) 0), none⟩,
    ⟨(some 5), .op (.load 1 false (.tmp 4)), none⟩,
    ⟨(some 6), .op (.faddr (.tmp 3) 0), none⟩,
    ⟨none, .op (.store 1 (.tmp 6) (.tmp 5)), none⟩]) (.kill [4, 5, 6]))
  (.seq (.post (.reg [⟨(some 7), .op (.faddr (.tmp 1) 1), none⟩,
    ⟨(some 8), .op (.load 1 false (.tmp 7)), none⟩,
    ⟨(some 9), .op (.faddr (.tmp 3) 1), none⟩,
    ⟨none, .op (.store 1 (.tmp 9) (.tmp 8)), none⟩]) (.kill [7, 8, 9]))
  (.seq (.post (.reg [⟨(some 10), .op (.faddr (.tmp 1) 2), none⟩,
    ⟨(some 11), .op (.load 1 false (.tmp 10)), none⟩,
    ⟨(some 12), .op (.faddr (.tmp 3) 2), none⟩,
    ⟨none, .op (.store 1 (.tmp 12) (.tmp 11)), none⟩]) (.kill [1, 10, 11, 12]))
  (.seq (.post (.reg [⟨(some 13), .op (.load 3 true (.tmp 3)), none⟩,
    ⟨none, .op (.store 3 (.tmp 2) (.tmp 13)), none⟩]) (.kill [3, 13]))
  .ret))))))
theorem cf_laws_toOutPush : chkFn Try.prog i_laws_toOutPush ac_laws_toOutPush [.cell 2 3 true] 14 = true := by decide +kernel
def fa_laws_toOutPush : FnA := ⟨ac_laws_toOutPush, [.cell 2 3 true], 14, false, true, [], .any⟩

/-- The checked code of laws toOutPushS. -/
def lb_laws_toOutPushS_0 : AC := (.post (.seq (.seq (.post (.reg [⟨(some 8), .op (.mv (.tmp 4)), none⟩,
    ⟨(some 9), .op (.mv (.tmp 0)), none⟩,
    ⟨(some 10), .op (.len false (.tmp 9)), none⟩,
    ⟨(some 11), .op (.bin .lss (.tmp 8) (.tmp 10)), none⟩]) (.kill [8, 9, 10]))
  (.cond (.tmp 11) (.ghost (.kill [11]) .skip)
  (.ghost (.kill [0, 4, 11]) (.exit 0))))
  (.seq (.block 1 (.post (.reg [⟨(some 14), .op (.mv (.tmp 3)), none⟩,
    ⟨(some 15), .op (.mv (.tmp 4)), none⟩,
    ⟨(some 16), .op (.mv (.tmp 0)), none⟩,
    ⟨(some 17), .op (.mv (.tmp 4)), none⟩,
    ⟨(some 18), .op (.iaddrS (.tmp 16) (.tmp 17) 3), none⟩,
    ⟨(some 19), .op (.load 3 true (.tmp 18)), none⟩,
    ⟨(some 20), .call (.func i_laws_toOutPush) [(.tmp 19)], none⟩,
    ⟨(some 21), .op (.iaddrS (.tmp 14) (.tmp 15) 3), none⟩,
    ⟨none, .op (.store 3 (.tmp 21) (.tmp 20)), none⟩]) (.kill [14, 15, 16, 17, 18, 19, 20, 21])))
  (.post (.reg [⟨(some 12), .op (.mv (.tmp 4)), none⟩,
    ⟨(some 13), .op (.bin .add (.tmp 12) (.const (Value.int .i64 1))), none⟩,
    ⟨(some 4), .op (.mv (.tmp 13)), none⟩]) (.kill [12, 13])))) .nv)
def lo_laws_toOutPushS_0 : AC := (.loop lb_laws_toOutPushS_0)
def ac_laws_toOutPushS : AC := (.seq (.post (.reg [⟨(some 2), .op (.mv (.const (Value.slice none 0 0))), none⟩]) (.kill [2]))
  (.seq (.post (.reg [⟨(some 5), .op (.mv (.tmp 0)), none⟩,
    ⟨(some 6), .op (.len false (.tmp 5)), none⟩,
    ⟨(some 7), .op (.make (.tmp 6) (.tmp 6) 3 32 (Value.agg #[Value.int .i64 0, Value.int .i64 0, Value.string ⟨#[]⟩])), none⟩,
    ⟨(some 3), .op (.mv (.tmp 7)), none⟩]) (.kill [5, 6, 7]))
  (.seq (.seq (.reg [⟨(some 4), .op (.mv (.const (Value.int .i64 0))), none⟩])
  (.post (.block 0 (.ghost .nv lo_laws_toOutPushS_0)) .nv))
  (.ghost (.kill [0, 4]) (.seq (.post (.reg [⟨(some 22), .op (.mv (.tmp 3)), none⟩,
    ⟨(some 2), .op (.mv (.tmp 22)), none⟩]) (.kill [3, 22]))
  .ret)))))
theorem cf_laws_toOutPushS : chkFn Try.prog i_laws_toOutPushS ac_laws_toOutPushS [.tmp 2] 23 = true := by decide +kernel
def fa_laws_toOutPushS : FnA := ⟨ac_laws_toOutPushS, [.tmp 2], 23, false, true, [], .any⟩

/-- The checked code of laws toOutPushSS. -/
def lb_laws_toOutPushSS_0 : AC := (.post (.seq (.seq (.post (.reg [⟨(some 8), .op (.mv (.tmp 4)), none⟩,
    ⟨(some 9), .op (.mv (.tmp 0)), none⟩,
    ⟨(some 10), .op (.len false (.tmp 9)), none⟩,
    ⟨(some 11), .op (.bin .lss (.tmp 8) (.tmp 10)), none⟩]) (.kill [8, 9, 10]))
  (.cond (.tmp 11) (.ghost (.kill [11]) .skip)
  (.ghost (.kill [0, 4, 11]) (.exit 0))))
  (.seq (.block 1 (.post (.reg [⟨(some 14), .op (.mv (.tmp 3)), none⟩,
    ⟨(some 15), .op (.mv (.tmp 4)), none⟩,
    ⟨(some 16), .op (.mv (.tmp 0)), none⟩,
    ⟨(some 17), .op (.mv (.tmp 4)), none⟩,
    ⟨(some 18), .op (.iaddrS (.tmp 16) (.tmp 17) 1), none⟩,
    ⟨(some 19), .op (.load 1 false (.tmp 18)), none⟩,
    ⟨(some 20), .call (.func i_laws_toOutPushS) [(.tmp 19)], none⟩,
    ⟨(some 21), .op (.iaddrS (.tmp 14) (.tmp 15) 1), none⟩,
    ⟨none, .op (.store 1 (.tmp 21) (.tmp 20)), none⟩]) (.kill [14, 15, 16, 17, 18, 19, 20, 21])))
  (.post (.reg [⟨(some 12), .op (.mv (.tmp 4)), none⟩,
    ⟨(some 13), .op (.bin .add (.tmp 12) (.const (Value.int .i64 1))), none⟩,
    ⟨(some 4), .op (.mv (.tmp 13)), none⟩]) (.kill [12, 13])))) .nv)
def lo_laws_toOutPushSS_0 : AC := (.loop lb_laws_toOutPushSS_0)
def ac_laws_toOutPushSS : AC := (.seq (.post (.reg [⟨(some 2), .op (.mv (.const (Value.slice none 0 0))), none⟩]) (.kill [2]))
  (.seq (.post (.reg [⟨(some 5), .op (.mv (.tmp 0)), none⟩,
    ⟨(some 6), .op (.len false (.tmp 5)), none⟩,
    ⟨(some 7), .op (.make (.tmp 6) (.tmp 6) 1 24 (Value.slice none 0 0)), none⟩,
    ⟨(some 3), .op (.mv (.tmp 7)), none⟩]) (.kill [5, 6, 7]))
  (.seq (.seq (.reg [⟨(some 4), .op (.mv (.const (Value.int .i64 0))), none⟩])
  (.post (.block 0 (.ghost .nv lo_laws_toOutPushSS_0)) .nv))
  (.ghost (.kill [0, 4]) (.seq (.post (.reg [⟨(some 22), .op (.mv (.tmp 3)), none⟩,
    ⟨(some 2), .op (.mv (.tmp 22)), none⟩]) (.kill [3, 22]))
  .ret)))))
theorem cf_laws_toOutPushSS : chkFn Try.prog i_laws_toOutPushSS ac_laws_toOutPushSS [.tmp 2] 23 = true := by decide +kernel
def fa_laws_toOutPushSS : FnA := ⟨ac_laws_toOutPushSS, [.tmp 2], 23, false, true, [], .any⟩

/-- The checked code of laws toOutMove. -/
def ac_laws_toOutMove : AC := (.seq (.post (.reg [⟨(some 1), .op (.box true (.tmp 0)), none⟩,
    ⟨(some 2), .op (.alloc (Value.agg #[Value.int .i64 0, Value.string ⟨#[]⟩])), none⟩]) (.kill [0]))
  (.seq (.reg [⟨(some 3), .op (.alloc (Value.agg #[Value.int .i64 0, Value.string ⟨#[]⟩])), none⟩])
  (.seq (.post (.reg [⟨(some 4), .op (.faddr (.tmp 1) 0), none⟩,
    ⟨(some 5), .op (.load 1 false (.tmp 4)), none⟩,
    ⟨(some 6), .op (.faddr (.tmp 3) 0), none⟩,
    ⟨none, .op (.store 1 (.tmp 6) (.tmp 5)), none⟩]) (.kill [4, 5, 6]))
  (.seq (.post (.reg [⟨(some 7), .op (.faddr (.tmp 1) 1), none⟩,
    ⟨(some 8), .op (.load 1 false (.tmp 7)), none⟩,
    ⟨(some 9), .op (.faddr (.tmp 3) 1), none⟩,
    ⟨none, .op (.store 1 (.tmp 9) (.tmp 8)), none⟩]) (.kill [1, 7, 8, 9]))
  (.seq (.post (.reg [⟨(some 10), .op (.load 2 true (.tmp 3)), none⟩,
    ⟨none, .op (.store 2 (.tmp 2) (.tmp 10)), none⟩]) (.kill [3, 10]))
  .ret)))))
theorem cf_laws_toOutMove : chkFn Try.prog i_laws_toOutMove ac_laws_toOutMove [.cell 2 2 true] 11 = true := by decide +kernel
def fa_laws_toOutMove : FnA := ⟨ac_laws_toOutMove, [.cell 2 2 true], 11, false, true, [], .any⟩

/-- The checked code of laws toOutMoveS. -/
def lb_laws_toOutMoveS_0 : AC := (.post (.seq (.seq (.post (.reg [⟨(some 8), .op (.mv (.tmp 4)), none⟩,
    ⟨(some 9), .op (.mv (.tmp 0)), none⟩,
    ⟨(some 10), .op (.len false (.tmp 9)), none⟩,
    ⟨(some 11), .op (.bin .lss (.tmp 8) (.tmp 10)), none⟩]) (.kill [8, 9, 10]))
  (.cond (.tmp 11) (.ghost (.kill [11]) .skip)
  (.ghost (.kill [0, 4, 11]) (.exit 0))))
  (.seq (.block 1 (.post (.reg [⟨(some 14), .op (.mv (.tmp 3)), none⟩,
    ⟨(some 15), .op (.mv (.tmp 4)), none⟩,
    ⟨(some 16), .op (.mv (.tmp 0)), none⟩,
    ⟨(some 17), .op (.mv (.tmp 4)), none⟩,
    ⟨(some 18), .op (.iaddrS (.tmp 16) (.tmp 17) 2), none⟩,
    ⟨(some 19), .op (.load 2 true (.tmp 18)), none⟩,
    ⟨(some 20), .call (.func i_laws_toOutMove) [(.tmp 19)], none⟩,
    ⟨(some 21), .op (.iaddrS (.tmp 14) (.tmp 15) 2), none⟩,
    ⟨none, .op (.store 2 (.tmp 21) (.tmp 20)), none⟩]) (.kill [14, 15, 16, 17, 18, 19, 20, 21])))
  (.post (.reg [⟨(some 12), .op (.mv (.tmp 4)), none⟩,
    ⟨(some 13), .op (.bin .add (.tmp 12) (.const (Value.int .i64 1))), none⟩,
    ⟨(some 4), .op (.mv (.tmp 13)), none⟩]) (.kill [12, 13])))) .nv)
def lo_laws_toOutMoveS_0 : AC := (.loop lb_laws_toOutMoveS_0)
def ac_laws_toOutMoveS : AC := (.seq (.post (.reg [⟨(some 2), .op (.mv (.const (Value.slice none 0 0))), none⟩]) (.kill [2]))
  (.seq (.post (.reg [⟨(some 5), .op (.mv (.tmp 0)), none⟩,
    ⟨(some 6), .op (.len false (.tmp 5)), none⟩,
    ⟨(some 7), .op (.make (.tmp 6) (.tmp 6) 2 24 (Value.agg #[Value.int .i64 0, Value.string ⟨#[]⟩])), none⟩,
    ⟨(some 3), .op (.mv (.tmp 7)), none⟩]) (.kill [5, 6, 7]))
  (.seq (.seq (.reg [⟨(some 4), .op (.mv (.const (Value.int .i64 0))), none⟩])
  (.post (.block 0 (.ghost .nv lo_laws_toOutMoveS_0)) .nv))
  (.ghost (.kill [0, 4]) (.seq (.post (.reg [⟨(some 22), .op (.mv (.tmp 3)), none⟩,
    ⟨(some 2), .op (.mv (.tmp 22)), none⟩]) (.kill [3, 22]))
  .ret)))))
theorem cf_laws_toOutMoveS : chkFn Try.prog i_laws_toOutMoveS ac_laws_toOutMoveS [.tmp 2] 23 = true := by decide +kernel
def fa_laws_toOutMoveS : FnA := ⟨ac_laws_toOutMoveS, [.tmp 2], 23, false, true, [], .any⟩

/-- The checked code of laws toOutMoveSS. -/
def lb_laws_toOutMoveSS_0 : AC := (.post (.seq (.seq (.post (.reg [⟨(some 8), .op (.mv (.tmp 4)), none⟩,
    ⟨(some 9), .op (.mv (.tmp 0)), none⟩,
    ⟨(some 10), .op (.len false (.tmp 9)), none⟩,
    ⟨(some 11), .op (.bin .lss (.tmp 8) (.tmp 10)), none⟩]) (.kill [8, 9, 10]))
  (.cond (.tmp 11) (.ghost (.kill [11]) .skip)
  (.ghost (.kill [0, 4, 11]) (.exit 0))))
  (.seq (.block 1 (.post (.reg [⟨(some 14), .op (.mv (.tmp 3)), none⟩,
    ⟨(some 15), .op (.mv (.tmp 4)), none⟩,
    ⟨(some 16), .op (.mv (.tmp 0)), none⟩,
    ⟨(some 17), .op (.mv (.tmp 4)), none⟩,
    ⟨(some 18), .op (.iaddrS (.tmp 16) (.tmp 17) 1), none⟩,
    ⟨(some 19), .op (.load 1 false (.tmp 18)), none⟩,
    ⟨(some 20), .call (.func i_laws_toOutMoveS) [(.tmp 19)], none⟩,
    ⟨(some 21), .op (.iaddrS (.tmp 14) (.tmp 15) 1), none⟩,
    ⟨none, .op (.store 1 (.tmp 21) (.tmp 20)), none⟩]) (.kill [14, 15, 16, 17, 18, 19, 20, 21])))
  (.post (.reg [⟨(some 12), .op (.mv (.tmp 4)), none⟩,
    ⟨(some 13), .op (.bin .add (.tmp 12) (.const (Value.int .i64 1))), none⟩,
    ⟨(some 4), .op (.mv (.tmp 13)), none⟩]) (.kill [12, 13])))) .nv)
def lo_laws_toOutMoveSS_0 : AC := (.loop lb_laws_toOutMoveSS_0)
def ac_laws_toOutMoveSS : AC := (.seq (.post (.reg [⟨(some 2), .op (.mv (.const (Value.slice none 0 0))), none⟩]) (.kill [2]))
  (.seq (.post (.reg [⟨(some 5), .op (.mv (.tmp 0)), none⟩,
    ⟨(some 6), .op (.len false (.tmp 5)), none⟩,
    ⟨(some 7), .op (.make (.tmp 6) (.tmp 6) 1 24 (Value.slice none 0 0)), none⟩,
    ⟨(some 3), .op (.mv (.tmp 7)), none⟩]) (.kill [5, 6, 7]))
  (.seq (.seq (.reg [⟨(some 4), .op (.mv (.const (Value.int .i64 0))), none⟩])
  (.post (.block 0 (.ghost .nv lo_laws_toOutMoveSS_0)) .nv))
  (.ghost (.kill [0, 4]) (.seq (.post (.reg [⟨(some 22), .op (.mv (.tmp 3)), none⟩,
    ⟨(some 2), .op (.mv (.tmp 22)), none⟩]) (.kill [3, 22]))
  .ret)))))
theorem cf_laws_toOutMoveSS : chkFn Try.prog i_laws_toOutMoveSS ac_laws_toOutMoveSS [.tmp 2] 23 = true := by decide +kernel
def fa_laws_toOutMoveSS : FnA := ⟨ac_laws_toOutMoveSS, [.tmp 2], 23, false, true, [], .any⟩

/-- The checked code of laws toOutMoveSSS. -/
def lb_laws_toOutMoveSSS_0 : AC := (.post (.seq (.seq (.post (.reg [⟨(some 8), .op (.mv (.tmp 4)), none⟩,
    ⟨(some 9), .op (.mv (.tmp 0)), none⟩,
    ⟨(some 10), .op (.len false (.tmp 9)), none⟩,
    ⟨(some 11), .op (.bin .lss (.tmp 8) (.tmp 10)), none⟩]) (.kill [8, 9, 10]))
  (.cond (.tmp 11) (.ghost (.kill [11]) .skip)
  (.ghost (.kill [0, 4, 11]) (.exit 0))))
  (.seq (.block 1 (.post (.reg [⟨(some 14), .op (.mv (.tmp 3)), none⟩,
    ⟨(some 15), .op (.mv (.tmp 4)), none⟩,
    ⟨(some 16), .op (.mv (.tmp 0)), none⟩,
    ⟨(some 17), .op (.mv (.tmp 4)), none⟩,
    ⟨(some 18), .op (.iaddrS (.tmp 16) (.tmp 17) 1), none⟩,
    ⟨(some 19), .op (.load 1 false (.tmp 18)), none⟩,
    ⟨(some 20), .call (.func i_laws_toOutMoveSS) [(.tmp 19)], none⟩,
    ⟨(some 21), .op (.iaddrS (.tmp 14) (.tmp 15) 1), none⟩,
    ⟨none, .op (.store 1 (.tmp 21) (.tmp 20)), none⟩]) (.kill [14, 15, 16, 17, 18, 19, 20, 21])))
  (.post (.reg [⟨(some 12), .op (.mv (.tmp 4)), none⟩,
    ⟨(some 13), .op (.bin .add (.tmp 12) (.const (Value.int .i64 1))), none⟩,
    ⟨(some 4), .op (.mv (.tmp 13)), none⟩]) (.kill [12, 13])))) .nv)
def lo_laws_toOutMoveSSS_0 : AC := (.loop lb_laws_toOutMoveSSS_0)
def ac_laws_toOutMoveSSS : AC := (.seq (.post (.reg [⟨(some 2), .op (.mv (.const (Value.slice none 0 0))), none⟩]) (.kill [2]))
  (.seq (.post (.reg [⟨(some 5), .op (.mv (.tmp 0)), none⟩,
    ⟨(some 6), .op (.len false (.tmp 5)), none⟩,
    ⟨(some 7), .op (.make (.tmp 6) (.tmp 6) 1 24 (Value.slice none 0 0)), none⟩,
    ⟨(some 3), .op (.mv (.tmp 7)), none⟩]) (.kill [5, 6, 7]))
  (.seq (.seq (.reg [⟨(some 4), .op (.mv (.const (Value.int .i64 0))), none⟩])
  (.post (.block 0 (.ghost .nv lo_laws_toOutMoveSSS_0)) .nv))
  (.ghost (.kill [0, 4]) (.seq (.post (.reg [⟨(some 22), .op (.mv (.tmp 3)), none⟩,
    ⟨(some 2), .op (.mv (.tmp 22)), none⟩]) (.kill [3, 22]))
  .ret)))))
theorem cf_laws_toOutMoveSSS : chkFn Try.prog i_laws_toOutMoveSSS ac_laws_toOutMoveSSS [.tmp 2] 23 = true := by decide +kernel
def fa_laws_toOutMoveSSS : FnA := ⟨ac_laws_toOutMoveSSS, [.tmp 2], 23, false, true, [], .any⟩

/-- The checked code of laws toRewriter. -/
def ac_laws_toRewriter : AC := (.seq (.post (.reg [⟨(some 1), .op (.box true (.tmp 0)), none⟩,
    ⟨(some 2), .op (.alloc (Value.agg #[Value.int .i64 0, Value.int .i64 0, Value.slice none 0 0, Value.slice none 0 0, Value.slice none 0 0])), none⟩]) (.kill [0]))
  (.seq (.reg [⟨(some 3), .op (.alloc (Value.agg #[Value.int .i64 0, Value.int .i64 0, Value.slice none 0 0, Value.slice none 0 0, Value.slice none 0 0])), none⟩])
  (.seq (.post (.reg [⟨(some 4), .op (.faddr (.tmp 1) 0), none⟩,
    ⟨(some 5), .op (.load 1 false (.tmp 4)), none⟩,
    ⟨(some 6), .op (.faddr (.tmp 3) 0), none⟩,
    ⟨none, .op (.store 1 (.tmp 6) (.tmp 5)), none⟩]) (.kill [4, 5, 6]))
  (.seq (.post (.reg [⟨(some 7), .op (.faddr (.tmp 1) 1), none⟩,
    ⟨(some 8), .op (.load 1 false (.tmp 7)), none⟩,
    ⟨(some 9), .op (.faddr (.tmp 3) 1), none⟩,
    ⟨none, .op (.store 1 (.tmp 9) (.tmp 8)), none⟩]) (.kill [7, 8, 9]))
  (.seq (.post (.reg [⟨(some 10), .op (.faddr (.tmp 1) 2), none⟩,
    ⟨(some 11), .op (.load 1 false (.tmp 10)), none⟩,
    ⟨(some 12), .call (.func i_laws_toOutPushSS) [(.tmp 11)], none⟩,
    ⟨(some 13), .op (.faddr (.tmp 3) 2), none⟩,
    ⟨none, .op (.store 1 (.tmp 13) (.tmp 12)), none⟩]) (.kill [10, 11, 12, 13]))
  (.seq (.post (.reg [⟨(some 14), .op (.faddr (.tmp 1) 3), none⟩,
    ⟨(some 15), .op (.load 1 false (.tmp 14)), none⟩,
    ⟨(some 16), .call (.func i_laws_toOutMoveSSS) [(.tmp 15)], none⟩,
    ⟨(some 17), .op (.faddr (.tmp 3) 3), none⟩,
    ⟨none, .op (.store 1 (.tmp 17) (.tmp 16)), none⟩]) (.kill [14, 15, 16, 17]))
  (.seq (.post (.reg [⟨(some 18), .op (.faddr (.tmp 1) 4), none⟩,
    ⟨(some 19), .op (.load 1 false (.tmp 18)), none⟩,
    ⟨(some 20), .call (.func i_laws_toOutMoveSS) [(.tmp 19)], none⟩,
    ⟨(some 21), .op (.faddr (.tmp 3) 4), none⟩,
    ⟨none, .op (.store 1 (.tmp 21) (.tmp 20)), none⟩]) (.kill [1, 18, 19, 20, 21]))
  (.seq (.post (.reg [⟨(some 22), .op (.load 5 true (.tmp 3)), none⟩,
    ⟨none, .op (.store 5 (.tmp 2) (.tmp 22)), none⟩]) (.kill [3, 22]))
  .ret))))))))
theorem cf_laws_toRewriter : chkFn Try.prog i_laws_toRewriter ac_laws_toRewriter [.cell 2 5 true] 23 = true := by decide +kernel
def fa_laws_toRewriter : FnA := ⟨ac_laws_toRewriter, [.cell 2 5 true], 23, false, true, [], .any⟩

/-- The checked code of impl OutPush . -/
def ac_impl_size_L_impl_OutPush : AC := (.seq (.post (.reg [⟨(some 2), .op (.mv (.const (Value.int .i64 0))), none⟩]) (.kill [2]))
  (.seq (.post (.reg [⟨(some 3), .op (.mv (.tmp 0)), none⟩,
    ⟨(some 4), .op (.len false (.tmp 3)), none⟩,
    ⟨(some 2), .op (.mv (.tmp 4)), none⟩]) (.kill [0, 3, 4]))
  .ret))
theorem cf_impl_size_L_impl_OutPush : chkFn Try.prog i_impl_size_L_impl_OutPush ac_impl_size_L_impl_OutPush [.tmp 2] 5 = true := by decide +kernel
def fa_impl_size_L_impl_OutPush : FnA := ⟨ac_impl_size_L_impl_OutPush, [.tmp 2], 5, false, true, [], .any⟩

/-- The checked code of impl within. -/
def ac_impl_within : AC := (.seq (.post (.reg [⟨(some 6), .op (.mv (.const (Value.bool false))), none⟩]) (.kill [6]))
  (.seq (.post (.reg [⟨(some 7), .op (.mv (.tmp 0)), none⟩,
    ⟨(some 8), .op (.mv (.tmp 1)), none⟩,
    ⟨(some 9), .op (.bin .geq (.tmp 7) (.tmp 8)), none⟩,
    ⟨(some 10), .op (.mv (.tmp 9)), none⟩,
    ⟨(some 11), .op (.mv (.tmp 0)), some (10, true)⟩,
    ⟨(some 12), .op (.mv (.tmp 2)), some (10, true)⟩,
    ⟨(some 13), .op (.bin .leq (.tmp 11) (.tmp 12)), some (10, true)⟩,
    ⟨(some 14), .op (.pick (.tmp 10) (.tmp 13) (.const (Value.bool false))), none⟩,
    ⟨(some 6), .op (.mv (.tmp 14)), none⟩]) (.kill [0, 1, 2, 7, 8, 9, 10, 11, 12, 13, 14]))
  .ret))
theorem cf_impl_within : chkFn Try.prog i_impl_within ac_impl_within [.tmp 6] 15 = true := by decide +kernel
def fa_impl_within : FnA := ⟨ac_impl_within, [.tmp 6], 15, false, true, [], .any⟩

/-- The checked code of stringslite IndexByte. -/
def ac_internal_stringslite_IndexByte : AC := (.seq (.post (.reg [⟨(some 4), .op (.mv (.const (Value.int .i64 0))), none⟩]) (.kill [4]))
  (.seq (.post (.reg [⟨(some 5), .op (.mv (.tmp 0)), none⟩,
    ⟨(some 6), .op (.mv (.tmp 1)), none⟩,
    ⟨(some 7), .op (.idxb i_internal_bytealg_IndexByteString (.tmp 5) (.tmp 6)), none⟩,
    ⟨(some 4), .op (.mv (.tmp 7)), none⟩]) (.kill [0, 1, 5, 6, 7]))
  .ret))
theorem cf_internal_stringslite_IndexByte : chkFn Try.prog i_internal_stringslite_IndexByte ac_internal_stringslite_IndexByte [.tmp 4] 8 = true := by decide +kernel
def fa_internal_stringslite_IndexByte : FnA := ⟨ac_internal_stringslite_IndexByte, [.tmp 4], 8, false, true, [], .any⟩

/-- The checked code of strings IndexByte. -/
def ac_strings_IndexByte : AC := (.seq (.post (.reg [⟨(some 4), .op (.mv (.const (Value.int .i64 0))), none⟩]) (.kill [4]))
  (.seq (.post (.reg [⟨(some 5), .op (.mv (.tmp 0)), none⟩,
    ⟨(some 6), .op (.mv (.tmp 1)), none⟩,
    ⟨(some 7), .call (.func i_internal_stringslite_IndexByte) [(.tmp 5), (.tmp 6)], none⟩,
    ⟨(some 4), .op (.mv (.tmp 7)), none⟩]) (.kill [0, 1, 5, 6, 7]))
  .ret))
theorem cf_strings_IndexByte : chkFn Try.prog i_strings_IndexByte ac_strings_IndexByte [.tmp 4] 8 = true := by decide +kernel
def fa_strings_IndexByte : FnA := ⟨ac_strings_IndexByte, [.tmp 4], 8, false, true, [], .any⟩

/-- The checked code of impl ValidWord. -/
def lb_impl_ValidWord_0 : AC := (.seq (.reg [⟨(some 7), .op (.bin .lss (.tmp 6) (.tmp 5)), none⟩])
  (.seq (.cond (.tmp 7) (.ghost (.kill [7]) .skip)
  (.ghost (.kill [5, 6, 7]) (.exit 0)))
  (.seq (.block 1 (.seq (.post (.reg [⟨(some 8), .op (.mv (.tmp 6)), none⟩,
    ⟨(some 3), .op (.mv (.tmp 8)), none⟩]) (.kill [8]))
  (.seq (.post (.reg [⟨(some 9), .op (.mv (.tmp 0)), none⟩,
    ⟨(some 10), .op (.mv (.tmp 3)), none⟩,
    ⟨(some 11), .op (.idxStr (.tmp 9) (.tmp 10)), none⟩,
    ⟨(some 12), .call (.func i_strings_IndexByte) [(.const (Value.string ⟨#[40, 91, 41, 93, 97, 98]⟩)), (.tmp 11)], none⟩,
    ⟨(some 13), .op (.bin .lss (.tmp 12) (.const (Value.int .i64 0))), none⟩]) (.kill [3, 9, 10, 11, 12]))
  (.cond (.tmp 13) (.ghost (.kill [0, 5, 6, 13]) (.seq (.reg [⟨(some 2), .op (.mv (.const (Value.bool false))), none⟩])
  .ret))
  (.ghost (.kill [13]) .skip)))))
  (.post (.reg [⟨(some 14), .op (.bin .add (.tmp 6) (.const (Value.int .i64 1))), none⟩,
    ⟨(some 6), .op (.mv (.tmp 14)), none⟩]) (.kill [14])))))
def lo_impl_ValidWord_0 : AC := (.loop lb_impl_ValidWord_0)
def ac_impl_ValidWord : AC := (.seq (.post (.reg [⟨(some 2), .op (.mv (.const (Value.bool false))), none⟩]) (.kill [2]))
  (.seq (.seq (.post (.reg [⟨(some 4), .op (.mv (.tmp 0)), none⟩,
    ⟨(some 5), .op (.len true (.tmp 4)), none⟩,
    ⟨(some 6), .op (.mv (.const (Value.int .i64 0))), none⟩]) (.kill [4]))
  (.block 0 lo_impl_ValidWord_0))
  (.ghost (.kill [5, 6]) (.seq (.post (.reg [⟨(some 15), .op (.mv (.tmp 0)), none⟩,
    ⟨(some 16), .op (.len true (.tmp 15)), none⟩,
    ⟨(some 17), .op (.bin .leq (.tmp 16) (.const (Value.int .i64 60))), none⟩,
    ⟨(some 2), .op (.mv (.tmp 17)), none⟩]) (.kill [0, 15, 16, 17]))
  .ret))))
theorem cf_impl_ValidWord : chkFn Try.prog i_impl_ValidWord ac_impl_ValidWord [.tmp 2] 18 = true := by decide +kernel
def fa_impl_ValidWord : FnA := ⟨ac_impl_ValidWord, [.tmp 2], 18, false, true, [], .any⟩

/-- The checked code of impl isOut. -/
def ac_impl_isOut : AC := (.seq (.post (.reg [⟨(some 2), .op (.mv (.const (Value.bool false))), none⟩]) (.kill [2]))
  (.seq (.post (.reg [⟨(some 3), .op (.mv (.tmp 0)), none⟩,
    ⟨(some 4), .call (.func i_impl_ValidWord) [(.tmp 3)], none⟩,
    ⟨(some 5), .op (.mv (.tmp 4)), none⟩,
    ⟨(some 6), .op (.mv (.tmp 0)), some (5, true)⟩,
    ⟨(some 7), .op (.len true (.tmp 6)), some (5, true)⟩,
    ⟨(some 8), .op (.bin .leq (.tmp 7) (.const (Value.int .i64 4))), some (5, true)⟩,
    ⟨(some 9), .op (.pick (.tmp 5) (.tmp 8) (.const (Value.bool false))), none⟩,
    ⟨(some 2), .op (.mv (.tmp 9)), none⟩]) (.kill [0, 3, 4, 5, 6, 7, 8, 9]))
  .ret))
theorem cf_impl_isOut : chkFn Try.prog i_impl_isOut ac_impl_isOut [.tmp 2] 10 = true := by decide +kernel
def fa_impl_isOut : FnA := ⟨ac_impl_isOut, [.tmp 2], 10, false, true, [], .any⟩

/-- The checked code of impl ValidRewriter 1. -/
def ac_impl_ValidRewriter_1 : AC := (.seq (.post (.reg [⟨(some 2), .op (.box true (.tmp 0)), none⟩,
    ⟨(some 3), .op (.mv (.const (Value.bool false))), none⟩]) (.kill [0, 3]))
  (.seq (.post (.reg [⟨(some 4), .op (.faddr (.tmp 2) 0), none⟩,
    ⟨(some 5), .op (.load 1 false (.tmp 4)), none⟩,
    ⟨(some 6), .op (.load 1 false (.tmp 1)), none⟩,
    ⟨(some 7), .op (.bin .sub (.tmp 6) (.const (Value.int .i64 1))), none⟩,
    ⟨(some 8), .call (.func i_impl_within) [(.tmp 5), (.const (Value.int .i64 0)), (.tmp 7)], none⟩,
    ⟨(some 9), .op (.mv (.tmp 8)), none⟩,
    ⟨(some 10), .op (.faddr (.tmp 2) 1), some (9, true)⟩,
    ⟨(some 11), .op (.load 1 false (.tmp 10)), some (9, true)⟩,
    ⟨(some 12), .call (.func i_impl_isOut) [(.tmp 11)], some (9, true)⟩,
    ⟨(some 13), .op (.pick (.tmp 9) (.tmp 12) (.const (Value.bool false))), none⟩,
    ⟨(some 3), .op (.mv (.tmp 13)), none⟩]) (.kill [1, 2, 4, 5, 6, 7, 8, 9, 10, 11, 12, 13]))
  .ret))
theorem cf_impl_ValidRewriter_1 : chkFn Try.prog i_impl_ValidRewriter_1 ac_impl_ValidRewriter_1 [.tmp 3] 14 = true := by decide +kernel
def fa_impl_ValidRewriter_1 : FnA := ⟨ac_impl_ValidRewriter_1, [.tmp 3], 14, false, true, [], .any⟩

/-- The checked code of impl OutMove . -/
def ac_impl_size_impl_OutMove : AC := (.seq (.post (.reg [⟨(some 2), .op (.mv (.const (Value.int .i64 0))), none⟩]) (.kill [2]))
  (.seq (.post (.reg [⟨(some 3), .op (.mv (.tmp 0)), none⟩,
    ⟨(some 4), .op (.len false (.tmp 3)), none⟩,
    ⟨(some 2), .op (.mv (.tmp 4)), none⟩]) (.kill [0, 3, 4]))
  .ret))
theorem cf_impl_size_impl_OutMove : chkFn Try.prog i_impl_size_impl_OutMove ac_impl_size_impl_OutMove [.tmp 2] 5 = true := by decide +kernel
def fa_impl_size_impl_OutMove : FnA := ⟨ac_impl_size_impl_OutMove, [.tmp 2], 5, false, true, [], .any⟩

/-- The checked code of impl OutMove . -/
def lb_slices_IndexFunc_L_impl_OutMove_0 : AC := (.seq (.reg [⟨(some 9), .op (.bin .lss (.tmp 8) (.tmp 7)), none⟩])
  (.seq (.cond (.tmp 9) (.ghost (.kill [9]) .skip)
  (.ghost (.kill [0, 1, 7, 8, 9]) (.exit 0)))
  (.seq (.block 1 (.seq (.post (.reg [⟨(some 10), .op (.mv (.tmp 8)), none⟩,
    ⟨(some 5), .op (.mv (.tmp 10)), none⟩]) (.kill [10]))
  (.seq (.post (.reg [⟨(some 11), .op (.mv (.tmp 1)), none⟩,
    ⟨(some 12), .op (.mv (.tmp 0)), none⟩,
    ⟨(some 13), .op (.mv (.tmp 5)), none⟩,
    ⟨(some 14), .op (.iaddrS (.tmp 12) (.tmp 13) 2), none⟩,
    ⟨(some 15), .op (.load 2 true (.tmp 14)), none⟩,
    ⟨(some 16), .call (.tmp 11) [(.tmp 15)], none⟩]) (.kill [11, 12, 13, 14, 15]))
  (.cond (.tmp 16) (.ghost (.kill [0, 1, 7, 8, 16]) (.seq (.post (.reg [⟨(some 17), .op (.mv (.tmp 5)), none⟩,
    ⟨(some 4), .op (.mv (.tmp 17)), none⟩]) (.kill [5, 17]))
  .ret))
  (.ghost (.kill [5, 16]) .skip)))))
  (.post (.reg [⟨(some 18), .op (.bin .add (.tmp 8) (.const (Value.int .i64 1))), none⟩,
    ⟨(some 8), .op (.mv (.tmp 18)), none⟩]) (.kill [18])))))
def lo_slices_IndexFunc_L_impl_OutMove_0 : AC := (.loop lb_slices_IndexFunc_L_impl_OutMove_0)
def ac_slices_IndexFunc_L_impl_OutMove : AC := (.seq (.post (.reg [⟨(some 4), .op (.mv (.const (Value.int .i64 0))), none⟩]) (.kill [4]))
  (.seq (.seq (.post (.reg [⟨(some 6), .op (.mv (.tmp 0)), none⟩,
    ⟨(some 7), .op (.len false (.tmp 6)), none⟩,
    ⟨(some 8), .op (.mv (.const (Value.int .i64 0))), none⟩]) (.kill [6]))
  (.block 0 lo_slices_IndexFunc_L_impl_OutMove_0))
  (.ghost (.kill [0, 1, 7, 8]) (.seq (.reg [⟨(some 4), .op (.mv (.const (Value.int .i64 (-1)))), none⟩])
  .ret))))
theorem cf_slices_IndexFunc_L_impl_OutMove : chkFn Try.prog i_slices_IndexFunc_L_impl_OutMove ac_slices_IndexFunc_L_impl_OutMove [.tmp 4] 19 = true := by decide +kernel
def fa_slices_IndexFunc_L_impl_OutMove : FnA := ⟨ac_slices_IndexFunc_L_impl_OutMove, [.tmp 4], 19, false, true, [], .any⟩

/-- The checked code of impl OutMove . -/
def ac_slices_ContainsFunc_L_impl_OutMove : AC := (.seq (.post (.reg [⟨(some 4), .op (.mv (.const (Value.bool false))), none⟩]) (.kill [4]))
  (.seq (.post (.reg [⟨(some 5), .op (.mv (.tmp 0)), none⟩,
    ⟨(some 6), .op (.mv (.tmp 1)), none⟩,
    ⟨(some 7), .call (.func i_slices_IndexFunc_L_impl_OutMove) [(.tmp 5), (.tmp 6)], none⟩,
    ⟨(some 8), .op (.bin .geq (.tmp 7) (.const (Value.int .i64 0))), none⟩,
    ⟨(some 4), .op (.mv (.tmp 8)), none⟩]) (.kill [0, 1, 5, 6, 7, 8]))
  .ret))
theorem cf_slices_ContainsFunc_L_impl_OutMove : chkFn Try.prog i_slices_ContainsFunc_L_impl_OutMove ac_slices_ContainsFunc_L_impl_OutMove [.tmp 4] 9 = true := by decide +kernel
def fa_slices_ContainsFunc_L_impl_OutMove : FnA := ⟨ac_slices_ContainsFunc_L_impl_OutMove, [.tmp 4], 9, false, true, [], .any⟩

/-- The checked code of impl ValidRewriter 2 1. -/
def ac_impl_ValidRewriter_2_1 : AC := (.seq (.post (.reg [⟨(some 2), .op (.box true (.tmp 0)), none⟩,
    ⟨(some 3), .op (.mv (.const (Value.bool false))), none⟩]) (.kill [0, 3]))
  (.seq (.post (.reg [⟨(some 4), .op (.load 1 false (.tmp 1)), none⟩,
    ⟨(some 5), .op (.load 2 true (.tmp 2)), none⟩,
    ⟨(some 6), .call (.tmp 4) [(.tmp 5)], none⟩,
    ⟨(some 7), .op (.un .not (.tmp 6)), none⟩,
    ⟨(some 3), .op (.mv (.tmp 7)), none⟩]) (.kill [1, 2, 4, 5, 6, 7]))
  .ret))
theorem cf_impl_ValidRewriter_2_1 : chkFn Try.prog i_impl_ValidRewriter_2_1 ac_impl_ValidRewriter_2_1 [.tmp 3] 8 = true := by decide +kernel
def fa_impl_ValidRewriter_2_1 : FnA := ⟨ac_impl_ValidRewriter_2_1, [.tmp 3], 8, false, true, [], .any⟩

/-- The checked code of impl ValidRewriter 2. -/
def ac_impl_ValidRewriter_2 : AC := (.seq (.post (.reg [⟨(some 5), .op (.mv (.const (Value.bool false))), none⟩]) (.kill [5]))
  (.seq (.post (.reg [⟨(some 6), .op (.mv (.tmp 0)), none⟩,
    ⟨(some 7), .call (.func i_impl_size_impl_OutMove) [(.tmp 6)], none⟩,
    ⟨(some 8), .op (.mv (.tmp 1)), none⟩,
    ⟨(some 9), .op (.bin .eql (.tmp 7) (.tmp 8)), none⟩,
    ⟨(some 10), .op (.mv (.tmp 9)), none⟩,
    ⟨(some 11), .op (.mv (.tmp 0)), some (10, true)⟩,
    ⟨(some 12), .op (.mkfn i_impl_ValidRewriter_2_1 [(.tmp 2)]), some (10, true)⟩,
    ⟨(some 13), .call (.func i_slices_ContainsFunc_L_impl_OutMove) [(.tmp 11), (.tmp 12)], some (10, true)⟩,
    ⟨(some 14), .op (.un .not (.tmp 13)), some (10, true)⟩,
    ⟨(some 15), .op (.pick (.tmp 10) (.tmp 14) (.const (Value.bool false))), none⟩,
    ⟨(some 5), .op (.mv (.tmp 15)), none⟩]) (.kill [0, 1, 2, 6, 7, 8, 9, 10, 11, 12, 13, 14, 15]))
  .ret))
theorem cf_impl_ValidRewriter_2 : chkFn Try.prog i_impl_ValidRewriter_2 ac_impl_ValidRewriter_2 [.tmp 5] 16 = true := by decide +kernel
def fa_impl_ValidRewriter_2 : FnA := ⟨ac_impl_ValidRewriter_2, [.tmp 5], 16, false, true, [], .any⟩

/-- The checked code of impl OutMove . -/
def ac_impl_size_L_L_impl_OutMove : AC := (.seq (.post (.reg [⟨(some 2), .op (.mv (.const (Value.int .i64 0))), none⟩]) (.kill [2]))
  (.seq (.post (.reg [⟨(some 3), .op (.mv (.tmp 0)), none⟩,
    ⟨(some 4), .op (.len false (.tmp 3)), none⟩,
    ⟨(some 2), .op (.mv (.tmp 4)), none⟩]) (.kill [0, 3, 4]))
  .ret))
theorem cf_impl_size_L_L_impl_OutMove : chkFn Try.prog i_impl_size_L_L_impl_OutMove ac_impl_size_L_L_impl_OutMove [.tmp 2] 5 = true := by decide +kernel
def fa_impl_size_L_L_impl_OutMove : FnA := ⟨ac_impl_size_L_L_impl_OutMove, [.tmp 2], 5, false, true, [], .any⟩

/-- The checked code of impl OutMove . -/
def ac_impl_size_L_impl_OutMove : AC := (.seq (.post (.reg [⟨(some 2), .op (.mv (.const (Value.int .i64 0))), none⟩]) (.kill [2]))
  (.seq (.post (.reg [⟨(some 3), .op (.mv (.tmp 0)), none⟩,
    ⟨(some 4), .op (.len false (.tmp 3)), none⟩,
    ⟨(some 2), .op (.mv (.tmp 4)), none⟩]) (.kill [0, 3, 4]))
  .ret))
theorem cf_impl_size_L_impl_OutMove : chkFn Try.prog i_impl_size_L_impl_OutMove ac_impl_size_L_impl_OutMove [.tmp 2] 5 = true := by decide +kernel
def fa_impl_size_L_impl_OutMove : FnA := ⟨ac_impl_size_L_impl_OutMove, [.tmp 2], 5, false, true, [], .any⟩

/-- The checked code of impl ValidRewriter. -/
def lb_impl_ValidRewriter_0 : AC := (.post (.seq (.reg [⟨(some 76), .op (.bin .lss (.tmp 75) (.const (Value.int .i64 2))), none⟩])
  (.seq (.cond (.tmp 76) (.ghost (.kill [76]) .skip)
  (.ghost (.kill [6, 75, 76]) (.exit 2)))
  (.seq (.block 3 (.seq (.post (.reg [⟨(some 77), .op (.mv (.tmp 75)), none⟩,
    ⟨(some 7), .op (.mv (.tmp 77)), none⟩]) (.kill [77]))
  (.seq (.post (.reg [⟨(some 78), .op (.faddr (.tmp 1) 2), none⟩,
    ⟨(some 79), .op (.load 1 false (.tmp 78)), none⟩,
    ⟨(some 80), .op (.mv (.tmp 6)), none⟩,
    ⟨(some 81), .op (.iaddrS (.tmp 79) (.tmp 80) 1), none⟩,
    ⟨(some 82), .op (.load 1 false (.tmp 81)), none⟩,
    ⟨(some 83), .op (.mv (.tmp 7)), none⟩,
    ⟨(some 84), .op (.iaddrS (.tmp 82) (.tmp 83) 3), none⟩,
    ⟨(some 85), .op (.load 3 true (.tmp 84)), none⟩,
    ⟨(some 8), .op (.alloc (Value.agg #[Value.int .i64 0, Value.int .i64 0, Value.string ⟨#[]⟩])), none⟩,
    ⟨none, .op (.store 3 (.tmp 8) (.tmp 85)), none⟩]) (.kill [78, 79, 80, 81, 82, 83, 84, 85]))
  (.seq (.post (.draw [⟨0, ⟨(some 86), .op (.load 1 false (.tmp 4)), none⟩, []⟩,
    ⟨1, ⟨(some 87), .op (.faddr (.tmp 8) 0), none⟩, []⟩,
    ⟨2, ⟨(some 88), .op (.load 1 false (.tmp 87)), none⟩, []⟩,
    ⟨3, ⟨(some 89), .op (.faddr (.tmp 8) 2), none⟩, []⟩,
    ⟨4, ⟨(some 90), .op (.load 1 false (.tmp 89)), none⟩, []⟩,
    ⟨5, ⟨(some 91), .op (.build [Value.int .i64 0, Value.string ⟨#[]⟩] [(0, 1, (.tmp 88)), (1, 1, (.tmp 90))]), none⟩, []⟩,
    ⟨6, ⟨(some 92), .call (.tmp 86) [(.tmp 91)], none⟩, []⟩,
    ⟨7, ⟨(some 93), .op (.un .not (.tmp 92)), none⟩, []⟩,
    ⟨8, ⟨(some 94), .op (.mv (.tmp 93)), none⟩, []⟩,
    ⟨9, ⟨(some 95), .op (.faddr (.tmp 8) 1), some (94, false)⟩, []⟩,
    ⟨10, ⟨(some 96), .op (.load 1 false (.tmp 95)), some (94, false)⟩, []⟩,
    ⟨11, ⟨(some 97), .op (.faddr (.tmp 1) 0), some (94, false)⟩, []⟩,
    ⟨12, ⟨(some 98), .op (.load 1 false (.tmp 97)), some (94, false)⟩, []⟩,
    ⟨13, ⟨(some 99), .op (.bin .sub (.tmp 98) (.const (Value.int .i64 1))), some (94, false)⟩, []⟩,
    ⟨14, ⟨(some 100), .call (.func i_impl_within) [(.tmp 96), (.const (Value.int .i64 0)), (.tmp 99)], some (94, false)⟩, []⟩,
    ⟨15, ⟨(some 101), .op (.un .not (.tmp 100)), some (94, false)⟩, []⟩,
    ⟨16, ⟨(some 102), .op (.pick (.tmp 94) (.const (Value.bool true)) (.tmp 101)), none⟩, []⟩,
    ⟨17, ⟨(some 103), .op (.mv (.tmp 102)), none⟩, []⟩,
    ⟨18, ⟨(some 104), .op (.mv (.tmp 5)), some (103, false)⟩, []⟩,
    ⟨19, ⟨(some 105), .op (.faddr (.tmp 1) 3), some (103, false)⟩, []⟩,
    ⟨20, ⟨(some 106), .op (.load 1 false (.tmp 105)), some (103, false)⟩, []⟩,
    ⟨21, ⟨(some 107), .op (.mv (.tmp 6)), some (103, false)⟩, []⟩,
    ⟨22, ⟨(some 108), .op (.iaddrS (.tmp 106) (.tmp 107) 1), some (103, false)⟩, []⟩,
    ⟨23, ⟨(some 109), .op (.load 1 false (.tmp 108)), some (103, false)⟩, []⟩,
    ⟨24, ⟨(some 110), .op (.mv (.tmp 7)), some (103, false)⟩, []⟩,
    ⟨25, ⟨(some 111), .op (.iaddrS (.tmp 109) (.tmp 110) 1), some (103, false)⟩, []⟩,
    ⟨26, ⟨(some 112), .op (.load 1 false (.tmp 111)), some (103, false)⟩, []⟩,
    ⟨27, ⟨(some 113), .op (.faddr (.tmp 1) 0), some (103, false)⟩, []⟩,
    ⟨28, ⟨(some 114), .op (.load 1 false (.tmp 113)), some (103, false)⟩, []⟩,
    ⟨29, ⟨(some 115), .op (.bin .add (.tmp 114) (.const (Value.int .i64 1))), some (103, false)⟩, []⟩,
    ⟨30, ⟨(some 116), .call (.tmp 104) [(.tmp 112), (.tmp 115)], some (103, false)⟩, []⟩,
    ⟨31, ⟨(some 117), .op (.un .not (.tmp 116)), some (103, false)⟩, []⟩,
    ⟨32, ⟨(some 118), .op (.pick (.tmp 103) (.const (Value.bool true)) (.tmp 117)), none⟩, []⟩]
    [0, 0, 2, 0, 8, 30, 63, 127, 255, 511, 1023, 511, 2559, 6655, 16383, 32767, 65535, 131071, 262143, 262143, 786431, 262143, 3932159, 8126463, 262143, 33292287, 66846719, 262143, 134479871, 402915327, 1073741823, 2147483647, 4294967295]) (.kill [7, 8, 86, 87, 88, 89, 90, 91, 92, 93, 94, 95, 96, 97, 98, 99, 100, 101, 102, 103, 104, 105, 106, 107, 108, 109, 110, 111, 112, 113, 114, 115, 116, 117]))
  (.cond (.tmp 118) (.ghost (.kill [1, 4, 5, 6, 45, 46, 75, 118]) (.seq (.reg [⟨(some 2), .op (.mv (.const (Value.bool false))), none⟩])
  .ret))
  (.ghost (.kill [118]) .skip))))))
  (.post (.reg [⟨(some 119), .op (.bin .add (.tmp 75) (.const (Value.int .i64 1))), none⟩,
    ⟨(some 75), .op (.mv (.tmp 119)), none⟩]) (.kill [119]))))) .nv)
def lo_impl_ValidRewriter_0 : AC := (.loop lb_impl_ValidRewriter_0)
def lb_impl_ValidRewriter_1 : AC := (.post (.seq (.reg [⟨(some 47), .op (.bin .lss (.tmp 46) (.tmp 45)), none⟩])
  (.seq (.cond (.tmp 47) (.ghost (.kill [47]) .skip)
  (.ghost (.kill [1, 4, 5, 45, 46, 47]) (.exit 0)))
  (.seq (.block 1 (.seq (.post (.reg [⟨(some 48), .op (.mv (.tmp 46)), none⟩,
    ⟨(some 6), .op (.mv (.tmp 48)), none⟩]) (.kill [48]))
  (.seq (.seq (.post (.reg [⟨(some 49), .op (.faddr (.tmp 1) 2), none⟩,
    ⟨(some 50), .op (.load 1 false (.tmp 49)), none⟩,
    ⟨(some 51), .op (.mv (.tmp 6)), none⟩,
    ⟨(some 52), .op (.iaddrS (.tmp 50) (.tmp 51) 1), none⟩,
    ⟨(some 53), .op (.load 1 false (.tmp 52)), none⟩,
    ⟨(some 54), .op (.len false (.tmp 53)), none⟩,
    ⟨(some 55), .op (.bin .neq (.tmp 54) (.const (Value.int .i64 2))), none⟩,
    ⟨(some 56), .op (.mv (.tmp 55)), none⟩,
    ⟨(some 57), .op (.faddr (.tmp 1) 3), some (56, false)⟩,
    ⟨(some 58), .op (.load 1 false (.tmp 57)), some (56, false)⟩,
    ⟨(some 59), .op (.mv (.tmp 6)), some (56, false)⟩,
    ⟨(some 60), .op (.iaddrS (.tmp 58) (.tmp 59) 1), some (56, false)⟩,
    ⟨(some 61), .op (.load 1 false (.tmp 60)), some (56, false)⟩,
    ⟨(some 62), .op (.len false (.tmp 61)), some (56, false)⟩,
    ⟨(some 63), .op (.bin .neq (.tmp 62) (.const (Value.int .i64 2))), some (56, false)⟩,
    ⟨(some 64), .op (.pick (.tmp 56) (.const (Value.bool true)) (.tmp 63)), none⟩,
    ⟨(some 65), .op (.mv (.tmp 64)), none⟩,
    ⟨(some 66), .op (.mv (.tmp 5)), some (65, false)⟩,
    ⟨(some 67), .op (.faddr (.tmp 1) 4), some (65, false)⟩,
    ⟨(some 68), .op (.load 1 false (.tmp 67)), some (65, false)⟩,
    ⟨(some 69), .op (.mv (.tmp 6)), some (65, false)⟩,
    ⟨(some 70), .op (.iaddrS (.tmp 68) (.tmp 69) 1), some (65, false)⟩,
    ⟨(some 71), .op (.load 1 false (.tmp 70)), some (65, false)⟩,
    ⟨(some 72), .call (.tmp 66) [(.tmp 71), (.const (Value.int .i64 2))], some (65, false)⟩,
    ⟨(some 73), .op (.un .not (.tmp 72)), some (65, false)⟩,
    ⟨(some 74), .op (.pick (.tmp 65) (.const (Value.bool true)) (.tmp 73)), none⟩]) (.kill [49, 50, 51, 52, 53, 54, 55, 56, 57, 58, 59, 60, 61, 62, 63, 64, 65, 66, 67, 68, 69, 70, 71, 72, 73]))
  (.cond (.tmp 74) (.ghost (.kill [1, 4, 5, 6, 45, 46, 74]) (.seq (.reg [⟨(some 2), .op (.mv (.const (Value.bool false))), none⟩])
  .ret))
  (.ghost (.kill [74]) .skip)))
  (.seq (.reg [⟨(some 75), .op (.mv (.const (Value.int .i64 0))), none⟩])
  (.post (.block 2 (.ghost .nv lo_impl_ValidRewriter_0)) .nv)))))
  (.ghost (.kill [6, 75]) (.post (.reg [⟨(some 120), .op (.bin .add (.tmp 46) (.const (Value.int .i64 1))), none⟩,
    ⟨(some 46), .op (.mv (.tmp 120)), none⟩]) (.kill [120])))))) .nv)
def lo_impl_ValidRewriter_1 : AC := (.loop lb_impl_ValidRewriter_1)
def ac_impl_ValidRewriter : AC := (.seq (.post (.reg [⟨(some 1), .op (.box true (.tmp 0)), none⟩,
    ⟨(some 2), .op (.mv (.const (Value.bool false))), none⟩]) (.kill [0, 2]))
  (.seq (.post (.reg [⟨(some 9), .op (.faddr (.tmp 1) 2), none⟩,
    ⟨(some 10), .op (.load 1 false (.tmp 9)), none⟩,
    ⟨(some 11), .call (.func i_impl_size_L_impl_OutPush) [(.tmp 10)], none⟩,
    ⟨(some 3), .op (.alloc (Value.int .i64 0)), none⟩,
    ⟨none, .op (.store 1 (.tmp 3) (.tmp 11)), none⟩]) (.kill [9, 10, 11]))
  (.seq (.post (.reg [⟨(some 12), .op (.mkfn i_impl_ValidRewriter_1 [(.tmp 3)]), none⟩,
    ⟨(some 4), .op (.alloc (Value.nilFunc)), none⟩,
    ⟨none, .op (.store 1 (.tmp 4) (.tmp 12)), none⟩]) (.kill [12]))
  (.seq (.post (.reg [⟨(some 13), .op (.mkfn i_impl_ValidRewriter_2 [(.tmp 4)]), none⟩,
    ⟨(some 5), .op (.mv (.tmp 13)), none⟩]) (.kill [13]))
  (.seq (.seq (.post (.draw [⟨0, ⟨(some 14), .op (.load 1 false (.tmp 3)), none⟩, []⟩,
    ⟨1, ⟨(some 15), .call (.func i_impl_within) [(.tmp 14), (.const (Value.int .i64 1)), (.const (Value.int .i64 8))], none⟩, []⟩,
    ⟨2, ⟨(some 16), .op (.un .not (.tmp 15)), none⟩, []⟩,
    ⟨3, ⟨(some 17), .op (.mv (.tmp 16)), none⟩, []⟩,
    ⟨4, ⟨(some 18), .op (.faddr (.tmp 1) 0), some (17, false)⟩, []⟩,
    ⟨5, ⟨(some 19), .op (.load 1 false (.tmp 18)), some (17, false)⟩, []⟩,
    ⟨6, ⟨(some 20), .call (.func i_impl_within) [(.tmp 19), (.const (Value.int .i64 1)), (.const (Value.int .i64 8))], some (17, false)⟩, []⟩,
    ⟨7, ⟨(some 21), .op (.un .not (.tmp 20)), some (17, false)⟩, []⟩,
    ⟨8, ⟨(some 22), .op (.pick (.tmp 17) (.const (Value.bool true)) (.tmp 21)), none⟩, []⟩,
    ⟨9, ⟨(some 23), .op (.mv (.tmp 22)), none⟩, []⟩,
    ⟨10, ⟨(some 24), .op (.faddr (.tmp 1) 1), some (23, false)⟩, []⟩,
    ⟨11, ⟨(some 25), .op (.load 1 false (.tmp 24)), some (23, false)⟩, []⟩,
    ⟨12, ⟨(some 26), .op (.load 1 false (.tmp 3)), some (23, false)⟩, []⟩,
    ⟨13, ⟨(some 27), .op (.bin .sub (.tmp 26) (.const (Value.int .i64 1))), some (23, false)⟩, []⟩,
    ⟨14, ⟨(some 28), .call (.func i_impl_within) [(.tmp 25), (.const (Value.int .i64 0)), (.tmp 27)], some (23, false)⟩, []⟩,
    ⟨15, ⟨(some 29), .op (.un .not (.tmp 28)), some (23, false)⟩, []⟩,
    ⟨16, ⟨(some 30), .op (.pick (.tmp 23) (.const (Value.bool true)) (.tmp 29)), none⟩, []⟩,
    ⟨17, ⟨(some 31), .op (.mv (.tmp 30)), none⟩, []⟩,
    ⟨18, ⟨(some 32), .op (.faddr (.tmp 1) 3), some (31, false)⟩, []⟩,
    ⟨19, ⟨(some 33), .op (.load 1 false (.tmp 32)), some (31, false)⟩, []⟩,
    ⟨21, ⟨(some 35), .op (.load 1 false (.tmp 3)), some (31, false)⟩, []⟩,
    ⟨20, ⟨(some 34), .call (.func i_impl_size_L_L_impl_OutMove) [(.tmp 33)], some (31, false)⟩, [21]⟩,
    ⟨22, ⟨(some 36), .op (.bin .neq (.tmp 34) (.tmp 35)), some (31, false)⟩, []⟩,
    ⟨23, ⟨(some 37), .op (.pick (.tmp 31) (.const (Value.bool true)) (.tmp 36)), none⟩, []⟩,
    ⟨24, ⟨(some 38), .op (.mv (.tmp 37)), none⟩, []⟩,
    ⟨25, ⟨(some 39), .op (.faddr (.tmp 1) 4), some (38, false)⟩, []⟩,
    ⟨26, ⟨(some 40), .op (.load 1 false (.tmp 39)), some (38, false)⟩, []⟩,
    ⟨28, ⟨(some 42), .op (.load 1 false (.tmp 3)), some (38, false)⟩, []⟩,
    ⟨27, ⟨(some 41), .call (.func i_impl_size_L_impl_OutMove) [(.tmp 40)], some (38, false)⟩, [28]⟩,
    ⟨29, ⟨(some 43), .op (.bin .neq (.tmp 41) (.tmp 42)), some (38, false)⟩, []⟩,
    ⟨30, ⟨(some 44), .op (.pick (.tmp 38) (.const (Value.bool true)) (.tmp 43)), none⟩, []⟩]
    [0, 1, 3, 7, 15, 31, 63, 127, 255, 511, 1023, 2047, 1023, 5119, 16383, 32767, 65535, 131071, 262143, 524287, 1048575, 262143, 4194303, 8388607, 16777215, 33554431, 67108863, 134217727, 33554431, 536870911, 1073741823]) (.kill [14, 15, 16, 17, 18, 19, 20, 21, 22, 23, 24, 25, 26, 27, 28, 29, 30, 31, 32, 33, 34, 35, 36, 37, 38, 39, 40, 41, 42, 43]))
  (.cond (.tmp 44) (.ghost (.kill [1, 3, 4, 5, 44]) (.seq (.reg [⟨(some 2), .op (.mv (.const (Value.bool false))), none⟩])
  .ret))
  (.ghost (.kill [44]) .skip)))
  (.seq (.seq (.post (.reg [⟨(some 45), .op (.load 1 false (.tmp 3)), none⟩,
    ⟨(some 46), .op (.mv (.const (Value.int .i64 0))), none⟩]) (.kill [3]))
  (.post (.block 0 (.ghost .nv lo_impl_ValidRewriter_1)) .nv))
  (.ghost (.kill [1, 4, 5, 45, 46]) (.seq (.reg [⟨(some 2), .op (.mv (.const (Value.bool true))), none⟩])
  .ret))))))))
theorem cf_impl_ValidRewriter : chkFn Try.prog i_impl_ValidRewriter ac_impl_ValidRewriter [.tmp 2] 121 = true := by decide +kernel
def fa_impl_ValidRewriter : FnA := ⟨ac_impl_ValidRewriter, [.tmp 2], 121, false, true, [], .any⟩

/-- The checked code of laws eqOutPush. -/
def ac_laws_eqOutPush : AC := (.seq (.post (.reg [⟨(some 2), .op (.box true (.tmp 0)), none⟩,
    ⟨(some 3), .op (.box true (.tmp 1)), none⟩,
    ⟨(some 4), .op (.mv (.const (Value.bool false))), none⟩]) (.kill [0, 1, 4]))
  (.seq (.seq (.post (.reg [⟨(some 5), .op (.faddr (.tmp 2) 0), none⟩,
    ⟨(some 6), .op (.load 1 false (.tmp 5)), none⟩,
    ⟨(some 7), .op (.faddr (.tmp 3) 0), none⟩,
    ⟨(some 8), .op (.load 1 false (.tmp 7)), none⟩,
    ⟨(some 9), .op (.bin .neq (.tmp 6) (.tmp 8)), none⟩]) (.kill [5, 6, 7, 8]))
  (.cond (.tmp 9) (.ghost (.kill [2, 3, 9]) (.seq (.reg [⟨(some 4), .op (.mv (.const (Value.bool false))), none⟩])
  .ret))
  (.ghost (.kill [9]) .skip)))
  (.seq (.seq (.post (.reg [⟨(some 10), .op (.faddr (.tmp 2) 1), none⟩,
    ⟨(some 11), .op (.load 1 false (.tmp 10)), none⟩,
    ⟨(some 12), .op (.faddr (.tmp 3) 1), none⟩,
    ⟨(some 13), .op (.load 1 false (.tmp 12)), none⟩,
    ⟨(some 14), .op (.bin .neq (.tmp 11) (.tmp 13)), none⟩]) (.kill [10, 11, 12, 13]))
  (.cond (.tmp 14) (.ghost (.kill [2, 3, 14]) (.seq (.reg [⟨(some 4), .op (.mv (.const (Value.bool false))), none⟩])
  .ret))
  (.ghost (.kill [14]) .skip)))
  (.seq (.seq (.post (.reg [⟨(some 15), .op (.faddr (.tmp 2) 2), none⟩,
    ⟨(some 16), .op (.load 1 false (.tmp 15)), none⟩,
    ⟨(some 17), .op (.faddr (.tmp 3) 2), none⟩,
    ⟨(some 18), .op (.load 1 false (.tmp 17)), none⟩,
    ⟨(some 19), .op (.bin .neq (.tmp 16) (.tmp 18)), none⟩]) (.kill [2, 3, 15, 16, 17, 18]))
  (.cond (.tmp 19) (.ghost (.kill [19]) (.seq (.reg [⟨(some 4), .op (.mv (.const (Value.bool false))), none⟩])
  .ret))
  (.ghost (.kill [19]) .skip)))
  (.seq (.reg [⟨(some 4), .op (.mv (.const (Value.bool true))), none⟩])
  .ret)))))
theorem cf_laws_eqOutPush : chkFn Try.prog i_laws_eqOutPush ac_laws_eqOutPush [.tmp 4] 20 = true := by decide +kernel
def fa_laws_eqOutPush : FnA := ⟨ac_laws_eqOutPush, [.tmp 4], 20, false, true, [], .any⟩

/-- The checked code of laws eqOutPushS. -/
def lb_laws_eqOutPushS_0 : AC := (.seq (.seq (.post (.reg [⟨(some 11), .op (.mv (.tmp 5)), none⟩,
    ⟨(some 12), .op (.mv (.tmp 0)), none⟩,
    ⟨(some 13), .op (.len false (.tmp 12)), none⟩,
    ⟨(some 14), .op (.bin .lss (.tmp 11) (.tmp 13)), none⟩]) (.kill [11, 12, 13]))
  (.cond (.tmp 14) (.ghost (.kill [14]) .skip)
  (.ghost (.kill [0, 1, 5, 14]) (.exit 0))))
  (.seq (.block 1 (.seq (.post (.draw [⟨0, ⟨(some 17), .op (.mv (.tmp 0)), none⟩, []⟩,
    ⟨1, ⟨(some 18), .op (.mv (.tmp 5)), none⟩, []⟩,
    ⟨2, ⟨(some 19), .op (.iaddrS (.tmp 17) (.tmp 18) 3), none⟩, []⟩,
    ⟨3, ⟨(some 20), .op (.load 3 true (.tmp 19)), none⟩, []⟩,
    ⟨4, ⟨(some 21), .op (.mv (.tmp 1)), none⟩, []⟩,
    ⟨5, ⟨(some 22), .op (.mv (.tmp 5)), none⟩, []⟩,
    ⟨6, ⟨(some 23), .op (.iaddrS (.tmp 21) (.tmp 22) 3), none⟩, []⟩,
    ⟨7, ⟨(some 24), .op (.load 3 true (.tmp 23)), none⟩, []⟩,
    ⟨8, ⟨(some 25), .call (.func i_laws_eqOutPush) [(.tmp 20), (.tmp 24)], none⟩, []⟩,
    ⟨9, ⟨(some 26), .op (.un .not (.tmp 25)), none⟩, []⟩]
    [0, 0, 3, 7, 0, 0, 48, 112, 255, 511]) (.kill [17, 18, 19, 20, 21, 22, 23, 24, 25]))
  (.cond (.tmp 26) (.ghost (.kill [0, 1, 5, 26]) (.seq (.reg [⟨(some 4), .op (.mv (.const (Value.bool false))), none⟩])
  .ret))
  (.ghost (.kill [26]) .skip))))
  (.post (.reg [⟨(some 15), .op (.mv (.tmp 5)), none⟩,
    ⟨(some 16), .op (.bin .add (.tmp 15) (.const (Value.int .i64 1))), none⟩,
    ⟨(some 5), .op (.mv (.tmp 16)), none⟩]) (.kill [15, 16]))))
def lo_laws_eqOutPushS_0 : AC := (.loop lb_laws_eqOutPushS_0)
def ac_laws_eqOutPushS : AC := (.seq (.post (.reg [⟨(some 4), .op (.mv (.const (Value.bool false))), none⟩]) (.kill [4]))
  (.seq (.seq (.post (.reg [⟨(some 6), .op (.mv (.tmp 0)), none⟩,
    ⟨(some 7), .op (.len false (.tmp 6)), none⟩,
    ⟨(some 8), .op (.mv (.tmp 1)), none⟩,
    ⟨(some 9), .op (.len false (.tmp 8)), none⟩,
    ⟨(some 10), .op (.bin .neq (.tmp 7) (.tmp 9)), none⟩]) (.kill [6, 7, 8, 9]))
  (.cond (.tmp 10) (.ghost (.kill [0, 1, 10]) (.seq (.reg [⟨(some 4), .op (.mv (.const (Value.bool false))), none⟩])
  .ret))
  (.ghost (.kill [10]) .skip)))
  (.seq (.seq (.reg [⟨(some 5), .op (.mv (.const (Value.int .i64 0))), none⟩])
  (.block 0 lo_laws_eqOutPushS_0))
  (.ghost (.kill [0, 1, 5]) (.seq (.reg [⟨(some 4), .op (.mv (.const (Value.bool true))), none⟩])
  .ret)))))
theorem cf_laws_eqOutPushS : chkFn Try.prog i_laws_eqOutPushS ac_laws_eqOutPushS [.tmp 4] 27 = true := by decide +kernel
def fa_laws_eqOutPushS : FnA := ⟨ac_laws_eqOutPushS, [.tmp 4], 27, false, true, [], .any⟩

/-- The checked code of laws eqOutPushSS. -/
def lb_laws_eqOutPushSS_0 : AC := (.seq (.seq (.post (.reg [⟨(some 11), .op (.mv (.tmp 5)), none⟩,
    ⟨(some 12), .op (.mv (.tmp 0)), none⟩,
    ⟨(some 13), .op (.len false (.tmp 12)), none⟩,
    ⟨(some 14), .op (.bin .lss (.tmp 11) (.tmp 13)), none⟩]) (.kill [11, 12, 13]))
  (.cond (.tmp 14) (.ghost (.kill [14]) .skip)
  (.ghost (.kill [0, 1, 5, 14]) (.exit 0))))
  (.seq (.block 1 (.seq (.post (.draw [⟨0, ⟨(some 17), .op (.mv (.tmp 0)), none⟩, []⟩,
    ⟨1, ⟨(some 18), .op (.mv (.tmp 5)), none⟩, []⟩,
    ⟨2, ⟨(some 19), .op (.iaddrS (.tmp 17) (.tmp 18) 1), none⟩, []⟩,
    ⟨3, ⟨(some 20), .op (.load 1 false (.tmp 19)), none⟩, []⟩,
    ⟨4, ⟨(some 21), .op (.mv (.tmp 1)), none⟩, []⟩,
    ⟨5, ⟨(some 22), .op (.mv (.tmp 5)), none⟩, []⟩,
    ⟨6, ⟨(some 23), .op (.iaddrS (.tmp 21) (.tmp 22) 1), none⟩, []⟩,
    ⟨7, ⟨(some 24), .op (.load 1 false (.tmp 23)), none⟩, []⟩,
    ⟨8, ⟨(some 25), .call (.func i_laws_eqOutPushS) [(.tmp 20), (.tmp 24)], none⟩, []⟩,
    ⟨9, ⟨(some 26), .op (.un .not (.tmp 25)), none⟩, []⟩]
    [0, 0, 3, 7, 0, 0, 48, 112, 255, 511]) (.kill [17, 18, 19, 20, 21, 22, 23, 24, 25]))
  (.cond (.tmp 26) (.ghost (.kill [0, 1, 5, 26]) (.seq (.reg [⟨(some 4), .op (.mv (.const (Value.bool false))), none⟩])
  .ret))
  (.ghost (.kill [26]) .skip))))
  (.post (.reg [⟨(some 15), .op (.mv (.tmp 5)), none⟩,
    ⟨(some 16), .op (.bin .add (.tmp 15) (.const (Value.int .i64 1))), none⟩,
    ⟨(some 5), .op (.mv (.tmp 16)), none⟩]) (.kill [15, 16]))))
def lo_laws_eqOutPushSS_0 : AC := (.loop lb_laws_eqOutPushSS_0)
def ac_laws_eqOutPushSS : AC := (.seq (.post (.reg [⟨(some 4), .op (.mv (.const (Value.bool false))), none⟩]) (.kill [4]))
  (.seq (.seq (.post (.reg [⟨(some 6), .op (.mv (.tmp 0)), none⟩,
    ⟨(some 7), .op (.len false (.tmp 6)), none⟩,
    ⟨(some 8), .op (.mv (.tmp 1)), none⟩,
    ⟨(some 9), .op (.len false (.tmp 8)), none⟩,
    ⟨(some 10), .op (.bin .neq (.tmp 7) (.tmp 9)), none⟩]) (.kill [6, 7, 8, 9]))
  (.cond (.tmp 10) (.ghost (.kill [0, 1, 10]) (.seq (.reg [⟨(some 4), .op (.mv (.const (Value.bool false))), none⟩])
  .ret))
  (.ghost (.kill [10]) .skip)))
  (.seq (.seq (.reg [⟨(some 5), .op (.mv (.const (Value.int .i64 0))), none⟩])
  (.block 0 lo_laws_eqOutPushSS_0))
  (.ghost (.kill [0, 1, 5]) (.seq (.reg [⟨(some 4), .op (.mv (.const (Value.bool true))), none⟩])
  .ret)))))
theorem cf_laws_eqOutPushSS : chkFn Try.prog i_laws_eqOutPushSS ac_laws_eqOutPushSS [.tmp 4] 27 = true := by decide +kernel
def fa_laws_eqOutPushSS : FnA := ⟨ac_laws_eqOutPushSS, [.tmp 4], 27, false, true, [], .any⟩

/-- The checked code of laws eqOutMove. -/
def ac_laws_eqOutMove : AC := (.seq (.post (.reg [⟨(some 2), .op (.box true (.tmp 0)), none⟩,
    ⟨(some 3), .op (.box true (.tmp 1)), none⟩,
    ⟨(some 4), .op (.mv (.const (Value.bool false))), none⟩]) (.kill [0, 1, 4]))
  (.seq (.seq (.post (.reg [⟨(some 5), .op (.faddr (.tmp 2) 0), none⟩,
    ⟨(some 6), .op (.load 1 false (.tmp 5)), none⟩,
    ⟨(some 7), .op (.faddr (.tmp 3) 0), none⟩,
    ⟨(some 8), .op (.load 1 false (.tmp 7)), none⟩,
    ⟨(some 9), .op (.bin .neq (.tmp 6) (.tmp 8)), none⟩]) (.kill [5, 6, 7, 8]))
  (.cond (.tmp 9) (.ghost (.kill [2, 3, 9]) (.seq (.reg [⟨(some 4), .op (.mv (.const (Value.bool false))), none⟩])
  .ret))
  (.ghost (.kill [9]) .skip)))
  (.seq (.seq (.post (.reg [⟨(some 10), .op (.faddr (.tmp 2) 1), none⟩,
    ⟨(some 11), .op (.load 1 false (.tmp 10)), none⟩,
    ⟨(some 12), .op (.faddr (.tmp 3) 1), none⟩,
    ⟨(some 13), .op (.load 1 false (.tmp 12)), none⟩,
    ⟨(some 14), .op (.bin .neq (.tmp 11) (.tmp 13)), none⟩]) (.kill [2, 3, 10, 11, 12, 13]))
  (.cond (.tmp 14) (.ghost (.kill [14]) (.seq (.reg [⟨(some 4), .op (.mv (.const (Value.bool false))), none⟩])
  .ret))
  (.ghost (.kill [14]) .skip)))
  (.seq (.reg [⟨(some 4), .op (.mv (.const (Value.bool true))), none⟩])
  .ret))))
theorem cf_laws_eqOutMove : chkFn Try.prog i_laws_eqOutMove ac_laws_eqOutMove [.tmp 4] 15 = true := by decide +kernel
def fa_laws_eqOutMove : FnA := ⟨ac_laws_eqOutMove, [.tmp 4], 15, false, true, [], .any⟩

/-- The checked code of laws eqOutMoveS. -/
def lb_laws_eqOutMoveS_0 : AC := (.seq (.seq (.post (.reg [⟨(some 11), .op (.mv (.tmp 5)), none⟩,
    ⟨(some 12), .op (.mv (.tmp 0)), none⟩,
    ⟨(some 13), .op (.len false (.tmp 12)), none⟩,
    ⟨(some 14), .op (.bin .lss (.tmp 11) (.tmp 13)), none⟩]) (.kill [11, 12, 13]))
  (.cond (.tmp 14) (.ghost (.kill [14]) .skip)
  (.ghost (.kill [0, 1, 5, 14]) (.exit 0))))
  (.seq (.block 1 (.seq (.post (.draw [⟨0, ⟨(some 17), .op (.mv (.tmp 0)), none⟩, []⟩,
    ⟨1, ⟨(some 18), .op (.mv (.tmp 5)), none⟩, []⟩,
    ⟨2, ⟨(some 19), .op (.iaddrS (.tmp 17) (.tmp 18) 2), none⟩, []⟩,
    ⟨3, ⟨(some 20), .op (.load 2 true (.tmp 19)), none⟩, []⟩,
    ⟨4, ⟨(some 21), .op (.mv (.tmp 1)), none⟩, []⟩,
    ⟨5, ⟨(some 22), .op (.mv (.tmp 5)), none⟩, []⟩,
    ⟨6, ⟨(some 23), .op (.iaddrS (.tmp 21) (.tmp 22) 2), none⟩, []⟩,
    ⟨7, ⟨(some 24), .op (.load 2 true (.tmp 23)), none⟩, []⟩,
    ⟨8, ⟨(some 25), .call (.func i_laws_eqOutMove) [(.tmp 20), (.tmp 24)], none⟩, []⟩,
    ⟨9, ⟨(some 26), .op (.un .not (.tmp 25)), none⟩, []⟩]
    [0, 0, 3, 7, 0, 0, 48, 112, 255, 511]) (.kill [17, 18, 19, 20, 21, 22, 23, 24, 25]))
  (.cond (.tmp 26) (.ghost (.kill [0, 1, 5, 26]) (.seq (.reg [⟨(some 4), .op (.mv (.const (Value.bool false))), none⟩])
  .ret))
  (.ghost (.kill [26]) .skip))))
  (.post (.reg [⟨(some 15), .op (.mv (.tmp 5)), none⟩,
    ⟨(some 16), .op (.bin .add (.tmp 15) (.const (Value.int .i64 1))), none⟩,
    ⟨(some 5), .op (.mv (.tmp 16)), none⟩]) (.kill [15, 16]))))
def lo_laws_eqOutMoveS_0 : AC := (.loop lb_laws_eqOutMoveS_0)
def ac_laws_eqOutMoveS : AC := (.seq (.post (.reg [⟨(some 4), .op (.mv (.const (Value.bool false))), none⟩]) (.kill [4]))
  (.seq (.seq (.post (.reg [⟨(some 6), .op (.mv (.tmp 0)), none⟩,
    ⟨(some 7), .op (.len false (.tmp 6)), none⟩,
    ⟨(some 8), .op (.mv (.tmp 1)), none⟩,
    ⟨(some 9), .op (.len false (.tmp 8)), none⟩,
    ⟨(some 10), .op (.bin .neq (.tmp 7) (.tmp 9)), none⟩]) (.kill [6, 7, 8, 9]))
  (.cond (.tmp 10) (.ghost (.kill [0, 1, 10]) (.seq (.reg [⟨(some 4), .op (.mv (.const (Value.bool false))), none⟩])
  .ret))
  (.ghost (.kill [10]) .skip)))
  (.seq (.seq (.reg [⟨(some 5), .op (.mv (.const (Value.int .i64 0))), none⟩])
  (.block 0 lo_laws_eqOutMoveS_0))
  (.ghost (.kill [0, 1, 5]) (.seq (.reg [⟨(some 4), .op (.mv (.const (Value.bool true))), none⟩])
  .ret)))))
theorem cf_laws_eqOutMoveS : chkFn Try.prog i_laws_eqOutMoveS ac_laws_eqOutMoveS [.tmp 4] 27 = true := by decide +kernel
def fa_laws_eqOutMoveS : FnA := ⟨ac_laws_eqOutMoveS, [.tmp 4], 27, false, true, [], .any⟩

/-- The checked code of laws eqOutMoveSS. -/
def lb_laws_eqOutMoveSS_0 : AC := (.seq (.seq (.post (.reg [⟨(some 11), .op (.mv (.tmp 5)), none⟩,
    ⟨(some 12), .op (.mv (.tmp 0)), none⟩,
    ⟨(some 13), .op (.len false (.tmp 12)), none⟩,
    ⟨(some 14), .op (.bin .lss (.tmp 11) (.tmp 13)), none⟩]) (.kill [11, 12, 13]))
  (.cond (.tmp 14) (.ghost (.kill [14]) .skip)
  (.ghost (.kill [0, 1, 5, 14]) (.exit 0))))
  (.seq (.block 1 (.seq (.post (.draw [⟨0, ⟨(some 17), .op (.mv (.tmp 0)), none⟩, []⟩,
    ⟨1, ⟨(some 18), .op (.mv (.tmp 5)), none⟩, []⟩,
    ⟨2, ⟨(some 19), .op (.iaddrS (.tmp 17) (.tmp 18) 1), none⟩, []⟩,
    ⟨3, ⟨(some 20), .op (.load 1 false (.tmp 19)), none⟩, []⟩,
    ⟨4, ⟨(some 21), .op (.mv (.tmp 1)), none⟩, []⟩,
    ⟨5, ⟨(some 22), .op (.mv (.tmp 5)), none⟩, []⟩,
    ⟨6, ⟨(some 23), .op (.iaddrS (.tmp 21) (.tmp 22) 1), none⟩, []⟩,
    ⟨7, ⟨(some 24), .op (.load 1 false (.tmp 23)), none⟩, []⟩,
    ⟨8, ⟨(some 25), .call (.func i_laws_eqOutMoveS) [(.tmp 20), (.tmp 24)], none⟩, []⟩,
    ⟨9, ⟨(some 26), .op (.un .not (.tmp 25)), none⟩, []⟩]
    [0, 0, 3, 7, 0, 0, 48, 112, 255, 511]) (.kill [17, 18, 19, 20, 21, 22, 23, 24, 25]))
  (.cond (.tmp 26) (.ghost (.kill [0, 1, 5, 26]) (.seq (.reg [⟨(some 4), .op (.mv (.const (Value.bool false))), none⟩])
  .ret))
  (.ghost (.kill [26]) .skip))))
  (.post (.reg [⟨(some 15), .op (.mv (.tmp 5)), none⟩,
    ⟨(some 16), .op (.bin .add (.tmp 15) (.const (Value.int .i64 1))), none⟩,
    ⟨(some 5), .op (.mv (.tmp 16)), none⟩]) (.kill [15, 16]))))
def lo_laws_eqOutMoveSS_0 : AC := (.loop lb_laws_eqOutMoveSS_0)
def ac_laws_eqOutMoveSS : AC := (.seq (.post (.reg [⟨(some 4), .op (.mv (.const (Value.bool false))), none⟩]) (.kill [4]))
  (.seq (.seq (.post (.reg [⟨(some 6), .op (.mv (.tmp 0)), none⟩,
    ⟨(some 7), .op (.len false (.tmp 6)), none⟩,
    ⟨(some 8), .op (.mv (.tmp 1)), none⟩,
    ⟨(some 9), .op (.len false (.tmp 8)), none⟩,
    ⟨(some 10), .op (.bin .neq (.tmp 7) (.tmp 9)), none⟩]) (.kill [6, 7, 8, 9]))
  (.cond (.tmp 10) (.ghost (.kill [0, 1, 10]) (.seq (.reg [⟨(some 4), .op (.mv (.const (Value.bool false))), none⟩])
  .ret))
  (.ghost (.kill [10]) .skip)))
  (.seq (.seq (.reg [⟨(some 5), .op (.mv (.const (Value.int .i64 0))), none⟩])
  (.block 0 lo_laws_eqOutMoveSS_0))
  (.ghost (.kill [0, 1, 5]) (.seq (.reg [⟨(some 4), .op (.mv (.const (Value.bool true))), none⟩])
  .ret)))))
theorem cf_laws_eqOutMoveSS : chkFn Try.prog i_laws_eqOutMoveSS ac_laws_eqOutMoveSS [.tmp 4] 27 = true := by decide +kernel
def fa_laws_eqOutMoveSS : FnA := ⟨ac_laws_eqOutMoveSS, [.tmp 4], 27, false, true, [], .any⟩

/-- The checked code of laws eqOutMoveSSS. -/
def lb_laws_eqOutMoveSSS_0 : AC := (.seq (.seq (.post (.reg [⟨(some 11), .op (.mv (.tmp 5)), none⟩,
    ⟨(some 12), .op (.mv (.tmp 0)), none⟩,
    ⟨(some 13), .op (.len false (.tmp 12)), none⟩,
    ⟨(some 14), .op (.bin .lss (.tmp 11) (.tmp 13)), none⟩]) (.kill [11, 12, 13]))
  (.cond (.tmp 14) (.ghost (.kill [14]) .skip)
  (.ghost (.kill [0, 1, 5, 14]) (.exit 0))))
  (.seq (.block 1 (.seq (.post (.draw [⟨0, ⟨(some 17), .op (.mv (.tmp 0)), none⟩, []⟩,
    ⟨1, ⟨(some 18), .op (.mv (.tmp 5)), none⟩, []⟩,
    ⟨2, ⟨(some 19), .op (.iaddrS (.tmp 17) (.tmp 18) 1), none⟩, []⟩,
    ⟨3, ⟨(some 20), .op (.load 1 false (.tmp 19)), none⟩, []⟩,
    ⟨4, ⟨(some 21), .op (.mv (.tmp 1)), none⟩, []⟩,
    ⟨5, ⟨(some 22), .op (.mv (.tmp 5)), none⟩, []⟩,
    ⟨6, ⟨(some 23), .op (.iaddrS (.tmp 21) (.tmp 22) 1), none⟩, []⟩,
    ⟨7, ⟨(some 24), .op (.load 1 false (.tmp 23)), none⟩, []⟩,
    ⟨8, ⟨(some 25), .call (.func i_laws_eqOutMoveSS) [(.tmp 20), (.tmp 24)], none⟩, []⟩,
    ⟨9, ⟨(some 26), .op (.un .not (.tmp 25)), none⟩, []⟩]
    [0, 0, 3, 7, 0, 0, 48, 112, 255, 511]) (.kill [17, 18, 19, 20, 21, 22, 23, 24, 25]))
  (.cond (.tmp 26) (.ghost (.kill [0, 1, 5, 26]) (.seq (.reg [⟨(some 4), .op (.mv (.const (Value.bool false))), none⟩])
  .ret))
  (.ghost (.kill [26]) .skip))))
  (.post (.reg [⟨(some 15), .op (.mv (.tmp 5)), none⟩,
    ⟨(some 16), .op (.bin .add (.tmp 15) (.const (Value.int .i64 1))), none⟩,
    ⟨(some 5), .op (.mv (.tmp 16)), none⟩]) (.kill [15, 16]))))
def lo_laws_eqOutMoveSSS_0 : AC := (.loop lb_laws_eqOutMoveSSS_0)
def ac_laws_eqOutMoveSSS : AC := (.seq (.post (.reg [⟨(some 4), .op (.mv (.const (Value.bool false))), none⟩]) (.kill [4]))
  (.seq (.seq (.post (.reg [⟨(some 6), .op (.mv (.tmp 0)), none⟩,
    ⟨(some 7), .op (.len false (.tmp 6)), none⟩,
    ⟨(some 8), .op (.mv (.tmp 1)), none⟩,
    ⟨(some 9), .op (.len false (.tmp 8)), none⟩,
    ⟨(some 10), .op (.bin .neq (.tmp 7) (.tmp 9)), none⟩]) (.kill [6, 7, 8, 9]))
  (.cond (.tmp 10) (.ghost (.kill [0, 1, 10]) (.seq (.reg [⟨(some 4), .op (.mv (.const (Value.bool false))), none⟩])
  .ret))
  (.ghost (.kill [10]) .skip)))
  (.seq (.seq (.reg [⟨(some 5), .op (.mv (.const (Value.int .i64 0))), none⟩])
  (.block 0 lo_laws_eqOutMoveSSS_0))
  (.ghost (.kill [0, 1, 5]) (.seq (.reg [⟨(some 4), .op (.mv (.const (Value.bool true))), none⟩])
  .ret)))))
theorem cf_laws_eqOutMoveSSS : chkFn Try.prog i_laws_eqOutMoveSSS ac_laws_eqOutMoveSSS [.tmp 4] 27 = true := by decide +kernel
def fa_laws_eqOutMoveSSS : FnA := ⟨ac_laws_eqOutMoveSSS, [.tmp 4], 27, false, true, [], .any⟩

/-- The checked code of laws eqRewriter. -/
def ac_laws_eqRewriter : AC := (.seq (.post (.reg [⟨(some 2), .op (.box true (.tmp 0)), none⟩,
    ⟨(some 3), .op (.box true (.tmp 1)), none⟩,
    ⟨(some 4), .op (.mv (.const (Value.bool false))), none⟩]) (.kill [0, 1, 4]))
  (.seq (.seq (.post (.reg [⟨(some 5), .op (.faddr (.tmp 2) 0), none⟩,
    ⟨(some 6), .op (.load 1 false (.tmp 5)), none⟩,
    ⟨(some 7), .op (.faddr (.tmp 3) 0), none⟩,
    ⟨(some 8), .op (.load 1 false (.tmp 7)), none⟩,
    ⟨(some 9), .op (.bin .neq (.tmp 6) (.tmp 8)), none⟩]) (.kill [5, 6, 7, 8]))
  (.cond (.tmp 9) (.ghost (.kill [2, 3, 9]) (.seq (.reg [⟨(some 4), .op (.mv (.const (Value.bool false))), none⟩])
  .ret))
  (.ghost (.kill [9]) .skip)))
  (.seq (.seq (.post (.reg [⟨(some 10), .op (.faddr (.tmp 2) 1), none⟩,
    ⟨(some 11), .op (.load 1 false (.tmp 10)), none⟩,
    ⟨(some 12), .op (.faddr (.tmp 3) 1), none⟩,
    ⟨(some 13), .op (.load 1 false (.tmp 12)), none⟩,
    ⟨(some 14), .op (.bin .neq (.tmp 11) (.tmp 13)), none⟩]) (.kill [10, 11, 12, 13]))
  (.cond (.tmp 14) (.ghost (.kill [2, 3, 14]) (.seq (.reg [⟨(some 4), .op (.mv (.const (Value.bool false))), none⟩])
  .ret))
  (.ghost (.kill [14]) .skip)))
  (.seq (.seq (.post (.reg [⟨(some 15), .op (.faddr (.tmp 2) 2), none⟩,
    ⟨(some 16), .op (.load 1 false (.tmp 15)), none⟩,
    ⟨(some 17), .op (.faddr (.tmp 3) 2), none⟩,
    ⟨(some 18), .op (.load 1 false (.tmp 17)), none⟩,
    ⟨(some 19), .call (.func i_laws_eqOutPushSS) [(.tmp 16), (.tmp 18)], none⟩,
    ⟨(some 20), .op (.un .not (.tmp 19)), none⟩]) (.kill [15, 16, 17, 18, 19]))
  (.cond (.tmp 20) (.ghost (.kill [2, 3, 20]) (.seq (.reg [⟨(some 4), .op (.mv (.const (Value.bool false))), none⟩])
  .ret))
  (.ghost (.kill [20]) .skip)))
  (.seq (.seq (.post (.reg [⟨(some 21), .op (.faddr (.tmp 2) 3), none⟩,
    ⟨(some 22), .op (.load 1 false (.tmp 21)), none⟩,
    ⟨(some 23), .op (.faddr (.tmp 3) 3), none⟩,
    ⟨(some 24), .op (.load 1 false (.tmp 23)), none⟩,
    ⟨(some 25), .call (.func i_laws_eqOutMoveSSS) [(.tmp 22), (.tmp 24)], none⟩,
    ⟨(some 26), .op (.un .not (.tmp 25)), none⟩]) (.kill [21, 22, 23, 24, 25]))
  (.cond (.tmp 26) (.ghost (.kill [2, 3, 26]) (.seq (.reg [⟨(some 4), .op (.mv (.const (Value.bool false))), none⟩])
  .ret))
  (.ghost (.kill [26]) .skip)))
  (.seq (.seq (.post (.reg [⟨(some 27), .op (.faddr (.tmp 2) 4), none⟩,
    ⟨(some 28), .op (.load 1 false (.tmp 27)), none⟩,
    ⟨(some 29), .op (.faddr (.tmp 3) 4), none⟩,
    ⟨(some 30), .op (.load 1 false (.tmp 29)), none⟩,
    ⟨(some 31), .call (.func i_laws_eqOutMoveSS) [(.tmp 28), (.tmp 30)], none⟩,
    ⟨(some 32), .op (.un .not (.tmp 31)), none⟩]) (.kill [2, 3, 27, 28, 29, 30, 31]))
  (.cond (.tmp 32) (.ghost (.kill [32]) (.seq (.reg [⟨(some 4), .op (.mv (.const (Value.bool false))), none⟩])
  .ret))
  (.ghost (.kill [32]) .skip)))
  (.seq (.reg [⟨(some 4), .op (.mv (.const (Value.bool true))), none⟩])
  .ret)))))))
theorem cf_laws_eqRewriter : chkFn Try.prog i_laws_eqRewriter ac_laws_eqRewriter [.tmp 4] 33 = true := by decide +kernel
def fa_laws_eqRewriter : FnA := ⟨ac_laws_eqRewriter, [.tmp 4], 33, false, true, [(.agg [.any, .any, (.lst 1 (.lst 3 .any)), (.lst 1 (.lst 1 (.lst 2 .any))), (.lst 1 (.lst 2 .any))]), (.agg [.any, .any, (.lst 1 (.lst 3 .any)), (.lst 1 (.lst 1 (.lst 2 .any))), (.lst 1 (.lst 2 .any))])], .any⟩

/-- The checked code of laws FnExactValidRewriter. -/
def ac_laws_FnExactValidRewriter : AC := (.seq (.post (.reg [⟨(some 1), .op (.box true (.tmp 0)), none⟩,
    ⟨(some 2), .op (.mv (.const (Value.bool false))), none⟩]) (.kill [0, 2]))
  (.seq (.reg [⟨(some 3), .op (.mv (.const (Value.int .i64 1048576))), none⟩])
  (.seq (.post (.reg [⟨(some 7), .op (.load 5 true (.tmp 1)), none⟩,
    ⟨(some 8), .op (.mv (.tmp 3)), none⟩,
    ⟨(some 9), .call (.func i_laws_szRewriter) [(.tmp 7), (.tmp 8)], none⟩,
    ⟨(some 3), .op (.mv (.tmp 9)), none⟩]) (.kill [7, 8, 9]))
  (.seq (.seq (.post (.reg [⟨(some 10), .op (.mv (.tmp 3)), none⟩,
    ⟨(some 11), .op (.bin .lss (.tmp 10) (.const (Value.int .i64 0))), none⟩]) (.kill [3, 10]))
  (.cond (.tmp 11) (.ghost (.kill [1, 11]) (.seq (.reg [⟨(some 2), .op (.mv (.const (Value.bool true))), none⟩])
  .ret))
  (.ghost (.kill [11]) .skip)))
  (.seq (.post (.reg [⟨(some 12), .op (.load 5 true (.tmp 1)), none⟩,
    ⟨(some 13), .call (.func i_laws_toRewriter) [(.tmp 12)], none⟩,
    ⟨(some 14), .call (.func i_spec_ValidRewriter) [(.tmp 13)], none⟩,
    ⟨(some 4), .op (.mv (.tmp 14)), none⟩]) (.kill [12, 13, 14]))
  (.seq (.post (.reg [⟨(some 15), .op (.load 5 true (.tmp 1)), none⟩,
    ⟨(some 16), .call (.func i_laws_toRewriter) [(.tmp 15)], none⟩,
    ⟨(some 5), .op (.alloc (Value.agg #[Value.int .i64 0, Value.int .i64 0, Value.slice none 0 0, Value.slice none 0 0, Value.slice none 0 0])), none⟩,
    ⟨none, .op (.store 5 (.tmp 5) (.tmp 16)), none⟩]) (.kill [15, 16]))
  (.seq (.post (.reg [⟨(some 17), .op (.load 5 true (.tmp 5)), none⟩,
    ⟨(some 18), .call (.func i_impl_ValidRewriter) [(.tmp 17)], none⟩,
    ⟨(some 6), .op (.mv (.tmp 18)), none⟩]) (.kill [17, 18]))
  (.seq (.seq (.post (.reg [⟨(some 19), .op (.mv (.tmp 6)), none⟩,
    ⟨(some 20), .op (.mv (.tmp 4)), none⟩,
    ⟨(some 21), .op (.eqb true (.tmp 19) (.tmp 20)), none⟩]) (.kill [4, 6, 19, 20]))
  (.cond (.tmp 21) (.ghost (.kill [1, 5, 21]) (.seq (.reg [⟨(some 2), .op (.mv (.const (Value.bool false))), none⟩])
  .ret))
  (.ghost (.kill [21]) .skip)))
  (.seq (.seq (.post (.draw [⟨0, ⟨(some 22), .op (.load 5 true (.tmp 5)), none⟩, []⟩,
    ⟨1, ⟨(some 23), .op (.load 5 true (.tmp 1)), none⟩, []⟩,
    ⟨2, ⟨(some 24), .call (.func i_laws_toRewriter) [(.tmp 23)], none⟩, [0]⟩,
    ⟨3, ⟨(some 25), .call (.func i_laws_eqRewriter) [(.tmp 22), (.tmp 24)], none⟩, []⟩,
    ⟨4, ⟨(some 26), .op (.un .not (.tmp 25)), none⟩, []⟩]
    [0, 0, 2, 7, 15]) (.kill [1, 5, 22, 23, 24, 25]))
  (.cond (.tmp 26) (.ghost (.kill [26]) (.seq (.reg [⟨(some 2), .op (.mv (.const (Value.bool false))), none⟩])
  .ret))
  (.ghost (.kill [26]) .skip)))
  (.seq (.reg [⟨(some 2), .op (.mv (.const (Value.bool true))), none⟩])
  .ret))))))))))
theorem cf_laws_FnExactValidRewriter : chkFn Try.prog i_laws_FnExactValidRewriter ac_laws_FnExactValidRewriter [.tmp 2] 27 = true := by decide +kernel
def fa_laws_FnExactValidRewriter : FnA := ⟨ac_laws_FnExactValidRewriter, [.tmp 2], 27, false, true, [], .any⟩

/-- The checked code of laws szTreeEdit. -/
def ac_laws_szTreeEdit : AC := (.seq (.post (.reg [⟨(some 2), .op (.box true (.tmp 0)), none⟩,
    ⟨(some 4), .op (.mv (.const (Value.int .i64 0))), none⟩]) (.kill [0, 4]))
  (.seq (.post (.reg [⟨(some 5), .op (.mv (.tmp 1)), none⟩,
    ⟨(some 6), .op (.faddr (.tmp 2) 3), none⟩,
    ⟨(some 7), .op (.load 1 false (.tmp 6)), none⟩,
    ⟨(some 8), .op (.len true (.tmp 7)), none⟩,
    ⟨(some 9), .op (.bin .sub (.tmp 5) (.tmp 8)), none⟩,
    ⟨(some 1), .op (.mv (.tmp 9)), none⟩]) (.kill [2, 5, 6, 7, 8, 9]))
  (.seq (.seq (.post (.reg [⟨(some 10), .op (.mv (.tmp 1)), none⟩,
    ⟨(some 11), .op (.bin .lss (.tmp 10) (.const (Value.int .i64 0))), none⟩]) (.kill [10]))
  (.cond (.tmp 11) (.ghost (.kill [1, 11]) (.seq (.reg [⟨(some 4), .op (.mv (.const (Value.int .i64 (-1)))), none⟩])
  .ret))
  (.ghost (.kill [11]) .skip)))
  (.seq (.post (.reg [⟨(some 12), .op (.mv (.tmp 1)), none⟩,
    ⟨(some 4), .op (.mv (.tmp 12)), none⟩]) (.kill [1, 12]))
  .ret))))
theorem cf_laws_szTreeEdit : chkFn Try.prog i_laws_szTreeEdit ac_laws_szTreeEdit [.tmp 4] 13 = true := by decide +kernel
def fa_laws_szTreeEdit : FnA := ⟨ac_laws_szTreeEdit, [.tmp 4], 13, false, true, [], .any⟩

/-- The checked code of laws szTreeEditS. -/
def lb_laws_szTreeEditS_0 : AC := (.seq (.seq (.post (.reg [⟨(some 12), .op (.mv (.tmp 5)), none⟩,
    ⟨(some 13), .op (.mv (.tmp 0)), none⟩,
    ⟨(some 14), .op (.len false (.tmp 13)), none⟩,
    ⟨(some 15), .op (.bin .lss (.tmp 12) (.tmp 14)), none⟩]) (.kill [12, 13, 14]))
  (.cond (.tmp 15) (.ghost (.kill [15]) .skip)
  (.ghost (.kill [0, 5, 15]) (.exit 0))))
  (.seq (.block 1 (.seq (.post (.reg [⟨(some 18), .op (.mv (.tmp 0)), none⟩,
    ⟨(some 19), .op (.mv (.tmp 5)), none⟩,
    ⟨(some 20), .op (.iaddrS (.tmp 18) (.tmp 19) 4), none⟩,
    ⟨(some 21), .op (.load 4 true (.tmp 20)), none⟩,
    ⟨(some 22), .op (.mv (.tmp 1)), none⟩,
    ⟨(some 23), .call (.func i_laws_szTreeEdit) [(.tmp 21), (.tmp 22)], none⟩,
    ⟨(some 1), .op (.mv (.tmp 23)), none⟩]) (.kill [18, 19, 20, 21, 22, 23]))
  (.seq (.post (.reg [⟨(some 24), .op (.mv (.tmp 1)), none⟩,
    ⟨(some 25), .op (.bin .lss (.tmp 24) (.const (Value.int .i64 0))), none⟩]) (.kill [24]))
  (.cond (.tmp 25) (.ghost (.kill [0, 1, 5, 25]) (.seq (.reg [⟨(some 4), .op (.mv (.const (Value.int .i64 (-1)))), none⟩])
  .ret))
  (.ghost (.kill [25]) .skip)))))
  (.post (.reg [⟨(some 16), .op (.mv (.tmp 5)), none⟩,
    ⟨(some 17), .op (.bin .add (.tmp 16) (.const (Value.int .i64 1))), none⟩,
    ⟨(some 5), .op (.mv (.tmp 17)), none⟩]) (.kill [16, 17]))))
def lo_laws_szTreeEditS_0 : AC := (.loop lb_laws_szTreeEditS_0)
def ac_laws_szTreeEditS : AC := (.seq (.post (.reg [⟨(some 4), .op (.mv (.const (Value.int .i64 0))), none⟩]) (.kill [4]))
  (.seq (.post (.reg [⟨(some 6), .op (.mv (.tmp 1)), none⟩,
    ⟨(some 7), .op (.mv (.tmp 0)), none⟩,
    ⟨(some 8), .op (.len false (.tmp 7)), none⟩,
    ⟨(some 9), .op (.bin .sub (.tmp 6) (.tmp 8)), none⟩,
    ⟨(some 1), .op (.mv (.tmp 9)), none⟩]) (.kill [6, 7, 8, 9]))
  (.seq (.seq (.post (.reg [⟨(some 10), .op (.mv (.tmp 1)), none⟩,
    ⟨(some 11), .op (.bin .lss (.tmp 10) (.const (Value.int .i64 0))), none⟩]) (.kill [10]))
  (.cond (.tmp 11) (.ghost (.kill [0, 1, 11]) (.seq (.reg [⟨(some 4), .op (.mv (.const (Value.int .i64 (-1)))), none⟩])
  .ret))
  (.ghost (.kill [11]) .skip)))
  (.seq (.seq (.reg [⟨(some 5), .op (.mv (.const (Value.int .i64 0))), none⟩])
  (.block 0 lo_laws_szTreeEditS_0))
  (.ghost (.kill [0, 5]) (.seq (.post (.reg [⟨(some 26), .op (.mv (.tmp 1)), none⟩,
    ⟨(some 4), .op (.mv (.tmp 26)), none⟩]) (.kill [1, 26]))
  .ret))))))
theorem cf_laws_szTreeEditS : chkFn Try.prog i_laws_szTreeEditS ac_laws_szTreeEditS [.tmp 4] 27 = true := by decide +kernel
def fa_laws_szTreeEditS : FnA := ⟨ac_laws_szTreeEditS, [.tmp 4], 27, false, true, [], .any⟩

/-- The checked code of spec l01Call. -/
def ac_spec_l01Call : AC := (.seq (.post (.reg [⟨(some 2), .op (.mv (.const (Value.bool false))), none⟩]) (.kill [2]))
  (.seq (.post (.reg [⟨(some 3), .op (.mv (.tmp 0)), none⟩,
    ⟨(some 4), .op (.bin .eql (.tmp 3) (.const (Value.int .u8 40))), none⟩,
    ⟨(some 5), .op (.mv (.tmp 4)), none⟩,
    ⟨(some 6), .op (.mv (.tmp 0)), some (5, false)⟩,
    ⟨(some 7), .op (.bin .eql (.tmp 6) (.const (Value.int .u8 91))), some (5, false)⟩,
    ⟨(some 8), .op (.pick (.tmp 5) (.const (Value.bool true)) (.tmp 7)), none⟩,
    ⟨(some 2), .op (.mv (.tmp 8)), none⟩]) (.kill [0, 3, 4, 5, 6, 7, 8]))
  .ret))
theorem cf_spec_l01Call : chkFn Try.prog i_spec_l01Call ac_spec_l01Call [.tmp 2] 9 = true := by decide +kernel
def fa_spec_l01Call : FnA := ⟨ac_spec_l01Call, [.tmp 2], 9, false, true, [], .any⟩

/-- The checked code of spec l01Return. -/
def ac_spec_l01Return : AC := (.seq (.post (.reg [⟨(some 2), .op (.mv (.const (Value.bool false))), none⟩]) (.kill [2]))
  (.seq (.post (.reg [⟨(some 3), .op (.mv (.tmp 0)), none⟩,
    ⟨(some 4), .op (.bin .eql (.tmp 3) (.const (Value.int .u8 41))), none⟩,
    ⟨(some 5), .op (.mv (.tmp 4)), none⟩,
    ⟨(some 6), .op (.mv (.tmp 0)), some (5, false)⟩,
    ⟨(some 7), .op (.bin .eql (.tmp 6) (.const (Value.int .u8 93))), some (5, false)⟩,
    ⟨(some 8), .op (.pick (.tmp 5) (.const (Value.bool true)) (.tmp 7)), none⟩,
    ⟨(some 2), .op (.mv (.tmp 8)), none⟩]) (.kill [0, 3, 4, 5, 6, 7, 8]))
  .ret))
theorem cf_spec_l01Return : chkFn Try.prog i_spec_l01Return ac_spec_l01Return [.tmp 2] 9 = true := by decide +kernel
def fa_spec_l01Return : FnA := ⟨ac_spec_l01Return, [.tmp 2], 9, false, true, [], .any⟩

/-- The checked code of spec l01Partners. -/
def lb_spec_l01Partners_0 : AC := (.post (.seq (.seq (.post (.reg [⟨(some 9), .op (.mv (.tmp 5)), none⟩,
    ⟨(some 10), .op (.mv (.tmp 0)), none⟩,
    ⟨(some 11), .op (.len true (.tmp 10)), none⟩,
    ⟨(some 12), .op (.bin .lss (.tmp 9) (.tmp 11)), none⟩]) (.kill [9, 10, 11]))
  (.cond (.tmp 12) (.ghost (.kill [12]) .skip)
  (.ghost (.kill [0, 4, 5, 12]) (.exit 0))))
  (.seq (.block 1 (.block 2 (.seq (.post (.reg [⟨(some 19), .op (.mv (.tmp 0)), none⟩,
    ⟨(some 20), .op (.mv (.tmp 5)), none⟩,
    ⟨(some 21), .op (.idxStr (.tmp 19) (.tmp 20)), none⟩,
    ⟨(some 22), .call (.func i_spec_l01Call) [(.tmp 21)], none⟩,
    ⟨(some 18), .op (.mv (.tmp 22)), none⟩]) (.kill [19, 20, 21, 22]))
  (.cond (.tmp 18) (.ghost (.kill [18]) (.seq (.post (.post (.reg [⟨(some 23), .op (.mv (.tmp 3)), none⟩,
    ⟨(some 24), .op (.lits true 1 1 (Value.int .i64 0) [(0, (.const (Value.int .i64 (-2))))]), none⟩,
    ⟨(some 25), .op (.append (.tmp 23) (.tmp 24) 1 8), none⟩,
    ⟨(some 3), .op (.mv (.tmp 25)), none⟩]) (.kill [23, 24, 25])) .nv)
  (.post (.post (.reg [⟨(some 26), .op (.mv (.tmp 4)), none⟩,
    ⟨(some 27), .op (.mv (.tmp 5)), none⟩,
    ⟨(some 28), .op (.lits true 1 1 (Value.int .i64 0) [(0, (.tmp 27))]), none⟩,
    ⟨(some 29), .op (.append (.tmp 26) (.tmp 28) 1 8), none⟩,
    ⟨(some 4), .op (.mv (.tmp 29)), none⟩]) (.kill [26, 27, 28, 29])) .nv)))
  (.ghost (.kill [18]) (.seq (.post (.reg [⟨(some 31), .op (.mv (.tmp 0)), none⟩,
    ⟨(some 32), .op (.mv (.tmp 5)), none⟩,
    ⟨(some 33), .op (.idxStr (.tmp 31) (.tmp 32)), none⟩,
    ⟨(some 34), .call (.func i_spec_l01Return) [(.tmp 33)], none⟩,
    ⟨(some 35), .op (.mv (.tmp 34)), none⟩,
    ⟨(some 36), .op (.mv (.tmp 4)), some (35, true)⟩,
    ⟨(some 37), .op (.len false (.tmp 36)), some (35, true)⟩,
    ⟨(some 38), .op (.bin .gtr (.tmp 37) (.const (Value.int .i64 0))), some (35, true)⟩,
    ⟨(some 39), .op (.pick (.tmp 35) (.tmp 38) (.const (Value.bool false))), none⟩,
    ⟨(some 30), .op (.mv (.tmp 39)), none⟩]) (.kill [31, 32, 33, 34, 35, 36, 37, 38, 39]))
  (.cond (.tmp 30) (.ghost (.kill [30]) (.seq (.post (.reg [⟨(some 40), .op (.mv (.tmp 4)), none⟩,
    ⟨(some 41), .op (.mv (.tmp 4)), none⟩,
    ⟨(some 42), .op (.len false (.tmp 41)), none⟩,
    ⟨(some 43), .op (.bin .sub (.tmp 42) (.const (Value.int .i64 1))), none⟩,
    ⟨(some 44), .op (.iaddrS (.tmp 40) (.tmp 43) 1), none⟩,
    ⟨(some 45), .op (.load 1 false (.tmp 44)), none⟩,
    ⟨(some 6), .op (.mv (.tmp 45)), none⟩]) (.kill [40, 41, 42, 43, 44, 45]))
  (.seq (.post (.post (.reg [⟨(some 46), .op (.mv (.tmp 4)), none⟩,
    ⟨(some 47), .op (.mv (.tmp 4)), none⟩,
    ⟨(some 48), .op (.len false (.tmp 47)), none⟩,
    ⟨(some 49), .op (.bin .sub (.tmp 48) (.const (Value.int .i64 1))), none⟩,
    ⟨(some 50), .op (.slcS (.tmp 46) none (some (.tmp 49)) none 1), none⟩,
    ⟨(some 4), .op (.mv (.tmp 50)), none⟩]) (.kill [46, 47, 48, 49, 50])) .nv)
  (.seq (.post (.reg [⟨(some 51), .op (.mv (.tmp 3)), none⟩,
    ⟨(some 52), .op (.mv (.tmp 6)), none⟩,
    ⟨(some 53), .op (.mv (.tmp 5)), none⟩,
    ⟨(some 54), .op (.iaddrS (.tmp 51) (.tmp 52) 1), none⟩,
    ⟨none, .op (.store 1 (.tmp 54) (.tmp 53)), none⟩]) (.kill [51, 52, 53, 54]))
  (.post (.post (.reg [⟨(some 55), .op (.mv (.tmp 3)), none⟩,
    ⟨(some 56), .op (.mv (.tmp 6)), none⟩,
    ⟨(some 57), .op (.lits true 1 1 (Value.int .i64 0) [(0, (.tmp 56))]), none⟩,
    ⟨(some 58), .op (.append (.tmp 55) (.tmp 57) 1 8), none⟩,
    ⟨(some 3), .op (.mv (.tmp 58)), none⟩]) (.kill [6, 55, 56, 57, 58])) .nv)))))
  (.ghost (.kill [30]) (.seq (.post (.reg [⟨(some 60), .op (.mv (.tmp 0)), none⟩,
    ⟨(some 61), .op (.mv (.tmp 5)), none⟩,
    ⟨(some 62), .op (.idxStr (.tmp 60) (.tmp 61)), none⟩,
    ⟨(some 63), .call (.func i_spec_l01Return) [(.tmp 62)], none⟩,
    ⟨(some 59), .op (.mv (.tmp 63)), none⟩]) (.kill [60, 61, 62, 63]))
  (.cond (.tmp 59) (.ghost (.kill [59]) (.post (.post (.reg [⟨(some 64), .op (.mv (.tmp 3)), none⟩,
    ⟨(some 65), .op (.lits true 1 1 (Value.int .i64 0) [(0, (.const (Value.int .i64 (-2))))]), none⟩,
    ⟨(some 66), .op (.append (.tmp 64) (.tmp 65) 1 8), none⟩,
    ⟨(some 3), .op (.mv (.tmp 66)), none⟩]) (.kill [64, 65, 66])) .nv))
  (.ghost (.kill [59]) (.post (.post (.reg [⟨(some 15), .op (.mv (.tmp 3)), none⟩,
    ⟨(some 16), .op (.lits true 1 1 (Value.int .i64 0) [(0, (.const (Value.int .i64 (-1))))]), none⟩,
    ⟨(some 17), .op (.append (.tmp 15) (.tmp 16) 1 8), none⟩,
    ⟨(some 3), .op (.mv (.tmp 17)), none⟩]) (.kill [15, 16, 17])) .nv))))))))))))
  (.post (.reg [⟨(some 13), .op (.mv (.tmp 5)), none⟩,
    ⟨(some 14), .op (.bin .add (.tmp 13) (.const (Value.int .i64 1))), none⟩,
    ⟨(some 5), .op (.mv (.tmp 14)), none⟩]) (.kill [13, 14])))) .nv)
def lo_spec_l01Partners_0 : AC := (.loop lb_spec_l01Partners_0)
def ac_spec_l01Partners : AC := (.seq (.post (.reg [⟨(some 2), .op (.mv (.const (Value.slice none 0 0))), none⟩]) (.kill [2]))
  (.seq (.post (.reg [⟨(some 7), .op (.lits true 1 0 (Value.int .i64 0) []), none⟩,
    ⟨(some 3), .op (.mv (.tmp 7)), none⟩]) (.kill [7]))
  (.seq (.post (.reg [⟨(some 8), .op (.lits true 1 0 (Value.int .i64 0) []), none⟩,
    ⟨(some 4), .op (.mv (.tmp 8)), none⟩]) (.kill [8]))
  (.seq (.seq (.reg [⟨(some 5), .op (.mv (.const (Value.int .i64 0))), none⟩])
  (.post (.block 0 (.ghost (.ow 3 none 1) (.ghost (.ow 4 none 1) (.ghost .nv lo_spec_l01Partners_0)))) .nv))
  (.ghost (.kill [0, 4, 5]) (.seq (.post (.reg [⟨(some 67), .op (.mv (.tmp 3)), none⟩,
    ⟨(some 2), .op (.mv (.tmp 67)), none⟩]) (.kill [3, 67]))
  .ret))))))
theorem cf_spec_l01Partners : chkFn Try.prog i_spec_l01Partners ac_spec_l01Partners [.tmp 2] 68 = true := by decide +kernel
def fa_spec_l01Partners : FnA := ⟨ac_spec_l01Partners, [.tmp 2], 68, false, true, [], .any⟩

/-- The checked code of spec l01Pending. -/
def lb_spec_l01Pending_0 : AC := (.seq (.seq (.post (.reg [⟨(some 10), .op (.mv (.tmp 7)), none⟩,
    ⟨(some 11), .op (.mv (.tmp 0)), none⟩,
    ⟨(some 12), .op (.len true (.tmp 11)), none⟩,
    ⟨(some 13), .op (.bin .lss (.tmp 10) (.tmp 12)), none⟩]) (.kill [10, 11, 12]))
  (.cond (.tmp 13) (.ghost (.kill [13]) .skip)
  (.ghost (.kill [0, 4, 7, 13]) (.exit 0))))
  (.seq (.block 1 (.seq (.seq (.post (.reg [⟨(some 16), .op (.mv (.tmp 4)), none⟩,
    ⟨(some 17), .op (.mv (.tmp 7)), none⟩,
    ⟨(some 18), .op (.iaddrS (.tmp 16) (.tmp 17) 1), none⟩,
    ⟨(some 19), .op (.load 1 false (.tmp 18)), none⟩,
    ⟨(some 20), .op (.bin .eql (.tmp 19) (.const (Value.int .i64 (-2)))), none⟩,
    ⟨(some 21), .op (.mv (.tmp 20)), none⟩,
    ⟨(some 22), .op (.mv (.tmp 0)), some (21, true)⟩,
    ⟨(some 23), .op (.mv (.tmp 7)), some (21, true)⟩,
    ⟨(some 24), .op (.idxStr (.tmp 22) (.tmp 23)), some (21, true)⟩,
    ⟨(some 25), .call (.func i_spec_l01Return) [(.tmp 24)], some (21, true)⟩,
    ⟨(some 26), .op (.pick (.tmp 21) (.tmp 25) (.const (Value.bool false))), none⟩]) (.kill [16, 17, 18, 19, 20, 21, 22, 23, 24, 25]))
  (.cond (.tmp 26) (.ghost (.kill [26]) (.post (.reg [⟨(some 27), .op (.mv (.tmp 5)), none⟩,
    ⟨(some 28), .op (.bin .add (.tmp 27) (.const (Value.int .i64 1))), none⟩,
    ⟨(some 5), .op (.mv (.tmp 28)), none⟩]) (.kill [27, 28])))
  (.ghost (.kill [26]) .skip)))
  (.seq (.post (.reg [⟨(some 29), .op (.mv (.tmp 4)), none⟩,
    ⟨(some 30), .op (.mv (.tmp 7)), none⟩,
    ⟨(some 31), .op (.iaddrS (.tmp 29) (.tmp 30) 1), none⟩,
    ⟨(some 32), .op (.load 1 false (.tmp 31)), none⟩,
    ⟨(some 33), .op (.bin .eql (.tmp 32) (.const (Value.int .i64 (-2)))), none⟩,
    ⟨(some 34), .op (.mv (.tmp 33)), none⟩,
    ⟨(some 35), .op (.mv (.tmp 0)), some (34, true)⟩,
    ⟨(some 36), .op (.mv (.tmp 7)), some (34, true)⟩,
    ⟨(some 37), .op (.idxStr (.tmp 35) (.tmp 36)), some (34, true)⟩,
    ⟨(some 38), .call (.func i_spec_l01Call) [(.tmp 37)], some (34, true)⟩,
    ⟨(some 39), .op (.pick (.tmp 34) (.tmp 38) (.const (Value.bool false))), none⟩]) (.kill [29, 30, 31, 32, 33, 34, 35, 36, 37, 38]))
  (.cond (.tmp 39) (.ghost (.kill [39]) (.post (.reg [⟨(some 40), .op (.mv (.tmp 6)), none⟩,
    ⟨(some 41), .op (.bin .add (.tmp 40) (.const (Value.int .i64 1))), none⟩,
    ⟨(some 6), .op (.mv (.tmp 41)), none⟩]) (.kill [40, 41])))
  (.ghost (.kill [39]) .skip)))))
  (.post (.reg [⟨(some 14), .op (.mv (.tmp 7)), none⟩,
    ⟨(some 15), .op (.bin .add (.tmp 14) (.const (Value.int .i64 1))), none⟩,
    ⟨(some 7), .op (.mv (.tmp 15)), none⟩]) (.kill [14, 15]))))
def lo_spec_l01Pending_0 : AC := (.loop lb_spec_l01Pending_0)
def ac_spec_l01Pending : AC := (.seq (.post (.reg [⟨(some 2), .op (.mv (.const (Value.int .i64 0))), none⟩,
    ⟨(some 3), .op (.mv (.const (Value.int .i64 0))), none⟩]) (.kill [2, 3]))
  (.seq (.post (.reg [⟨(some 8), .op (.mv (.tmp 0)), none⟩,
    ⟨(some 9), .call (.func i_spec_l01Partners) [(.tmp 8)], none⟩,
    ⟨(some 4), .op (.mv (.tmp 9)), none⟩]) (.kill [8, 9]))
  (.seq (.reg [⟨(some 5), .op (.mv (.const (Value.int .i64 0))), none⟩])
  (.seq (.reg [⟨(some 6), .op (.mv (.const (Value.int .i64 0))), none⟩])
  (.seq (.seq (.reg [⟨(some 7), .op (.mv (.const (Value.int .i64 0))), none⟩])
  (.block 0 lo_spec_l01Pending_0))
  (.ghost (.kill [0, 4, 7]) (.seq (.post (.reg [⟨(some 42), .op (.mv (.tmp 5)), none⟩,
    ⟨(some 43), .op (.mv (.tmp 6)), none⟩,
    ⟨(some 2), .op (.mv (.tmp 42)), none⟩,
    ⟨(some 3), .op (.mv (.tmp 43)), none⟩]) (.kill [5, 6, 42, 43]))
  .ret)))))))
theorem cf_spec_l01Pending : chkFn Try.prog i_spec_l01Pending ac_spec_l01Pending [.tmp 2, .tmp 3] 44 = true := by decide +kernel
def fa_spec_l01Pending : FnA := ⟨ac_spec_l01Pending, [.tmp 2, .tmp 3], 44, false, true, [], .any⟩

/-- The checked code of spec l01Matched. -/
def ac_spec_l01Matched : AC := (.seq (.post (.reg [⟨(some 2), .op (.mv (.const (Value.bool false))), none⟩]) (.kill [2]))
  (.seq (.post (.reg [⟨(some 6), .op (.mv (.tmp 0)), none⟩,
    ⟨(some 7), .call (.func i_spec_l01Pending) [(.tmp 6)], none⟩,
    ⟨(some 5), .op (.mv (.tmp 7)), none⟩,
    ⟨(some 8), .op (.ext (.tmp 5) 0), none⟩,
    ⟨(some 9), .op (.ext (.tmp 5) 1), none⟩,
    ⟨(some 3), .op (.mv (.tmp 8)), none⟩,
    ⟨(some 4), .op (.mv (.tmp 9)), none⟩]) (.kill [0, 5, 6, 7, 8, 9]))
  (.seq (.post (.reg [⟨(some 10), .op (.mv (.tmp 3)), none⟩,
    ⟨(some 11), .op (.mv (.tmp 4)), none⟩,
    ⟨(some 12), .op (.bin .add (.tmp 10) (.tmp 11)), none⟩,
    ⟨(some 13), .op (.bin .eql (.tmp 12) (.const (Value.int .i64 0))), none⟩,
    ⟨(some 2), .op (.mv (.tmp 13)), none⟩]) (.kill [3, 4, 10, 11, 12, 13]))
  .ret)))
theorem cf_spec_l01Matched : chkFn Try.prog i_spec_l01Matched ac_spec_l01Matched [.tmp 2] 14 = true := by decide +kernel
def fa_spec_l01Matched : FnA := ⟨ac_spec_l01Matched, [.tmp 2], 14, false, true, [], .any⟩

/-- The checked code of spec l06Brackets. -/
def ac_spec_l06Brackets : AC := (.seq (.post (.reg [⟨(some 2), .op (.mv (.const (Value.bool false))), none⟩]) (.kill [2]))
  (.seq (.post (.reg [⟨(some 3), .op (.mv (.tmp 0)), none⟩,
    ⟨(some 4), .op (.len true (.tmp 3)), none⟩,
    ⟨(some 5), .op (.bin .eql (.tmp 4) (.const (Value.int .i64 2))), none⟩,
    ⟨(some 6), .op (.mv (.tmp 5)), none⟩,
    ⟨(some 7), .op (.mv (.tmp 0)), some (6, true)⟩,
    ⟨(some 8), .op (.idxStr (.tmp 7) (.const (Value.int .i64 0))), some (6, true)⟩,
    ⟨(some 9), .call (.func i_spec_l01Call) [(.tmp 8)], some (6, true)⟩,
    ⟨(some 10), .op (.pick (.tmp 6) (.tmp 9) (.const (Value.bool false))), none⟩,
    ⟨(some 11), .op (.mv (.tmp 10)), none⟩,
    ⟨(some 12), .op (.mv (.tmp 0)), some (11, true)⟩,
    ⟨(some 13), .op (.idxStr (.tmp 12) (.const (Value.int .i64 1))), some (11, true)⟩,
    ⟨(some 14), .call (.func i_spec_l01Return) [(.tmp 13)], some (11, true)⟩,
    ⟨(some 15), .op (.pick (.tmp 11) (.tmp 14) (.const (Value.bool false))), none⟩,
    ⟨(some 2), .op (.mv (.tmp 15)), none⟩]) (.kill [0, 3, 4, 5, 6, 7, 8, 9, 10, 11, 12, 13, 14, 15]))
  .ret))
theorem cf_spec_l06Brackets : chkFn Try.prog i_spec_l06Brackets ac_spec_l06Brackets [.tmp 2] 16 = true := by decide +kernel
def fa_spec_l06Brackets : FnA := ⟨ac_spec_l06Brackets, [.tmp 2], 16, false, true, [], .any⟩

/-- The checked code of spec l06Edit. -/
def ac_spec_l06Edit : AC := (.seq (.post (.reg [⟨(some 2), .op (.mv (.const (Value.bool false))), none⟩]) (.kill [2]))
  (.seq (.seq (.post (.reg [⟨(some 3), .op (.mv (.tmp 0)), none⟩,
    ⟨(some 4), .op (.nilc (.tmp 3)), none⟩,
    ⟨(some 5), .op (.faddr (.tmp 4) 0), none⟩,
    ⟨(some 6), .op (.load 1 false (.tmp 5)), none⟩,
    ⟨(some 7), .call (.func i_spec_l00In) [(.tmp 6), (.const (Value.int .i64 1)), (.const (Value.int .i64 5))], none⟩,
    ⟨(some 8), .op (.un .not (.tmp 7)), none⟩,
    ⟨(some 9), .op (.mv (.tmp 8)), none⟩,
    ⟨(some 10), .op (.mv (.tmp 0)), some (9, false)⟩,
    ⟨(some 11), .op (.nilc (.tmp 10)), some (9, false)⟩,
    ⟨(some 12), .op (.faddr (.tmp 11) 1), some (9, false)⟩,
    ⟨(some 13), .op (.load 1 false (.tmp 12)), some (9, false)⟩,
    ⟨(some 14), .call (.func i_spec_l00In) [(.tmp 13), (.const (Value.int .i64 0)), (.const (Value.int .i64 60))], some (9, false)⟩,
    ⟨(some 15), .op (.un .not (.tmp 14)), some (9, false)⟩,
    ⟨(some 16), .op (.pick (.tmp 9) (.const (Value.bool true)) (.tmp 15)), none⟩,
    ⟨(some 17), .op (.mv (.tmp 16)), none⟩,
    ⟨(some 18), .op (.mv (.tmp 0)), some (17, false)⟩,
    ⟨(some 19), .op (.nilc (.tmp 18)), some (17, false)⟩,
    ⟨(some 20), .op (.faddr (.tmp 19) 2), some (17, false)⟩,
    ⟨(some 21), .op (.load 1 false (.tmp 20)), some (17, false)⟩,
    ⟨(some 22), .call (.func i_spec_l00In) [(.tmp 21), (.const (Value.int .i64 0)), (.const (Value.int .i64 60))], some (17, false)⟩,
    ⟨(some 23), .op (.un .not (.tmp 22)), some (17, false)⟩,
    ⟨(some 24), .op (.pick (.tmp 17) (.const (Value.bool true)) (.tmp 23)), none⟩,
    ⟨(some 25), .op (.mv (.tmp 24)), none⟩,
    ⟨(some 26), .op (.mv (.tmp 0)), some (25, false)⟩,
    ⟨(some 27), .op (.nilc (.tmp 26)), some (25, false)⟩,
    ⟨(some 28), .op (.faddr (.tmp 27) 0), some (25, false)⟩,
    ⟨(some 29), .op (.load 1 false (.tmp 28)), some (25, false)⟩,
    ⟨(some 30), .op (.bin .neq (.tmp 29) (.const (Value.int .i64 4))), some (25, false)⟩,
    ⟨(some 31), .op (.mv (.tmp 30)), some (25, false)⟩,
    ⟨(some 32), .op (.mv (.tmp 0)), some (31, true)⟩,
    ⟨(some 33), .op (.nilc (.tmp 32)), some (31, true)⟩,
    ⟨(some 34), .op (.faddr (.tmp 33) 2), some (31, true)⟩,
    ⟨(some 35), .op (.load 1 false (.tmp 34)), some (31, true)⟩,
    ⟨(some 36), .op (.bin .neq (.tmp 35) (.const (Value.int .i64 0))), some (31, true)⟩,
    ⟨(some 37), .op (.pick (.tmp 31) (.tmp 36) (.const (Value.bool false))), some (25, false)⟩,
    ⟨(some 38), .op (.pick (.tmp 25) (.const (Value.bool true)) (.tmp 37)), none⟩]) (.kill [3, 4, 5, 6, 7, 8, 9, 10, 11, 12, 13, 14, 15, 16, 17, 18, 19, 20, 21, 22, 23, 24, 25, 26, 27, 28, 29, 30, 31, 32, 33, 34, 35, 36, 37]))
  (.cond (.tmp 38) (.ghost (.kill [0, 38]) (.seq (.reg [⟨(some 2), .op (.mv (.const (Value.bool false))), none⟩])
  .ret))
  (.ghost (.kill [38]) .skip)))
  (.seq (.seq (.post (.reg [⟨(some 39), .op (.mv (.tmp 0)), none⟩,
    ⟨(some 40), .op (.nilc (.tmp 39)), none⟩,
    ⟨(some 41), .op (.faddr (.tmp 40) 0), none⟩,
    ⟨(some 42), .op (.load 1 false (.tmp 41)), none⟩]) (.kill [39, 40, 41]))
  (.block 0 (.seq (.post (.reg [⟨(some 44), .op (.bin .eql (.tmp 42) (.const (Value.int .i64 1))), none⟩,
    ⟨(some 43), .op (.mv (.tmp 44)), none⟩]) (.kill [44]))
  (.cond (.tmp 43) (.ghost (.kill [42, 43]) (.seq (.post (.reg [⟨(some 45), .op (.mv (.tmp 0)), none⟩,
    ⟨(some 46), .op (.nilc (.tmp 45)), none⟩,
    ⟨(some 47), .op (.faddr (.tmp 46) 3), none⟩,
    ⟨(some 48), .op (.load 1 false (.tmp 47)), none⟩,
    ⟨(some 49), .call (.func i_spec_l01Ok) [(.tmp 48)], none⟩,
    ⟨(some 50), .op (.mv (.tmp 49)), none⟩,
    ⟨(some 51), .op (.mv (.tmp 0)), some (50, true)⟩,
    ⟨(some 52), .op (.nilc (.tmp 51)), some (50, true)⟩,
    ⟨(some 53), .op (.faddr (.tmp 52) 3), some (50, true)⟩,
    ⟨(some 54), .op (.load 1 false (.tmp 53)), some (50, true)⟩,
    ⟨(some 55), .call (.func i_spec_l01Matched) [(.tmp 54)], some (50, true)⟩,
    ⟨(some 56), .op (.pick (.tmp 50) (.tmp 55) (.const (Value.bool false))), none⟩,
    ⟨(some 2), .op (.mv (.tmp 56)), none⟩]) (.kill [0, 45, 46, 47, 48, 49, 50, 51, 52, 53, 54, 55, 56]))
  .ret))
  (.ghost (.kill [43]) (.seq (.seq (.post (.reg [⟨(some 58), .op (.bin .eql (.tmp 42) (.const (Value.int .i64 4))), none⟩,
    ⟨(some 57), .op (.mv (.tmp 58)), none⟩]) (.kill [58]))
  (.cond (.tmp 57) (.ghost (.kill [42]) .skip)
  (.ghost (.kill [57]) (.post (.reg [⟨(some 59), .op (.bin .eql (.tmp 42) (.const (Value.int .i64 5))), none⟩,
    ⟨(some 57), .op (.mv (.tmp 59)), none⟩]) (.kill [42, 59])))))
  (.cond (.tmp 57) (.ghost (.kill [57]) (.seq (.post (.reg [⟨(some 60), .op (.mv (.tmp 0)), none⟩,
    ⟨(some 61), .op (.nilc (.tmp 60)), none⟩,
    ⟨(some 62), .op (.faddr (.tmp 61) 3), none⟩,
    ⟨(some 63), .op (.load 1 false (.tmp 62)), none⟩,
    ⟨(some 64), .call (.func i_spec_l06Brackets) [(.tmp 63)], none⟩,
    ⟨(some 2), .op (.mv (.tmp 64)), none⟩]) (.kill [0, 60, 61, 62, 63, 64]))
  .ret))
  (.ghost (.kill [57]) .skip))))))))
  (.seq (.post (.reg [⟨(some 65), .op (.mv (.tmp 0)), none⟩,
    ⟨(some 66), .op (.nilc (.tmp 65)), none⟩,
    ⟨(some 67), .op (.faddr (.tmp 66) 3), none⟩,
    ⟨(some 68), .op (.load 1 false (.tmp 67)), none⟩,
    ⟨(some 69), .op (.bin .eql (.tmp 68) (.const (Value.string ⟨#[]⟩))), none⟩,
    ⟨(some 2), .op (.mv (.tmp 69)), none⟩]) (.kill [0, 65, 66, 67, 68, 69]))
  .ret))))
theorem cf_spec_l06Edit : chkFn Try.prog i_spec_l06Edit ac_spec_l06Edit [.tmp 2] 70 = true := by decide +kernel
def fa_spec_l06Edit : FnA := ⟨ac_spec_l06Edit, [.tmp 2], 70, false, true, [], .any⟩

/-- The checked code of spec l01Told. -/
def ac_spec_l01Told : AC := (.seq (.post (.reg [⟨(some 2), .op (.mv (.const (Value.string ⟨#[]⟩))), none⟩,
    ⟨(some 3), .op (.mv (.const (Value.int .i64 0))), none⟩]) (.kill [2, 3]))
  (.seq (.seq (.post (.reg [⟨(some 4), .op (.mv (.tmp 0)), none⟩,
    ⟨(some 5), .op (.len true (.tmp 4)), none⟩,
    ⟨(some 6), .op (.bin .gtr (.tmp 5) (.const (Value.int .i64 60))), none⟩]) (.kill [4, 5]))
  (.cond (.tmp 6) (.ghost (.kill [0, 6]) (.seq (.reg [⟨(some 2), .op (.mv (.const (Value.string ⟨#[]⟩))), none⟩,
    ⟨(some 3), .op (.mv (.const (Value.int .i64 3))), none⟩])
  .ret))
  (.ghost (.kill [6]) .skip)))
  (.seq (.post (.reg [⟨(some 7), .op (.mv (.tmp 0)), none⟩,
    ⟨(some 2), .op (.mv (.tmp 7)), none⟩,
    ⟨(some 3), .op (.mv (.const (Value.int .i64 0))), none⟩]) (.kill [0, 7]))
  .ret)))
theorem cf_spec_l01Told : chkFn Try.prog i_spec_l01Told ac_spec_l01Told [.tmp 2, .tmp 3] 8 = true := by decide +kernel
def fa_spec_l01Told : FnA := ⟨ac_spec_l01Told, [.tmp 2, .tmp 3], 8, false, true, [], .any⟩

/-- The checked code of spec PutAt. -/
def ac_spec_PutAt : AC := (.seq (.post (.reg [⟨(some 6), .op (.mv (.const (Value.string ⟨#[]⟩))), none⟩,
    ⟨(some 7), .op (.mv (.const (Value.int .i64 0))), none⟩]) (.kill [6, 7]))
  (.seq (.seq (.post (.reg [⟨(some 8), .op (.mv (.tmp 0)), none⟩,
    ⟨(some 9), .call (.func i_spec_l01Ok) [(.tmp 8)], none⟩,
    ⟨(some 10), .op (.un .not (.tmp 9)), none⟩,
    ⟨(some 11), .op (.mv (.tmp 10)), none⟩,
    ⟨(some 12), .op (.mv (.tmp 2)), some (11, false)⟩,
    ⟨(some 13), .call (.func i_spec_l01Ok) [(.tmp 12)], some (11, false)⟩,
    ⟨(some 14), .op (.un .not (.tmp 13)), some (11, false)⟩,
    ⟨(some 15), .op (.pick (.tmp 11) (.const (Value.bool true)) (.tmp 14)), none⟩]) (.kill [8, 9, 10, 11, 12, 13, 14]))
  (.cond (.tmp 15) (.ghost (.kill [0, 1, 2, 15]) (.seq (.reg [⟨(some 6), .op (.mv (.const (Value.string ⟨#[]⟩))), none⟩,
    ⟨(some 7), .op (.mv (.const (Value.int .i64 1))), none⟩])
  .ret))
  (.ghost (.kill [15]) .skip)))
  (.seq (.seq (.post (.reg [⟨(some 16), .op (.mv (.tmp 1)), none⟩,
    ⟨(some 17), .op (.mv (.tmp 0)), none⟩,
    ⟨(some 18), .op (.len true (.tmp 17)), none⟩,
    ⟨(some 19), .call (.func i_spec_l00In) [(.tmp 16), (.const (Value.int .i64 0)), (.tmp 18)], none⟩,
    ⟨(some 20), .op (.un .not (.tmp 19)), none⟩]) (.kill [16, 17, 18, 19]))
  (.cond (.tmp 20) (.ghost (.kill [0, 1, 2, 20]) (.seq (.reg [⟨(some 6), .op (.mv (.const (Value.string ⟨#[]⟩))), none⟩,
    ⟨(some 7), .op (.mv (.const (Value.int .i64 2))), none⟩])
  .ret))
  (.ghost (.kill [20]) .skip)))
  (.seq (.seq (.post (.reg [⟨(some 21), .op (.mv (.tmp 2)), none⟩,
    ⟨(some 22), .call (.func i_spec_l01Matched) [(.tmp 21)], none⟩,
    ⟨(some 23), .op (.un .not (.tmp 22)), none⟩]) (.kill [21, 22]))
  (.cond (.tmp 23) (.ghost (.kill [0, 1, 2, 23]) (.seq (.reg [⟨(some 6), .op (.mv (.const (Value.string ⟨#[]⟩))), none⟩,
    ⟨(some 7), .op (.mv (.const (Value.int .i64 4))), none⟩])
  .ret))
  (.ghost (.kill [23]) .skip)))
  (.seq (.post (.draw [⟨0, ⟨(some 24), .op (.mv (.tmp 0)), none⟩, []⟩,
    ⟨1, ⟨(some 25), .op (.mv (.tmp 1)), none⟩, []⟩,
    ⟨2, ⟨(some 26), .op (.slcStr (.tmp 24) none (some (.tmp 25))), none⟩, []⟩,
    ⟨3, ⟨(some 27), .op (.mv (.tmp 2)), none⟩, []⟩,
    ⟨4, ⟨(some 28), .op (.bin .add (.tmp 26) (.tmp 27)), none⟩, []⟩,
    ⟨5, ⟨(some 29), .op (.mv (.tmp 0)), none⟩, []⟩,
    ⟨6, ⟨(some 30), .op (.mv (.tmp 1)), none⟩, []⟩,
    ⟨7, ⟨(some 31), .op (.slcStr (.tmp 29) (some (.tmp 30)) none), none⟩, []⟩,
    ⟨8, ⟨(some 32), .op (.bin .add (.tmp 28) (.tmp 31)), none⟩, []⟩,
    ⟨9, ⟨(some 33), .call (.func i_spec_l01Told) [(.tmp 32)], none⟩, []⟩,
    ⟨10, ⟨(some 34), .op (.ext (.tmp 33) 0), none⟩, []⟩,
    ⟨11, ⟨(some 35), .op (.ext (.tmp 33) 1), none⟩, []⟩,
    ⟨12, ⟨(some 6), .op (.mv (.tmp 34)), none⟩, []⟩,
    ⟨13, ⟨(some 7), .op (.mv (.tmp 35)), none⟩, []⟩]
    [0, 0, 3, 0, 15, 0, 0, 96, 255, 511, 1023, 1023, 4095, 8191]) (.kill [0, 1, 2, 24, 25, 26, 27, 28, 29, 30, 31, 32, 33, 34, 35]))
  .ret)))))
theorem cf_spec_PutAt : chkFn Try.prog i_spec_PutAt ac_spec_PutAt [.tmp 6, .tmp 7] 36 = true := by decide +kernel
def fa_spec_PutAt : FnA := ⟨ac_spec_PutAt, [.tmp 6, .tmp 7], 36, false, true, [], .any⟩

/-- The checked code of spec l01Closed. -/
def ac_spec_l01Closed : AC := (.seq (.post (.reg [⟨(some 4), .op (.mv (.const (Value.int .i64 0))), none⟩,
    ⟨(some 5), .op (.mv (.const (Value.int .i64 0))), none⟩]) (.kill [4, 5]))
  (.seq (.seq (.post (.reg [⟨(some 7), .op (.mv (.tmp 0)), none⟩,
    ⟨(some 8), .call (.func i_spec_l01Ok) [(.tmp 7)], none⟩,
    ⟨(some 9), .op (.un .not (.tmp 8)), none⟩]) (.kill [7, 8]))
  (.cond (.tmp 9) (.ghost (.kill [0, 1, 9]) (.seq (.reg [⟨(some 4), .op (.mv (.const (Value.int .i64 0))), none⟩,
    ⟨(some 5), .op (.mv (.const (Value.int .i64 1))), none⟩])
  .ret))
  (.ghost (.kill [9]) .skip)))
  (.seq (.seq (.post (.reg [⟨(some 10), .op (.mv (.tmp 1)), none⟩,
    ⟨(some 11), .op (.mv (.tmp 0)), none⟩,
    ⟨(some 12), .op (.len true (.tmp 11)), none⟩,
    ⟨(some 13), .op (.bin .sub (.tmp 12) (.const (Value.int .i64 1))), none⟩,
    ⟨(some 14), .call (.func i_spec_l00In) [(.tmp 10), (.const (Value.int .i64 0)), (.tmp 13)], none⟩,
    ⟨(some 15), .op (.un .not (.tmp 14)), none⟩]) (.kill [10, 11, 12, 13, 14]))
  (.cond (.tmp 15) (.ghost (.kill [0, 1, 15]) (.seq (.reg [⟨(some 4), .op (.mv (.const (Value.int .i64 0))), none⟩,
    ⟨(some 5), .op (.mv (.const (Value.int .i64 2))), none⟩])
  .ret))
  (.ghost (.kill [15]) .skip)))
  (.seq (.post (.reg [⟨(some 16), .op (.mv (.tmp 0)), none⟩,
    ⟨(some 17), .call (.func i_spec_l01Partners) [(.tmp 16)], none⟩,
    ⟨(some 18), .op (.mv (.tmp 1)), none⟩,
    ⟨(some 19), .op (.iaddrS (.tmp 17) (.tmp 18) 1), none⟩,
    ⟨(some 20), .op (.load 1 false (.tmp 19)), none⟩,
    ⟨(some 6), .op (.mv (.tmp 20)), none⟩]) (.kill [16, 17, 18, 19, 20]))
  (.seq (.seq (.post (.reg [⟨(some 21), .op (.mv (.tmp 0)), none⟩,
    ⟨(some 22), .op (.mv (.tmp 1)), none⟩,
    ⟨(some 23), .op (.idxStr (.tmp 21) (.tmp 22)), none⟩,
    ⟨(some 24), .call (.func i_spec_l01Call) [(.tmp 23)], none⟩,
    ⟨(some 25), .op (.un .not (.tmp 24)), none⟩,
    ⟨(some 26), .op (.mv (.tmp 25)), none⟩,
    ⟨(some 27), .op (.mv (.tmp 6)), some (26, false)⟩,
    ⟨(some 28), .op (.bin .lss (.tmp 27) (.const (Value.int .i64 0))), some (26, false)⟩,
    ⟨(some 29), .op (.pick (.tmp 26) (.const (Value.bool true)) (.tmp 28)), none⟩]) (.kill [0, 1, 21, 22, 23, 24, 25, 26, 27, 28]))
  (.cond (.tmp 29) (.ghost (.kill [6, 29]) (.seq (.reg [⟨(some 4), .op (.mv (.const (Value.int .i64 0))), none⟩,
    ⟨(some 5), .op (.mv (.const (Value.int .i64 4))), none⟩])
  .ret))
  (.ghost (.kill [29]) .skip)))
  (.seq (.post (.reg [⟨(some 30), .op (.mv (.tmp 6)), none⟩,
    ⟨(some 4), .op (.mv (.tmp 30)), none⟩,
    ⟨(some 5), .op (.mv (.const (Value.int .i64 0))), none⟩]) (.kill [6, 30]))
  .ret))))))
theorem cf_spec_l01Closed : chkFn Try.prog i_spec_l01Closed ac_spec_l01Closed [.tmp 4, .tmp 5] 31 = true := by decide +kernel
def fa_spec_l01Closed : FnA := ⟨ac_spec_l01Closed, [.tmp 4, .tmp 5], 31, false, true, [], .any⟩

/-- The checked code of spec CutMatched. -/
def ac_spec_CutMatched : AC := (.seq (.post (.reg [⟨(some 4), .op (.mv (.const (Value.string ⟨#[]⟩))), none⟩,
    ⟨(some 5), .op (.mv (.const (Value.int .i64 0))), none⟩]) (.kill [4, 5]))
  (.seq (.post (.reg [⟨(some 9), .op (.mv (.tmp 0)), none⟩,
    ⟨(some 10), .op (.mv (.tmp 1)), none⟩,
    ⟨(some 11), .call (.func i_spec_l01Closed) [(.tmp 9), (.tmp 10)], none⟩,
    ⟨(some 8), .op (.mv (.tmp 11)), none⟩,
    ⟨(some 12), .op (.ext (.tmp 8) 0), none⟩,
    ⟨(some 13), .op (.ext (.tmp 8) 1), none⟩,
    ⟨(some 6), .op (.mv (.tmp 12)), none⟩,
    ⟨(some 7), .op (.mv (.tmp 13)), none⟩]) (.kill [8, 9, 10, 11, 12, 13]))
  (.seq (.seq (.post (.reg [⟨(some 14), .op (.mv (.tmp 7)), none⟩,
    ⟨(some 15), .op (.bin .neq (.tmp 14) (.const (Value.int .i64 0))), none⟩]) (.kill [14]))
  (.cond (.tmp 15) (.ghost (.kill [0, 1, 6, 15]) (.seq (.post (.reg [⟨(some 16), .op (.mv (.tmp 7)), none⟩,
    ⟨(some 4), .op (.mv (.const (Value.string ⟨#[]⟩))), none⟩,
    ⟨(some 5), .op (.mv (.tmp 16)), none⟩]) (.kill [7, 16]))
  .ret))
  (.ghost (.kill [7, 15]) .skip)))
  (.seq (.post (.draw [⟨0, ⟨(some 17), .op (.mv (.tmp 0)), none⟩, []⟩,
    ⟨1, ⟨(some 18), .op (.mv (.tmp 1)), none⟩, []⟩,
    ⟨2, ⟨(some 19), .op (.slcStr (.tmp 17) none (some (.tmp 18))), none⟩, []⟩,
    ⟨3, ⟨(some 20), .op (.mv (.tmp 0)), none⟩, []⟩,
    ⟨4, ⟨(some 21), .op (.mv (.tmp 6)), none⟩, []⟩,
    ⟨5, ⟨(some 22), .op (.bin .add (.tmp 21) (.const (Value.int .i64 1))), none⟩, []⟩,
    ⟨6, ⟨(some 23), .op (.slcStr (.tmp 20) (some (.tmp 22)) none), none⟩, []⟩,
    ⟨7, ⟨(some 24), .op (.bin .add (.tmp 19) (.tmp 23)), none⟩, []⟩,
    ⟨8, ⟨(some 4), .op (.mv (.tmp 24)), none⟩, []⟩,
    ⟨9, ⟨(some 5), .op (.mv (.const (Value.int .i64 0))), none⟩, []⟩]
    [0, 0, 3, 0, 0, 16, 56, 127, 255, 511]) (.kill [0, 1, 6, 17, 18, 19, 20, 21, 22, 23, 24]))
  .ret))))
theorem cf_spec_CutMatched : chkFn Try.prog i_spec_CutMatched ac_spec_CutMatched [.tmp 4, .tmp 5] 25 = true := by decide +kernel
def fa_spec_CutMatched : FnA := ⟨ac_spec_CutMatched, [.tmp 4, .tmp 5], 25, false, true, [], .any⟩

/-- The checked code of spec l06Made. -/
def ac_spec_l06Made : AC := (.seq (.post (.reg [⟨(some 4), .op (.mv (.const (Value.string ⟨#[]⟩))), none⟩,
    ⟨(some 5), .op (.mv (.const (Value.int .i64 0))), none⟩]) (.kill [4, 5]))
  (.seq (.post (.reg [⟨(some 8), .op (.mv (.tmp 0)), none⟩,
    ⟨(some 9), .op (.len true (.tmp 8)), none⟩,
    ⟨(some 6), .op (.mv (.tmp 9)), none⟩]) (.kill [8, 9]))
  (.seq (.seq (.post (.reg [⟨(some 10), .op (.mv (.tmp 1)), none⟩,
    ⟨(some 11), .op (.nilc (.tmp 10)), none⟩,
    ⟨(some 12), .op (.faddr (.tmp 11) 0), none⟩,
    ⟨(some 13), .op (.load 1 false (.tmp 12)), none⟩]) (.kill [10, 11, 12]))
  (.block 0 (.seq (.post (.reg [⟨(some 15), .op (.bin .eql (.tmp 13) (.const (Value.int .i64 1))), none⟩,
    ⟨(some 14), .op (.mv (.tmp 15)), none⟩]) (.kill [15]))
  (.cond (.tmp 14) (.ghost (.kill [6, 13, 14]) (.seq (.post (.draw [⟨0, ⟨(some 16), .op (.mv (.tmp 0)), none⟩, []⟩,
    ⟨1, ⟨(some 17), .op (.mv (.tmp 1)), none⟩, []⟩,
    ⟨2, ⟨(some 18), .op (.nilc (.tmp 17)), none⟩, []⟩,
    ⟨3, ⟨(some 19), .op (.faddr (.tmp 18) 1), none⟩, []⟩,
    ⟨4, ⟨(some 20), .op (.load 1 false (.tmp 19)), none⟩, []⟩,
    ⟨5, ⟨(some 21), .op (.mv (.tmp 1)), none⟩, []⟩,
    ⟨6, ⟨(some 22), .op (.nilc (.tmp 21)), none⟩, []⟩,
    ⟨7, ⟨(some 23), .op (.faddr (.tmp 22) 3), none⟩, []⟩,
    ⟨8, ⟨(some 24), .op (.load 1 false (.tmp 23)), none⟩, []⟩,
    ⟨9, ⟨(some 25), .call (.func i_spec_PutAt) [(.tmp 16), (.tmp 20), (.tmp 24)], none⟩, []⟩,
    ⟨10, ⟨(some 26), .op (.ext (.tmp 25) 0), none⟩, []⟩,
    ⟨11, ⟨(some 27), .op (.ext (.tmp 25) 1), none⟩, []⟩,
    ⟨12, ⟨(some 4), .op (.mv (.tmp 26)), none⟩, []⟩,
    ⟨13, ⟨(some 5), .op (.mv (.tmp 27)), none⟩, []⟩]
    [0, 0, 2, 6, 14, 0, 32, 96, 224, 511, 1023, 1023, 4095, 8191]) (.kill [0, 1, 16, 17, 18, 19, 20, 21, 22, 23, 24, 25, 26, 27]))
  .ret))
  (.ghost (.kill [14]) (.seq (.post (.reg [⟨(some 29), .op (.bin .eql (.tmp 13) (.const (Value.int .i64 2))), none⟩,
    ⟨(some 28), .op (.mv (.tmp 29)), none⟩]) (.kill [29]))
  (.cond (.tmp 28) (.ghost (.kill [6, 13, 28]) (.seq (.post (.reg [⟨(some 30), .op (.mv (.tmp 0)), none⟩,
    ⟨(some 31), .op (.mv (.tmp 1)), none⟩,
    ⟨(some 32), .op (.nilc (.tmp 31)), none⟩,
    ⟨(some 33), .op (.faddr (.tmp 32) 1), none⟩,
    ⟨(some 34), .op (.load 1 false (.tmp 33)), none⟩,
    ⟨(some 35), .call (.func i_spec_CutMatched) [(.tmp 30), (.tmp 34)], none⟩,
    ⟨(some 36), .op (.ext (.tmp 35) 0), none⟩,
    ⟨(some 37), .op (.ext (.tmp 35) 1), none⟩,
    ⟨(some 4), .op (.mv (.tmp 36)), none⟩,
    ⟨(some 5), .op (.mv (.tmp 37)), none⟩]) (.kill [0, 1, 30, 31, 32, 33, 34, 35, 36, 37]))
  .ret))
  (.ghost (.kill [28]) (.seq (.post (.reg [⟨(some 39), .op (.bin .eql (.tmp 13) (.const (Value.int .i64 4))), none⟩,
    ⟨(some 38), .op (.mv (.tmp 39)), none⟩]) (.kill [13, 39]))
  (.cond (.tmp 38) (.ghost (.kill [38]) (.seq (.seq (.post (.draw [⟨0, ⟨(some 40), .op (.mv (.tmp 1)), none⟩, []⟩,
    ⟨1, ⟨(some 41), .op (.nilc (.tmp 40)), none⟩, []⟩,
    ⟨2, ⟨(some 42), .op (.faddr (.tmp 41) 1), none⟩, []⟩,
    ⟨3, ⟨(some 43), .op (.load 1 false (.tmp 42)), none⟩, []⟩,
    ⟨4, ⟨(some 44), .op (.mv (.tmp 6)), none⟩, []⟩,
    ⟨5, ⟨(some 45), .op (.bin .gtr (.tmp 43) (.tmp 44)), none⟩, []⟩,
    ⟨6, ⟨(some 46), .op (.mv (.tmp 45)), none⟩, []⟩,
    ⟨7, ⟨(some 47), .op (.mv (.tmp 1)), some (46, false)⟩, []⟩,
    ⟨8, ⟨(some 48), .op (.nilc (.tmp 47)), some (46, false)⟩, []⟩,
    ⟨9, ⟨(some 49), .op (.faddr (.tmp 48) 2), some (46, false)⟩, []⟩,
    ⟨10, ⟨(some 50), .op (.load 1 false (.tmp 49)), some (46, false)⟩, []⟩,
    ⟨11, ⟨(some 51), .op (.mv (.tmp 6)), some (46, false)⟩, []⟩,
    ⟨12, ⟨(some 52), .op (.bin .gtr (.tmp 50) (.tmp 51)), some (46, false)⟩, []⟩,
    ⟨13, ⟨(some 53), .op (.pick (.tmp 46) (.const (Value.bool true)) (.tmp 52)), none⟩, []⟩,
    ⟨14, ⟨(some 54), .op (.mv (.tmp 53)), none⟩, []⟩,
    ⟨15, ⟨(some 55), .op (.mv (.tmp 1)), some (54, false)⟩, []⟩,
    ⟨16, ⟨(some 56), .op (.nilc (.tmp 55)), some (54, false)⟩, []⟩,
    ⟨17, ⟨(some 57), .op (.faddr (.tmp 56) 1), some (54, false)⟩, []⟩,
    ⟨18, ⟨(some 58), .op (.load 1 false (.tmp 57)), some (54, false)⟩, []⟩,
    ⟨19, ⟨(some 59), .op (.mv (.tmp 1)), some (54, false)⟩, []⟩,
    ⟨20, ⟨(some 60), .op (.nilc (.tmp 59)), some (54, false)⟩, []⟩,
    ⟨21, ⟨(some 61), .op (.faddr (.tmp 60) 2), some (54, false)⟩, []⟩,
    ⟨22, ⟨(some 62), .op (.load 1 false (.tmp 61)), some (54, false)⟩, []⟩,
    ⟨23, ⟨(some 63), .op (.bin .gtr (.tmp 58) (.tmp 62)), some (54, false)⟩, []⟩,
    ⟨24, ⟨(some 64), .op (.pick (.tmp 54) (.const (Value.bool true)) (.tmp 63)), none⟩, []⟩]
    [0, 1, 3, 7, 0, 31, 63, 127, 255, 511, 1023, 127, 4095, 8191, 16383, 32767, 65535, 131071, 262143, 32767, 557055, 1605631, 3702783, 8388607, 16777215]) (.kill [40, 41, 42, 43, 44, 45, 46, 47, 48, 49, 50, 51, 52, 53, 54, 55, 56, 57, 58, 59, 60, 61, 62, 63]))
  (.cond (.tmp 64) (.ghost (.kill [0, 1, 6, 64]) (.seq (.reg [⟨(some 4), .op (.mv (.const (Value.string ⟨#[]⟩))), none⟩,
    ⟨(some 5), .op (.mv (.const (Value.int .i64 2))), none⟩])
  .ret))
  (.ghost (.kill [64]) .skip)))
  (.seq (.seq (.post (.draw [⟨0, ⟨(some 65), .op (.mv (.tmp 0)), none⟩, []⟩,
    ⟨1, ⟨(some 66), .op (.mv (.tmp 1)), none⟩, []⟩,
    ⟨2, ⟨(some 67), .op (.nilc (.tmp 66)), none⟩, []⟩,
    ⟨3, ⟨(some 68), .op (.faddr (.tmp 67) 1), none⟩, []⟩,
    ⟨4, ⟨(some 69), .op (.load 1 false (.tmp 68)), none⟩, []⟩,
    ⟨5, ⟨(some 70), .op (.mv (.tmp 1)), none⟩, []⟩,
    ⟨6, ⟨(some 71), .op (.nilc (.tmp 70)), none⟩, []⟩,
    ⟨7, ⟨(some 72), .op (.faddr (.tmp 71) 2), none⟩, []⟩,
    ⟨8, ⟨(some 73), .op (.load 1 false (.tmp 72)), none⟩, []⟩,
    ⟨9, ⟨(some 74), .op (.slcStr (.tmp 65) (some (.tmp 69)) (some (.tmp 73))), none⟩, []⟩,
    ⟨10, ⟨(some 75), .call (.func i_spec_l01Matched) [(.tmp 74)], none⟩, []⟩,
    ⟨11, ⟨(some 76), .op (.un .not (.tmp 75)), none⟩, []⟩]
    [0, 0, 2, 6, 14, 0, 32, 96, 224, 511, 1023, 2047]) (.kill [65, 66, 67, 68, 69, 70, 71, 72, 73, 74, 75]))
  (.cond (.tmp 76) (.ghost (.kill [0, 1, 6, 76]) (.seq (.reg [⟨(some 4), .op (.mv (.const (Value.string ⟨#[]⟩))), none⟩,
    ⟨(some 5), .op (.mv (.const (Value.int .i64 4))), none⟩])
  .ret))
  (.ghost (.kill [76]) .skip)))
  (.seq (.seq (.post (.reg [⟨(some 77), .op (.mv (.tmp 6)), none⟩,
    ⟨(some 78), .op (.bin .add (.tmp 77) (.const (Value.int .i64 2))), none⟩,
    ⟨(some 79), .op (.bin .gtr (.tmp 78) (.const (Value.int .i64 60))), none⟩]) (.kill [6, 77, 78]))
  (.cond (.tmp 79) (.ghost (.kill [0, 1, 79]) (.seq (.reg [⟨(some 4), .op (.mv (.const (Value.string ⟨#[]⟩))), none⟩,
    ⟨(some 5), .op (.mv (.const (Value.int .i64 3))), none⟩])
  .ret))
  (.ghost (.kill [79]) .skip)))
  (.seq (.post (.draw [⟨0, ⟨(some 80), .op (.mv (.tmp 0)), none⟩, []⟩,
    ⟨1, ⟨(some 81), .op (.mv (.tmp 1)), none⟩, []⟩,
    ⟨2, ⟨(some 82), .op (.nilc (.tmp 81)), none⟩, []⟩,
    ⟨3, ⟨(some 83), .op (.faddr (.tmp 82) 1), none⟩, []⟩,
    ⟨4, ⟨(some 84), .op (.load 1 false (.tmp 83)), none⟩, []⟩,
    ⟨5, ⟨(some 85), .op (.slcStr (.tmp 80) none (some (.tmp 84))), none⟩, []⟩,
    ⟨6, ⟨(some 86), .op (.mv (.tmp 1)), none⟩, []⟩,
    ⟨7, ⟨(some 87), .op (.nilc (.tmp 86)), none⟩, []⟩,
    ⟨8, ⟨(some 88), .op (.faddr (.tmp 87) 3), none⟩, []⟩,
    ⟨9, ⟨(some 89), .op (.load 1 false (.tmp 88)), none⟩, []⟩,
    ⟨10, ⟨(some 90), .op (.slcStr (.tmp 89) none (some (.const (Value.int .i64 1)))), none⟩, []⟩,
    ⟨11, ⟨(some 91), .op (.bin .add (.tmp 85) (.tmp 90)), none⟩, []⟩,
    ⟨12, ⟨(some 92), .op (.mv (.tmp 0)), none⟩, []⟩,
    ⟨13, ⟨(some 93), .op (.mv (.tmp 1)), none⟩, []⟩,
    ⟨14, ⟨(some 94), .op (.nilc (.tmp 93)), none⟩, []⟩,
    ⟨15, ⟨(some 95), .op (.faddr (.tmp 94) 1), none⟩, []⟩,
    ⟨16, ⟨(some 96), .op (.load 1 false (.tmp 95)), none⟩, []⟩,
    ⟨17, ⟨(some 97), .op (.mv (.tmp 1)), none⟩, []⟩,
    ⟨18, ⟨(some 98), .op (.nilc (.tmp 97)), none⟩, []⟩,
    ⟨19, ⟨(some 99), .op (.faddr (.tmp 98) 2), none⟩, []⟩,
    ⟨20, ⟨(some 100), .op (.load 1 false (.tmp 99)), none⟩, []⟩,
    ⟨21, ⟨(some 101), .op (.slcStr (.tmp 92) (some (.tmp 96)) (some (.tmp 100))), none⟩, []⟩,
    ⟨22, ⟨(some 102), .op (.bin .add (.tmp 91) (.tmp 101)), none⟩, []⟩,
    ⟨23, ⟨(some 103), .op (.mv (.tmp 1)), none⟩, []⟩,
    ⟨24, ⟨(some 104), .op (.nilc (.tmp 103)), none⟩, []⟩,
    ⟨25, ⟨(some 105), .op (.faddr (.tmp 104) 3), none⟩, []⟩,
    ⟨26, ⟨(some 106), .op (.load 1 false (.tmp 105)), none⟩, []⟩,
    ⟨27, ⟨(some 107), .op (.slcStr (.tmp 106) (some (.const (Value.int .i64 1))) none), none⟩, []⟩,
    ⟨28, ⟨(some 108), .op (.bin .add (.tmp 102) (.tmp 107)), none⟩, []⟩,
    ⟨29, ⟨(some 109), .op (.mv (.tmp 0)), none⟩, []⟩,
    ⟨30, ⟨(some 110), .op (.mv (.tmp 1)), none⟩, []⟩,
    ⟨31, ⟨(some 111), .op (.nilc (.tmp 110)), none⟩, []⟩,
    ⟨32, ⟨(some 112), .op (.faddr (.tmp 111) 2), none⟩, []⟩,
    ⟨33, ⟨(some 113), .op (.load 1 false (.tmp 112)), none⟩, []⟩,
    ⟨34, ⟨(some 114), .op (.slcStr (.tmp 109) (some (.tmp 113)) none), none⟩, []⟩,
    ⟨35, ⟨(some 115), .op (.bin .add (.tmp 108) (.tmp 114)), none⟩, []⟩,
    ⟨36, ⟨(some 4), .op (.mv (.tmp 115)), none⟩, []⟩,
    ⟨37, ⟨(some 5), .op (.mv (.const (Value.int .i64 0))), none⟩, []⟩]
    [0, 0, 2, 6, 14, 31, 0, 64, 192, 448, 960, 2047, 0, 0, 8192, 24576, 57344, 0, 131072, 393216, 917504, 2093056, 4194303, 0, 8388608, 25165824, 58720256, 125829120, 268435455, 0, 0, 1073741824, 3221225472, 7516192768, 16642998272, 34359738367, 68719476735, 137438953471]) (.kill [0, 1, 80, 81, 82, 83, 84, 85, 86, 87, 88, 89, 90, 91, 92, 93, 94, 95, 96, 97, 98, 99, 100, 101, 102, 103, 104, 105, 106, 107, 108, 109, 110, 111, 112, 113, 114, 115]))
  .ret)))))
  (.ghost (.kill [38]) .skip)))))))))))
  (.seq (.seq (.post (.reg [⟨(some 116), .op (.mv (.tmp 1)), none⟩,
    ⟨(some 117), .op (.nilc (.tmp 116)), none⟩,
    ⟨(some 118), .op (.faddr (.tmp 117) 1), none⟩,
    ⟨(some 119), .op (.load 1 false (.tmp 118)), none⟩,
    ⟨(some 120), .op (.mv (.tmp 6)), none⟩,
    ⟨(some 121), .op (.bin .geq (.tmp 119) (.tmp 120)), none⟩]) (.kill [6, 116, 117, 118, 119, 120]))
  (.cond (.tmp 121) (.ghost (.kill [0, 1, 121]) (.seq (.reg [⟨(some 4), .op (.mv (.const (Value.string ⟨#[]⟩))), none⟩,
    ⟨(some 5), .op (.mv (.const (Value.int .i64 2))), none⟩])
  .ret))
  (.ghost (.kill [121]) .skip)))
  (.seq (.post (.draw [⟨0, ⟨(some 122), .op (.mv (.tmp 0)), none⟩, []⟩,
    ⟨2, ⟨(some 124), .op (.mv (.tmp 1)), none⟩, []⟩,
    ⟨3, ⟨(some 125), .op (.nilc (.tmp 124)), none⟩, []⟩,
    ⟨4, ⟨(some 126), .op (.faddr (.tmp 125) 1), none⟩, []⟩,
    ⟨5, ⟨(some 127), .op (.load 1 false (.tmp 126)), none⟩, []⟩,
    ⟨1, ⟨(some 123), .call (.func i_spec_l01Partners) [(.tmp 122)], none⟩, [5]⟩,
    ⟨6, ⟨(some 128), .op (.iaddrS (.tmp 123) (.tmp 127) 1), none⟩, []⟩,
    ⟨7, ⟨(some 129), .op (.load 1 false (.tmp 128)), none⟩, []⟩,
    ⟨8, ⟨(some 7), .op (.mv (.tmp 129)), none⟩, []⟩]
    [0, 1, 0, 4, 12, 28, 63, 127, 255]) (.kill [122, 123, 124, 125, 126, 127, 128, 129]))
  (.seq (.seq (.post (.reg [⟨(some 130), .op (.mv (.tmp 0)), none⟩,
    ⟨(some 131), .op (.mv (.tmp 1)), none⟩,
    ⟨(some 132), .op (.nilc (.tmp 131)), none⟩,
    ⟨(some 133), .op (.faddr (.tmp 132) 1), none⟩,
    ⟨(some 134), .op (.load 1 false (.tmp 133)), none⟩,
    ⟨(some 135), .op (.idxStr (.tmp 130) (.tmp 134)), none⟩,
    ⟨(some 136), .call (.func i_spec_l01Call) [(.tmp 135)], none⟩,
    ⟨(some 137), .op (.un .not (.tmp 136)), none⟩,
    ⟨(some 138), .op (.mv (.tmp 137)), none⟩,
    ⟨(some 139), .op (.mv (.tmp 7)), some (138, false)⟩,
    ⟨(some 140), .op (.bin .lss (.tmp 139) (.const (Value.int .i64 0))), some (138, false)⟩,
    ⟨(some 141), .op (.pick (.tmp 138) (.const (Value.bool true)) (.tmp 140)), none⟩]) (.kill [130, 131, 132, 133, 134, 135, 136, 137, 138, 139, 140]))
  (.cond (.tmp 141) (.ghost (.kill [0, 1, 7, 141]) (.seq (.reg [⟨(some 4), .op (.mv (.const (Value.string ⟨#[]⟩))), none⟩,
    ⟨(some 5), .op (.mv (.const (Value.int .i64 4))), none⟩])
  .ret))
  (.ghost (.kill [141]) .skip)))
  (.seq (.seq (.post (.reg [⟨(some 142), .op (.mv (.tmp 1)), none⟩,
    ⟨(some 143), .op (.nilc (.tmp 142)), none⟩,
    ⟨(some 144), .op (.faddr (.tmp 143) 0), none⟩,
    ⟨(some 145), .op (.load 1 false (.tmp 144)), none⟩,
    ⟨(some 146), .op (.bin .eql (.tmp 145) (.const (Value.int .i64 3))), none⟩]) (.kill [142, 143, 144, 145]))
  (.cond (.tmp 146) (.ghost (.kill [146]) (.seq (.post (.draw [⟨0, ⟨(some 147), .op (.mv (.tmp 0)), none⟩, []⟩,
    ⟨1, ⟨(some 148), .op (.mv (.tmp 1)), none⟩, []⟩,
    ⟨2, ⟨(some 149), .op (.nilc (.tmp 148)), none⟩, []⟩,
    ⟨3, ⟨(some 150), .op (.faddr (.tmp 149) 1), none⟩, []⟩,
    ⟨4, ⟨(some 151), .op (.load 1 false (.tmp 150)), none⟩, []⟩,
    ⟨5, ⟨(some 152), .op (.slcStr (.tmp 147) none (some (.tmp 151))), none⟩, []⟩,
    ⟨6, ⟨(some 153), .op (.mv (.tmp 0)), none⟩, []⟩,
    ⟨7, ⟨(some 154), .op (.mv (.tmp 1)), none⟩, []⟩,
    ⟨8, ⟨(some 155), .op (.nilc (.tmp 154)), none⟩, []⟩,
    ⟨9, ⟨(some 156), .op (.faddr (.tmp 155) 1), none⟩, []⟩,
    ⟨10, ⟨(some 157), .op (.load 1 false (.tmp 156)), none⟩, []⟩,
    ⟨11, ⟨(some 158), .op (.bin .add (.tmp 157) (.const (Value.int .i64 1))), none⟩, []⟩,
    ⟨12, ⟨(some 159), .op (.mv (.tmp 7)), none⟩, []⟩,
    ⟨13, ⟨(some 160), .op (.slcStr (.tmp 153) (some (.tmp 158)) (some (.tmp 159))), none⟩, []⟩,
    ⟨14, ⟨(some 161), .op (.bin .add (.tmp 152) (.tmp 160)), none⟩, []⟩,
    ⟨15, ⟨(some 162), .op (.mv (.tmp 0)), none⟩, []⟩,
    ⟨16, ⟨(some 163), .op (.mv (.tmp 7)), none⟩, []⟩,
    ⟨17, ⟨(some 164), .op (.bin .add (.tmp 163) (.const (Value.int .i64 1))), none⟩, []⟩,
    ⟨18, ⟨(some 165), .op (.slcStr (.tmp 162) (some (.tmp 164)) none), none⟩, []⟩,
    ⟨19, ⟨(some 166), .op (.bin .add (.tmp 161) (.tmp 165)), none⟩, []⟩,
    ⟨20, ⟨(some 4), .op (.mv (.tmp 166)), none⟩, []⟩,
    ⟨21, ⟨(some 5), .op (.mv (.const (Value.int .i64 0))), none⟩, []⟩]
    [0, 0, 2, 6, 14, 31, 0, 0, 128, 384, 896, 1920, 0, 8128, 16383, 0, 0, 65536, 229376, 524287, 1048575, 2097151]) (.kill [0, 1, 7, 147, 148, 149, 150, 151, 152, 153, 154, 155, 156, 157, 158, 159, 160, 161, 162, 163, 164, 165, 166]))
  .ret))
  (.ghost (.kill [146]) .skip)))
  (.seq (.post (.draw [⟨0, ⟨(some 167), .op (.mv (.tmp 0)), none⟩, []⟩,
    ⟨1, ⟨(some 168), .op (.mv (.tmp 1)), none⟩, []⟩,
    ⟨2, ⟨(some 169), .op (.nilc (.tmp 168)), none⟩, []⟩,
    ⟨3, ⟨(some 170), .op (.faddr (.tmp 169) 1), none⟩, []⟩,
    ⟨4, ⟨(some 171), .op (.load 1 false (.tmp 170)), none⟩, []⟩,
    ⟨5, ⟨(some 172), .op (.slcStr (.tmp 167) none (some (.tmp 171))), none⟩, []⟩,
    ⟨6, ⟨(some 173), .op (.mv (.tmp 1)), none⟩, []⟩,
    ⟨7, ⟨(some 174), .op (.nilc (.tmp 173)), none⟩, []⟩,
    ⟨8, ⟨(some 175), .op (.faddr (.tmp 174) 3), none⟩, []⟩,
    ⟨9, ⟨(some 176), .op (.load 1 false (.tmp 175)), none⟩, []⟩,
    ⟨10, ⟨(some 177), .op (.slcStr (.tmp 176) none (some (.const (Value.int .i64 1)))), none⟩, []⟩,
    ⟨11, ⟨(some 178), .op (.bin .add (.tmp 172) (.tmp 177)), none⟩, []⟩,
    ⟨12, ⟨(some 179), .op (.mv (.tmp 0)), none⟩, []⟩,
    ⟨13, ⟨(some 180), .op (.mv (.tmp 1)), none⟩, []⟩,
    ⟨14, ⟨(some 181), .op (.nilc (.tmp 180)), none⟩, []⟩,
    ⟨15, ⟨(some 182), .op (.faddr (.tmp 181) 1), none⟩, []⟩,
    ⟨16, ⟨(some 183), .op (.load 1 false (.tmp 182)), none⟩, []⟩,
    ⟨17, ⟨(some 184), .op (.bin .add (.tmp 183) (.const (Value.int .i64 1))), none⟩, []⟩,
    ⟨18, ⟨(some 185), .op (.mv (.tmp 7)), none⟩, []⟩,
    ⟨19, ⟨(some 186), .op (.slcStr (.tmp 179) (some (.tmp 184)) (some (.tmp 185))), none⟩, []⟩,
    ⟨20, ⟨(some 187), .op (.bin .add (.tmp 178) (.tmp 186)), none⟩, []⟩,
    ⟨21, ⟨(some 188), .op (.mv (.tmp 1)), none⟩, []⟩,
    ⟨22, ⟨(some 189), .op (.nilc (.tmp 188)), none⟩, []⟩,
    ⟨23, ⟨(some 190), .op (.faddr (.tmp 189) 3), none⟩, []⟩,
    ⟨24, ⟨(some 191), .op (.load 1 false (.tmp 190)), none⟩, []⟩,
    ⟨25, ⟨(some 192), .op (.slcStr (.tmp 191) (some (.const (Value.int .i64 1))) none), none⟩, []⟩,
    ⟨26, ⟨(some 193), .op (.bin .add (.tmp 187) (.tmp 192)), none⟩, []⟩,
    ⟨27, ⟨(some 194), .op (.mv (.tmp 0)), none⟩, []⟩,
    ⟨28, ⟨(some 195), .op (.mv (.tmp 7)), none⟩, []⟩,
    ⟨29, ⟨(some 196), .op (.bin .add (.tmp 195) (.const (Value.int .i64 1))), none⟩, []⟩,
    ⟨30, ⟨(some 197), .op (.slcStr (.tmp 194) (some (.tmp 196)) none), none⟩, []⟩,
    ⟨31, ⟨(some 198), .op (.bin .add (.tmp 193) (.tmp 197)), none⟩, []⟩,
    ⟨32, ⟨(some 4), .op (.mv (.tmp 198)), none⟩, []⟩,
    ⟨33, ⟨(some 5), .op (.mv (.const (Value.int .i64 0))), none⟩, []⟩]
    [0, 0, 2, 6, 14, 31, 0, 64, 192, 448, 960, 2047, 0, 0, 8192, 24576, 57344, 122880, 0, 520192, 1048575, 0, 2097152, 6291456, 14680064, 31457280, 67108863, 0, 0, 268435456, 939524096, 2147483647, 4294967295, 8589934591]) (.kill [0, 1, 7, 167, 168, 169, 170, 171, 172, 173, 174, 175, 176, 177, 178, 179, 180, 181, 182, 183, 184, 185, 186, 187, 188, 189, 190, 191, 192, 193, 194, 195, 196, 197, 198]))
  .ret))))))))
theorem cf_spec_l06Made : chkFn Try.prog i_spec_l06Made ac_spec_l06Made [.tmp 4, .tmp 5] 199 = true := by decide +kernel
def fa_spec_l06Made : FnA := ⟨ac_spec_l06Made, [.tmp 4, .tmp 5], 199, false, true, [], .any⟩

/-- The checked code of spec EditTrees. -/
def lb_spec_EditTrees_0 : AC := (.seq (.seq (.post (.reg [⟨(some 15), .op (.mv (.tmp 8)), none⟩,
    ⟨(some 16), .op (.mv (.tmp 1)), none⟩,
    ⟨(some 17), .op (.len false (.tmp 16)), none⟩,
    ⟨(some 18), .op (.bin .lss (.tmp 15) (.tmp 17)), none⟩,
    ⟨(some 19), .op (.mv (.tmp 18)), none⟩,
    ⟨(some 20), .op (.mv (.tmp 7)), some (19, true)⟩,
    ⟨(some 21), .op (.pick (.tmp 19) (.tmp 20) (.const (Value.bool false))), none⟩]) (.kill [15, 16, 17, 18, 19, 20]))
  (.cond (.tmp 21) (.ghost (.kill [7, 21]) .skip)
  (.ghost (.kill [8, 21]) (.exit 0))))
  (.seq (.block 1 (.post (.reg [⟨(some 24), .op (.mv (.tmp 1)), none⟩,
    ⟨(some 25), .op (.mv (.tmp 8)), none⟩,
    ⟨(some 26), .op (.iaddrS (.tmp 24) (.tmp 25) 4), none⟩,
    ⟨(some 27), .call (.func i_spec_l06Edit) [(.tmp 26)], none⟩,
    ⟨(some 7), .op (.mv (.tmp 27)), none⟩]) (.kill [24, 25, 26, 27])))
  (.post (.reg [⟨(some 22), .op (.mv (.tmp 8)), none⟩,
    ⟨(some 23), .op (.bin .add (.tmp 22) (.const (Value.int .i64 1))), none⟩,
    ⟨(some 8), .op (.mv (.tmp 23)), none⟩]) (.kill [22, 23]))))
def lo_spec_EditTrees_0 : AC := (.loop lb_spec_EditTrees_0)
def lb_spec_EditTrees_1 : AC := (.seq (.seq (.post (.reg [⟨(some 33), .op (.mv (.tmp 10)), none⟩,
    ⟨(some 34), .op (.mv (.tmp 1)), none⟩,
    ⟨(some 35), .op (.len false (.tmp 34)), none⟩,
    ⟨(some 36), .op (.bin .lss (.tmp 33) (.tmp 35)), none⟩]) (.kill [33, 34, 35]))
  (.cond (.tmp 36) (.ghost (.kill [36]) .skip)
  (.ghost (.kill [1, 10, 36]) (.exit 2))))
  (.seq (.block 3 (.seq (.post (.reg [⟨(some 40), .op (.mv (.tmp 0)), none⟩,
    ⟨(some 41), .op (.mv (.tmp 1)), none⟩,
    ⟨(some 42), .op (.mv (.tmp 10)), none⟩,
    ⟨(some 43), .op (.iaddrS (.tmp 41) (.tmp 42) 4), none⟩,
    ⟨(some 44), .call (.func i_spec_l06Made) [(.tmp 40), (.tmp 43)], none⟩,
    ⟨(some 39), .op (.mv (.tmp 44)), none⟩,
    ⟨(some 45), .op (.ext (.tmp 39) 0), none⟩,
    ⟨(some 46), .op (.ext (.tmp 39) 1), none⟩,
    ⟨(some 11), .op (.mv (.tmp 45)), none⟩,
    ⟨(some 12), .op (.mv (.tmp 46)), none⟩]) (.kill [39, 40, 41, 42, 43, 44, 45, 46]))
  (.seq (.post (.reg [⟨(some 47), .op (.mv (.tmp 12)), none⟩,
    ⟨(some 48), .op (.bin .eql (.tmp 47) (.const (Value.int .i64 0))), none⟩]) (.kill [12, 47]))
  (.cond (.tmp 48) (.ghost (.kill [0, 48]) (.seq (.post (.reg [⟨(some 49), .op (.mv (.tmp 11)), none⟩,
    ⟨(some 0), .op (.mv (.tmp 49)), none⟩]) (.kill [11, 49]))
  (.post (.reg [⟨(some 50), .op (.mv (.tmp 9)), none⟩,
    ⟨(some 51), .op (.bin .add (.tmp 50) (.const (Value.int .i64 1))), none⟩,
    ⟨(some 9), .op (.mv (.tmp 51)), none⟩]) (.kill [50, 51]))))
  (.ghost (.kill [11, 48]) .skip)))))
  (.post (.reg [⟨(some 37), .op (.mv (.tmp 10)), none⟩,
    ⟨(some 38), .op (.bin .add (.tmp 37) (.const (Value.int .i64 1))), none⟩,
    ⟨(some 10), .op (.mv (.tmp 38)), none⟩]) (.kill [37, 38]))))
def lo_spec_EditTrees_1 : AC := (.loop lb_spec_EditTrees_1)
def ac_spec_EditTrees : AC := (.seq (.post (.reg [⟨(some 4), .op (.mv (.const (Value.string ⟨#[]⟩))), none⟩,
    ⟨(some 5), .op (.mv (.const (Value.int .i64 0))), none⟩,
    ⟨(some 6), .op (.mv (.const (Value.int .i64 0))), none⟩]) (.kill [4, 5, 6]))
  (.seq (.post (.reg [⟨(some 13), .op (.mv (.tmp 0)), none⟩,
    ⟨(some 14), .call (.func i_spec_l01Ok) [(.tmp 13)], none⟩,
    ⟨(some 7), .op (.mv (.tmp 14)), none⟩]) (.kill [13, 14]))
  (.seq (.seq (.reg [⟨(some 8), .op (.mv (.const (Value.int .i64 0))), none⟩])
  (.block 0 lo_spec_EditTrees_0))
  (.ghost (.kill [8]) (.seq (.seq (.post (.reg [⟨(some 28), .op (.mv (.tmp 7)), none⟩,
    ⟨(some 29), .op (.un .not (.tmp 28)), none⟩]) (.kill [7, 28]))
  (.cond (.tmp 29) (.ghost (.kill [0, 1, 29]) (.seq (.reg [⟨(some 4), .op (.mv (.const (Value.string ⟨#[]⟩))), none⟩,
    ⟨(some 5), .op (.mv (.const (Value.int .i64 0))), none⟩,
    ⟨(some 6), .op (.mv (.const (Value.int .i64 1))), none⟩])
  .ret))
  (.ghost (.kill [29]) .skip)))
  (.seq (.seq (.post (.reg [⟨(some 30), .op (.mv (.tmp 1)), none⟩,
    ⟨(some 31), .op (.len false (.tmp 30)), none⟩,
    ⟨(some 32), .op (.bin .gtr (.tmp 31) (.const (Value.int .i64 60))), none⟩]) (.kill [30, 31]))
  (.cond (.tmp 32) (.ghost (.kill [0, 1, 32]) (.seq (.reg [⟨(some 4), .op (.mv (.const (Value.string ⟨#[]⟩))), none⟩,
    ⟨(some 5), .op (.mv (.const (Value.int .i64 0))), none⟩,
    ⟨(some 6), .op (.mv (.const (Value.int .i64 2))), none⟩])
  .ret))
  (.ghost (.kill [32]) .skip)))
  (.seq (.reg [⟨(some 9), .op (.mv (.const (Value.int .i64 0))), none⟩])
  (.seq (.seq (.reg [⟨(some 10), .op (.mv (.const (Value.int .i64 0))), none⟩])
  (.block 2 lo_spec_EditTrees_1))
  (.ghost (.kill [1, 10]) (.seq (.post (.reg [⟨(some 52), .op (.mv (.tmp 0)), none⟩,
    ⟨(some 53), .op (.mv (.tmp 9)), none⟩,
    ⟨(some 4), .op (.mv (.tmp 52)), none⟩,
    ⟨(some 5), .op (.mv (.tmp 53)), none⟩,
    ⟨(some 6), .op (.mv (.const (Value.int .i64 0))), none⟩]) (.kill [0, 9, 52, 53]))
  .ret))))))))))
theorem cf_spec_EditTrees : chkFn Try.prog i_spec_EditTrees ac_spec_EditTrees [.tmp 4, .tmp 5, .tmp 6] 54 = true := by decide +kernel
def fa_spec_EditTrees : FnA := ⟨ac_spec_EditTrees, [.tmp 4, .tmp 5, .tmp 6], 54, false, true, [], .any⟩

/-- The checked code of laws toTreeEdit. -/
def ac_laws_toTreeEdit : AC := (.seq (.post (.reg [⟨(some 1), .op (.box true (.tmp 0)), none⟩,
    ⟨(some 2), .op (.alloc (Value.agg #[Value.int .i64 0, Value.int .i64 0, Value.int .i64 0, Value.string ⟨#[]⟩])), none⟩]) (.kill [0]))
  (.seq (.reg [⟨(some 3), .op (.alloc (Value.agg #[Value.int .i64 0, Value.int .i64 0, Value.int .i64 0, Value.string ⟨#[]⟩])), none⟩])
  (.seq (.post (.reg [⟨(some 4), .op (.faddr (.tmp 1) 0), none⟩,
    ⟨(some 5), .op (.load 1 false (.tmp 4)), none⟩,
    ⟨(some 6), .op (.faddr (.tmp 3) 0), none⟩,
    ⟨none, .op (.store 1 (.tmp 6) (.tmp 5)), none⟩]) (.kill [4, 5, 6]))
  (.seq (.post (.reg [⟨(some 7), .op (.faddr (.tmp 1) 1), none⟩,
    ⟨(some 8), .op (.load 1 false (.tmp 7)), none⟩,
    ⟨(some 9), .op (.faddr (.tmp 3) 1), none⟩,
    ⟨none, .op (.store 1 (.tmp 9) (.tmp 8)), none⟩]) (.kill [7, 8, 9]))
  (.seq (.post (.reg [⟨(some 10), .op (.faddr (.tmp 1) 2), none⟩,
    ⟨(some 11), .op (.load 1 false (.tmp 10)), none⟩,
    ⟨(some 12), .op (.faddr (.tmp 3) 2), none⟩,
    ⟨none, .op (.store 1 (.tmp 12) (.tmp 11)), none⟩]) (.kill [10, 11, 12]))
  (.seq (.post (.reg [⟨(some 13), .op (.faddr (.tmp 1) 3), none⟩,
    ⟨(some 14), .op (.load 1 false (.tmp 13)), none⟩,
    ⟨(some 15), .op (.faddr (.tmp 3) 3), none⟩,
    ⟨none, .op (.store 1 (.tmp 15) (.tmp 14)), none⟩]) (.kill [1, 13, 14, 15]))
  (.seq (.post (.reg [⟨(some 16), .op (.load 4 true (.tmp 3)), none⟩,
    ⟨none, .op (.store 4 (.tmp 2) (.tmp 16)), none⟩]) (.kill [3, 16]))
  .ret)))))))
theorem cf_laws_toTreeEdit : chkFn Try.prog i_laws_toTreeEdit ac_laws_toTreeEdit [.cell 2 4 true] 17 = true := by decide +kernel
def fa_laws_toTreeEdit : FnA := ⟨ac_laws_toTreeEdit, [.cell 2 4 true], 17, false, true, [], .any⟩

/-- The checked code of laws toTreeEditS. -/
def lb_laws_toTreeEditS_0 : AC := (.post (.seq (.seq (.post (.reg [⟨(some 8), .op (.mv (.tmp 4)), none⟩,
    ⟨(some 9), .op (.mv (.tmp 0)), none⟩,
    ⟨(some 10), .op (.len false (.tmp 9)), none⟩,
    ⟨(some 11), .op (.bin .lss (.tmp 8) (.tmp 10)), none⟩]) (.kill [8, 9, 10]))
  (.cond (.tmp 11) (.ghost (.kill [11]) .skip)
  (.ghost (.kill [0, 4, 11]) (.exit 0))))
  (.seq (.block 1 (.post (.reg [⟨(some 14), .op (.mv (.tmp 3)), none⟩,
    ⟨(some 15), .op (.mv (.tmp 4)), none⟩,
    ⟨(some 16), .op (.mv (.tmp 0)), none⟩,
    ⟨(some 17), .op (.mv (.tmp 4)), none⟩,
    ⟨(some 18), .op (.iaddrS (.tmp 16) (.tmp 17) 4), none⟩,
    ⟨(some 19), .op (.load 4 true (.tmp 18)), none⟩,
    ⟨(some 20), .call (.func i_laws_toTreeEdit) [(.tmp 19)], none⟩,
    ⟨(some 21), .op (.iaddrS (.tmp 14) (.tmp 15) 4), none⟩,
    ⟨none, .op (.store 4 (.tmp 21) (.tmp 20)), none⟩]) (.kill [14, 15, 16, 17, 18, 19, 20, 21])))
  (.post (.reg [⟨(some 12), .op (.mv (.tmp 4)), none⟩,
    ⟨(some 13), .op (.bin .add (.tmp 12) (.const (Value.int .i64 1))), none⟩,
    ⟨(some 4), .op (.mv (.tmp 13)), none⟩]) (.kill [12, 13])))) .nv)
def lo_laws_toTreeEditS_0 : AC := (.loop lb_laws_toTreeEditS_0)
def ac_laws_toTreeEditS : AC := (.seq (.post (.reg [⟨(some 2), .op (.mv (.const (Value.slice none 0 0))), none⟩]) (.kill [2]))
  (.seq (.post (.reg [⟨(some 5), .op (.mv (.tmp 0)), none⟩,
    ⟨(some 6), .op (.len false (.tmp 5)), none⟩,
    ⟨(some 7), .op (.make (.tmp 6) (.tmp 6) 4 40 (Value.agg #[Value.int .i64 0, Value.int .i64 0, Value.int .i64 0, Value.string ⟨#[]⟩])), none⟩,
    ⟨(some 3), .op (.mv (.tmp 7)), none⟩]) (.kill [5, 6, 7]))
  (.seq (.seq (.reg [⟨(some 4), .op (.mv (.const (Value.int .i64 0))), none⟩])
  (.post (.block 0 (.ghost .nv lo_laws_toTreeEditS_0)) .nv))
  (.ghost (.kill [0, 4]) (.seq (.post (.reg [⟨(some 22), .op (.mv (.tmp 3)), none⟩,
    ⟨(some 2), .op (.mv (.tmp 22)), none⟩]) (.kill [3, 22]))
  .ret)))))
theorem cf_laws_toTreeEditS : chkFn Try.prog i_laws_toTreeEditS ac_laws_toTreeEditS [.tmp 2] 23 = true := by decide +kernel
def fa_laws_toTreeEditS : FnA := ⟨ac_laws_toTreeEditS, [.tmp 2], 23, false, true, [], .any⟩

/-- The checked code of impl TreeEdit . -/
def lb_slices_IndexFunc_L_impl_TreeEdit_0 : AC := (.seq (.reg [⟨(some 9), .op (.bin .lss (.tmp 8) (.tmp 7)), none⟩])
  (.seq (.cond (.tmp 9) (.ghost (.kill [9]) .skip)
  (.ghost (.kill [0, 1, 7, 8, 9]) (.exit 0)))
  (.seq (.block 1 (.seq (.post (.reg [⟨(some 10), .op (.mv (.tmp 8)), none⟩,
    ⟨(some 5), .op (.mv (.tmp 10)), none⟩]) (.kill [10]))
  (.seq (.post (.reg [⟨(some 11), .op (.mv (.tmp 1)), none⟩,
    ⟨(some 12), .op (.mv (.tmp 0)), none⟩,
    ⟨(some 13), .op (.mv (.tmp 5)), none⟩,
    ⟨(some 14), .op (.iaddrS (.tmp 12) (.tmp 13) 4), none⟩,
    ⟨(some 15), .op (.load 4 true (.tmp 14)), none⟩,
    ⟨(some 16), .call (.tmp 11) [(.tmp 15)], none⟩]) (.kill [11, 12, 13, 14, 15]))
  (.cond (.tmp 16) (.ghost (.kill [0, 1, 7, 8, 16]) (.seq (.post (.reg [⟨(some 17), .op (.mv (.tmp 5)), none⟩,
    ⟨(some 4), .op (.mv (.tmp 17)), none⟩]) (.kill [5, 17]))
  .ret))
  (.ghost (.kill [5, 16]) .skip)))))
  (.post (.reg [⟨(some 18), .op (.bin .add (.tmp 8) (.const (Value.int .i64 1))), none⟩,
    ⟨(some 8), .op (.mv (.tmp 18)), none⟩]) (.kill [18])))))
def lo_slices_IndexFunc_L_impl_TreeEdit_0 : AC := (.loop lb_slices_IndexFunc_L_impl_TreeEdit_0)
def ac_slices_IndexFunc_L_impl_TreeEdit : AC := (.seq (.post (.reg [⟨(some 4), .op (.mv (.const (Value.int .i64 0))), none⟩]) (.kill [4]))
  (.seq (.seq (.post (.reg [⟨(some 6), .op (.mv (.tmp 0)), none⟩,
    ⟨(some 7), .op (.len false (.tmp 6)), none⟩,
    ⟨(some 8), .op (.mv (.const (Value.int .i64 0))), none⟩]) (.kill [6]))
  (.block 0 lo_slices_IndexFunc_L_impl_TreeEdit_0))
  (.ghost (.kill [0, 1, 7, 8]) (.seq (.reg [⟨(some 4), .op (.mv (.const (Value.int .i64 (-1)))), none⟩])
  .ret))))
theorem cf_slices_IndexFunc_L_impl_TreeEdit : chkFn Try.prog i_slices_IndexFunc_L_impl_TreeEdit ac_slices_IndexFunc_L_impl_TreeEdit [.tmp 4] 19 = true := by decide +kernel
def fa_slices_IndexFunc_L_impl_TreeEdit : FnA := ⟨ac_slices_IndexFunc_L_impl_TreeEdit, [.tmp 4], 19, false, true, [], .any⟩

/-- The checked code of impl TreeEdit . -/
def ac_slices_ContainsFunc_L_impl_TreeEdit : AC := (.seq (.post (.reg [⟨(some 4), .op (.mv (.const (Value.bool false))), none⟩]) (.kill [4]))
  (.seq (.post (.reg [⟨(some 5), .op (.mv (.tmp 0)), none⟩,
    ⟨(some 6), .op (.mv (.tmp 1)), none⟩,
    ⟨(some 7), .call (.func i_slices_IndexFunc_L_impl_TreeEdit) [(.tmp 5), (.tmp 6)], none⟩,
    ⟨(some 8), .op (.bin .geq (.tmp 7) (.const (Value.int .i64 0))), none⟩,
    ⟨(some 4), .op (.mv (.tmp 8)), none⟩]) (.kill [0, 1, 5, 6, 7, 8]))
  .ret))
theorem cf_slices_ContainsFunc_L_impl_TreeEdit : chkFn Try.prog i_slices_ContainsFunc_L_impl_TreeEdit ac_slices_ContainsFunc_L_impl_TreeEdit [.tmp 4] 9 = true := by decide +kernel
def fa_slices_ContainsFunc_L_impl_TreeEdit : FnA := ⟨ac_slices_ContainsFunc_L_impl_TreeEdit, [.tmp 4], 9, false, true, [], .any⟩

/-- The checked code of impl treeFormOf. -/
def ac_impl_treeFormOf : AC := (.seq (.post (.reg [⟨(some 2), .op (.alloc (Value.agg #[Value.string ⟨#[]⟩, Value.bool false, Value.bool false])), none⟩,
    ⟨(some 3), .op (.mv (.const (Value.bool false))), none⟩]) (.kill [3]))
  (.seq (.seq (.post (.reg [⟨(some 4), .op (.mv (.tmp 0)), none⟩]) (.kill [0]))
  (.block 0 (.seq (.post (.reg [⟨(some 6), .op (.bin .eql (.tmp 4) (.const (Value.int .i64 1))), none⟩,
    ⟨(some 5), .op (.mv (.tmp 6)), none⟩]) (.kill [6]))
  (.cond (.tmp 5) (.ghost (.kill [4, 5]) (.seq (.post (.reg [⟨(some 7), .op (.build [Value.string ⟨#[]⟩, Value.bool false, Value.bool false] [(0, 1, (.const (Value.string ⟨#[112, 117, 116]⟩))), (1, 1, (.const (Value.bool false))), (2, 1, (.const (Value.bool true)))]), none⟩,
    ⟨none, .op (.store 3 (.tmp 2) (.tmp 7)), none⟩,
    ⟨(some 3), .op (.mv (.const (Value.bool true))), none⟩]) (.kill [7]))
  .ret))
  (.ghost (.kill [5]) (.seq (.post (.reg [⟨(some 9), .op (.bin .eql (.tmp 4) (.const (Value.int .i64 2))), none⟩,
    ⟨(some 8), .op (.mv (.tmp 9)), none⟩]) (.kill [9]))
  (.cond (.tmp 8) (.ghost (.kill [4, 8]) (.seq (.post (.reg [⟨(some 10), .op (.build [Value.string ⟨#[]⟩, Value.bool false, Value.bool false] [(0, 1, (.const (Value.string ⟨#[99, 117, 116]⟩))), (1, 1, (.const (Value.bool false))), (2, 1, (.const (Value.bool false)))]), none⟩,
    ⟨none, .op (.store 3 (.tmp 2) (.tmp 10)), none⟩,
    ⟨(some 3), .op (.mv (.const (Value.bool true))), none⟩]) (.kill [10]))
  .ret))
  (.ghost (.kill [8]) (.seq (.post (.reg [⟨(some 12), .op (.bin .eql (.tmp 4) (.const (Value.int .i64 3))), none⟩,
    ⟨(some 11), .op (.mv (.tmp 12)), none⟩]) (.kill [12]))
  (.cond (.tmp 11) (.ghost (.kill [4, 11]) (.seq (.post (.reg [⟨(some 13), .op (.build [Value.string ⟨#[]⟩, Value.bool false, Value.bool false] [(0, 1, (.const (Value.string ⟨#[111, 112, 101, 110]⟩))), (1, 1, (.const (Value.bool false))), (2, 1, (.const (Value.bool false)))]), none⟩,
    ⟨none, .op (.store 3 (.tmp 2) (.tmp 13)), none⟩,
    ⟨(some 3), .op (.mv (.const (Value.bool true))), none⟩]) (.kill [13]))
  .ret))
  (.ghost (.kill [11]) (.seq (.post (.reg [⟨(some 15), .op (.bin .eql (.tmp 4) (.const (Value.int .i64 4))), none⟩,
    ⟨(some 14), .op (.mv (.tmp 15)), none⟩]) (.kill [15]))
  (.cond (.tmp 14) (.ghost (.kill [4, 14]) (.seq (.post (.reg [⟨(some 16), .op (.build [Value.string ⟨#[]⟩, Value.bool false, Value.bool false] [(0, 1, (.const (Value.string ⟨#[119, 114, 97, 112]⟩))), (1, 1, (.const (Value.bool true))), (2, 1, (.const (Value.bool true)))]), none⟩,
    ⟨none, .op (.store 3 (.tmp 2) (.tmp 16)), none⟩,
    ⟨(some 3), .op (.mv (.const (Value.bool true))), none⟩]) (.kill [16]))
  .ret))
  (.ghost (.kill [14]) (.seq (.post (.reg [⟨(some 18), .op (.bin .eql (.tmp 4) (.const (Value.int .i64 5))), none⟩,
    ⟨(some 17), .op (.mv (.tmp 18)), none⟩]) (.kill [4, 18]))
  (.cond (.tmp 17) (.ghost (.kill [17]) (.seq (.post (.reg [⟨(some 19), .op (.build [Value.string ⟨#[]⟩, Value.bool false, Value.bool false] [(0, 1, (.const (Value.string ⟨#[110, 97, 109, 101]⟩))), (1, 1, (.const (Value.bool false))), (2, 1, (.const (Value.bool true)))]), none⟩,
    ⟨none, .op (.store 3 (.tmp 2) (.tmp 19)), none⟩,
    ⟨(some 3), .op (.mv (.const (Value.bool true))), none⟩]) (.kill [19]))
  .ret))
  (.ghost (.kill [17]) .skip)))))))))))))))))
  (.seq (.post (.reg [⟨(some 20), .op (.build [Value.string ⟨#[]⟩, Value.bool false, Value.bool false] []), none⟩,
    ⟨none, .op (.store 3 (.tmp 2) (.tmp 20)), none⟩,
    ⟨(some 3), .op (.mv (.const (Value.bool false))), none⟩]) (.kill [20]))
  .ret)))
theorem cf_impl_treeFormOf : chkFn Try.prog i_impl_treeFormOf ac_impl_treeFormOf [.cell 2 3 true, .tmp 3] 21 = true := by decide +kernel
def fa_impl_treeFormOf : FnA := ⟨ac_impl_treeFormOf, [.cell 2 3 true, .tmp 3], 21, false, true, [], .any⟩

/-- The checked code of impl isCall. -/
def ac_impl_isCall : AC := (.seq (.post (.reg [⟨(some 2), .op (.mv (.const (Value.bool false))), none⟩]) (.kill [2]))
  (.seq (.post (.reg [⟨(some 3), .op (.mv (.tmp 0)), none⟩,
    ⟨(some 4), .op (.bin .eql (.tmp 3) (.const (Value.int .u8 40))), none⟩,
    ⟨(some 5), .op (.mv (.tmp 4)), none⟩,
    ⟨(some 6), .op (.mv (.tmp 0)), some (5, false)⟩,
    ⟨(some 7), .op (.bin .eql (.tmp 6) (.const (Value.int .u8 91))), some (5, false)⟩,
    ⟨(some 8), .op (.pick (.tmp 5) (.const (Value.bool true)) (.tmp 7)), none⟩,
    ⟨(some 2), .op (.mv (.tmp 8)), none⟩]) (.kill [0, 3, 4, 5, 6, 7, 8]))
  .ret))
theorem cf_impl_isCall : chkFn Try.prog i_impl_isCall ac_impl_isCall [.tmp 2] 9 = true := by decide +kernel
def fa_impl_isCall : FnA := ⟨ac_impl_isCall, [.tmp 2], 9, false, true, [], .any⟩

/-- The checked code of impl size int64 . -/
def ac_impl_size_int64 : AC := (.seq (.post (.reg [⟨(some 2), .op (.mv (.const (Value.int .i64 0))), none⟩]) (.kill [2]))
  (.seq (.post (.reg [⟨(some 3), .op (.mv (.tmp 0)), none⟩,
    ⟨(some 4), .op (.len false (.tmp 3)), none⟩,
    ⟨(some 2), .op (.mv (.tmp 4)), none⟩]) (.kill [0, 3, 4]))
  .ret))
theorem cf_impl_size_int64 : chkFn Try.prog i_impl_size_int64 ac_impl_size_int64 [.tmp 2] 5 = true := by decide +kernel
def fa_impl_size_int64 : FnA := ⟨ac_impl_size_int64, [.tmp 2], 5, false, true, [], .any⟩

/-- The checked code of impl isReturn. -/
def ac_impl_isReturn : AC := (.seq (.post (.reg [⟨(some 2), .op (.mv (.const (Value.bool false))), none⟩]) (.kill [2]))
  (.seq (.post (.reg [⟨(some 3), .op (.mv (.tmp 0)), none⟩,
    ⟨(some 4), .op (.bin .eql (.tmp 3) (.const (Value.int .u8 41))), none⟩,
    ⟨(some 5), .op (.mv (.tmp 4)), none⟩,
    ⟨(some 6), .op (.mv (.tmp 0)), some (5, false)⟩,
    ⟨(some 7), .op (.bin .eql (.tmp 6) (.const (Value.int .u8 93))), some (5, false)⟩,
    ⟨(some 8), .op (.pick (.tmp 5) (.const (Value.bool true)) (.tmp 7)), none⟩,
    ⟨(some 2), .op (.mv (.tmp 8)), none⟩]) (.kill [0, 3, 4, 5, 6, 7, 8]))
  .ret))
theorem cf_impl_isReturn : chkFn Try.prog i_impl_isReturn ac_impl_isReturn [.tmp 2] 9 = true := by decide +kernel
def fa_impl_isReturn : FnA := ⟨ac_impl_isReturn, [.tmp 2], 9, false, true, [], .any⟩

/-- The checked code of impl match. -/
def lb_impl_match_0 : AC := (.post (.seq (.reg [⟨(some 15), .op (.bin .lss (.tmp 14) (.tmp 13)), none⟩])
  (.seq (.cond (.tmp 15) (.ghost (.kill [15]) .skip)
  (.ghost (.kill [0, 13, 14, 15]) (.exit 0)))
  (.seq (.block 1 (.seq (.post (.reg [⟨(some 16), .op (.mv (.tmp 14)), none⟩,
    ⟨(some 4), .op (.mv (.tmp 16)), none⟩]) (.kill [16]))
  (.seq (.post (.reg [⟨(some 17), .op (.mv (.tmp 4)), none⟩,
    ⟨(some 5), .op (.mv (.tmp 17)), none⟩,
    ⟨(some 6), .op (.mv (.const (Value.int .i64 (-1)))), none⟩]) (.kill [17]))
  (.seq (.post (.reg [⟨(some 18), .op (.faddr (.tmp 3) 2), none⟩,
    ⟨(some 19), .op (.load 1 false (.tmp 18)), none⟩,
    ⟨(some 20), .op (.len false (.tmp 19)), none⟩,
    ⟨(some 7), .op (.mv (.tmp 20)), none⟩]) (.kill [18, 19, 20]))
  (.seq (.block 2 (.seq (.post (.reg [⟨(some 22), .op (.mv (.tmp 0)), none⟩,
    ⟨(some 23), .op (.mv (.tmp 4)), none⟩,
    ⟨(some 24), .op (.idxStr (.tmp 22) (.tmp 23)), none⟩,
    ⟨(some 25), .call (.func i_impl_isReturn) [(.tmp 24)], none⟩,
    ⟨(some 26), .op (.mv (.tmp 25)), none⟩,
    ⟨(some 27), .op (.mv (.tmp 7)), some (26, true)⟩,
    ⟨(some 28), .op (.bin .eql (.tmp 27) (.const (Value.int .i64 0))), some (26, true)⟩,
    ⟨(some 29), .op (.pick (.tmp 26) (.tmp 28) (.const (Value.bool false))), none⟩,
    ⟨(some 21), .op (.mv (.tmp 29)), none⟩]) (.kill [22, 23, 24, 25, 26, 27, 28, 29]))
  (.cond (.tmp 21) (.ghost (.kill [6, 7, 21]) (.seq (.reg [⟨(some 6), .op (.mv (.const (Value.int .i64 (-2)))), none⟩])
  (.post (.post (.reg [⟨(some 30), .op (.faddr (.tmp 3) 1), none⟩,
    ⟨(some 31), .op (.load 1 false (.tmp 30)), none⟩,
    ⟨(some 32), .op (.mv (.tmp 5)), none⟩,
    ⟨(some 33), .op (.lits true 1 1 (Value.int .i64 0) [(0, (.tmp 32))]), none⟩,
    ⟨(some 34), .op (.append (.tmp 31) (.tmp 33) 1 8), none⟩,
    ⟨(some 35), .op (.faddr (.tmp 3) 1), none⟩,
    ⟨none, .op (.store 1 (.tmp 35) (.tmp 34)), none⟩]) (.kill [30, 31, 32, 33, 34, 35])) .nv)))
  (.ghost (.kill [21]) (.seq (.post (.reg [⟨(some 37), .op (.mv (.tmp 0)), none⟩,
    ⟨(some 38), .op (.mv (.tmp 4)), none⟩,
    ⟨(some 39), .op (.idxStr (.tmp 37) (.tmp 38)), none⟩,
    ⟨(some 40), .call (.func i_impl_isReturn) [(.tmp 39)], none⟩,
    ⟨(some 36), .op (.mv (.tmp 40)), none⟩]) (.kill [37, 38, 39, 40]))
  (.cond (.tmp 36) (.ghost (.kill [6, 36]) (.seq (.post (.reg [⟨(some 41), .op (.faddr (.tmp 3) 2), none⟩,
    ⟨(some 42), .op (.load 1 false (.tmp 41)), none⟩,
    ⟨(some 43), .op (.mv (.tmp 7)), none⟩,
    ⟨(some 44), .op (.bin .sub (.tmp 43) (.const (Value.int .i64 1))), none⟩,
    ⟨(some 45), .op (.iaddrS (.tmp 42) (.tmp 44) 1), none⟩,
    ⟨(some 46), .op (.load 1 false (.tmp 45)), none⟩,
    ⟨(some 6), .op (.mv (.tmp 46)), none⟩]) (.kill [41, 42, 43, 44, 45, 46]))
  (.seq (.post (.reg [⟨(some 47), .op (.faddr (.tmp 3) 0), none⟩,
    ⟨(some 48), .op (.load 1 false (.tmp 47)), none⟩,
    ⟨(some 49), .op (.mv (.tmp 6)), none⟩,
    ⟨(some 50), .op (.mv (.tmp 5)), none⟩,
    ⟨(some 51), .op (.iaddrS (.tmp 48) (.tmp 49) 1), none⟩,
    ⟨none, .op (.store 1 (.tmp 51) (.tmp 50)), none⟩]) (.kill [47, 48, 49, 50, 51]))
  (.post (.post (.reg [⟨(some 52), .op (.faddr (.tmp 3) 2), none⟩,
    ⟨(some 53), .op (.load 1 false (.tmp 52)), none⟩,
    ⟨(some 54), .op (.mv (.tmp 7)), none⟩,
    ⟨(some 55), .op (.bin .sub (.tmp 54) (.const (Value.int .i64 1))), none⟩,
    ⟨(some 56), .op (.slcS (.tmp 53) none (some (.tmp 55)) none 1), none⟩,
    ⟨(some 57), .op (.faddr (.tmp 3) 2), none⟩,
    ⟨none, .op (.store 1 (.tmp 57) (.tmp 56)), none⟩]) (.kill [7, 52, 53, 54, 55, 56, 57])) .nv))))
  (.ghost (.kill [7, 36]) .skip)))))))
  (.seq (.reg [⟨(some 8), .op (.mv (.const (Value.int .i64 (-1)))), none⟩])
  (.seq (.seq (.post (.reg [⟨(some 58), .op (.faddr (.tmp 3) 2), none⟩,
    ⟨(some 59), .op (.load 1 false (.tmp 58)), none⟩,
    ⟨(some 60), .op (.len false (.tmp 59)), none⟩,
    ⟨(some 9), .op (.mv (.tmp 60)), none⟩]) (.kill [58, 59, 60]))
  (.seq (.post (.reg [⟨(some 61), .op (.mv (.tmp 9)), none⟩,
    ⟨(some 62), .op (.bin .gtr (.tmp 61) (.const (Value.int .i64 0))), none⟩]) (.kill [61]))
  (.cond (.tmp 62) (.ghost (.kill [8, 62]) (.post (.reg [⟨(some 63), .op (.faddr (.tmp 3) 2), none⟩,
    ⟨(some 64), .op (.load 1 false (.tmp 63)), none⟩,
    ⟨(some 65), .op (.mv (.tmp 9)), none⟩,
    ⟨(some 66), .op (.bin .sub (.tmp 65) (.const (Value.int .i64 1))), none⟩,
    ⟨(some 67), .op (.iaddrS (.tmp 64) (.tmp 66) 1), none⟩,
    ⟨(some 68), .op (.load 1 false (.tmp 67)), none⟩,
    ⟨(some 8), .op (.mv (.tmp 68)), none⟩]) (.kill [9, 63, 64, 65, 66, 67, 68])))
  (.ghost (.kill [9, 62]) .skip))))
  (.seq (.seq (.post (.reg [⟨(some 69), .op (.mv (.tmp 0)), none⟩,
    ⟨(some 70), .op (.mv (.tmp 4)), none⟩,
    ⟨(some 71), .op (.idxStr (.tmp 69) (.tmp 70)), none⟩,
    ⟨(some 72), .call (.func i_impl_isCall) [(.tmp 71)], none⟩]) (.kill [4, 69, 70, 71]))
  (.cond (.tmp 72) (.ghost (.kill [6, 72]) (.seq (.reg [⟨(some 6), .op (.mv (.const (Value.int .i64 (-2)))), none⟩])
  (.post (.post (.reg [⟨(some 73), .op (.faddr (.tmp 3) 2), none⟩,
    ⟨(some 74), .op (.load 1 false (.tmp 73)), none⟩,
    ⟨(some 75), .op (.mv (.tmp 5)), none⟩,
    ⟨(some 76), .op (.lits true 1 1 (Value.int .i64 0) [(0, (.tmp 75))]), none⟩,
    ⟨(some 77), .op (.append (.tmp 74) (.tmp 76) 1 8), none⟩,
    ⟨(some 78), .op (.faddr (.tmp 3) 2), none⟩,
    ⟨none, .op (.store 1 (.tmp 78) (.tmp 77)), none⟩]) (.kill [5, 73, 74, 75, 76, 77, 78])) .nv)))
  (.ghost (.kill [5, 72]) .skip)))
  (.seq (.post (.post (.draw [⟨0, ⟨(some 79), .op (.faddr (.tmp 3) 0), none⟩, []⟩,
    ⟨1, ⟨(some 80), .op (.load 1 false (.tmp 79)), none⟩, []⟩,
    ⟨2, ⟨(some 81), .op (.mv (.tmp 6)), none⟩, []⟩,
    ⟨3, ⟨(some 82), .op (.lits true 1 1 (Value.int .i64 0) [(0, (.tmp 81))]), none⟩, []⟩,
    ⟨5, ⟨(some 84), .op (.faddr (.tmp 3) 4), none⟩, []⟩,
    ⟨6, ⟨(some 85), .op (.load 1 false (.tmp 84)), none⟩, []⟩,
    ⟨7, ⟨(some 86), .op (.mv (.tmp 8)), none⟩, []⟩,
    ⟨8, ⟨(some 87), .op (.lits true 1 1 (Value.int .i64 0) [(0, (.tmp 86))]), none⟩, []⟩,
    ⟨4, ⟨(some 83), .op (.append (.tmp 80) (.tmp 82) 1 8), none⟩, [6]⟩,
    ⟨10, ⟨(some 89), .op (.faddr (.tmp 3) 0), none⟩, []⟩,
    ⟨9, ⟨(some 88), .op (.append (.tmp 85) (.tmp 87) 1 8), none⟩, []⟩,
    ⟨11, ⟨none, .op (.store 1 (.tmp 89) (.tmp 83)), none⟩, []⟩,
    ⟨12, ⟨(some 90), .op (.faddr (.tmp 3) 4), none⟩, []⟩,
    ⟨13, ⟨none, .op (.store 1 (.tmp 90) (.tmp 88)), none⟩, []⟩]
    [0, 1, 0, 4, 15, 0, 32, 0, 128, 511, 127, 2047, 4095, 8191]) (.kill [6, 8, 79, 80, 81, 82, 83, 84, 85, 86, 87, 88, 89, 90])) .nv)
  (.post (.post (.draw [⟨0, ⟨(some 91), .op (.faddr (.tmp 3) 3), none⟩, []⟩,
    ⟨1, ⟨(some 92), .op (.load 1 false (.tmp 91)), none⟩, []⟩,
    ⟨2, ⟨(some 93), .op (.faddr (.tmp 3) 2), none⟩, []⟩,
    ⟨3, ⟨(some 94), .op (.load 1 false (.tmp 93)), none⟩, []⟩,
    ⟨4, ⟨(some 95), .call (.func i_impl_size_int64) [(.tmp 94)], none⟩, [1]⟩,
    ⟨5, ⟨(some 96), .op (.lits true 1 1 (Value.int .i64 0) [(0, (.tmp 95))]), none⟩, []⟩,
    ⟨6, ⟨(some 97), .op (.append (.tmp 92) (.tmp 96) 1 8), none⟩, []⟩,
    ⟨7, ⟨(some 98), .op (.faddr (.tmp 3) 3), none⟩, []⟩,
    ⟨8, ⟨none, .op (.store 1 (.tmp 98) (.tmp 97)), none⟩, []⟩]
    [0, 1, 0, 4, 12, 28, 63, 127, 255]) (.kill [91, 92, 93, 94, 95, 96, 97, 98])) .nv))))))))))
  (.post (.reg [⟨(some 99), .op (.bin .add (.tmp 14) (.const (Value.int .i64 1))), none⟩,
    ⟨(some 14), .op (.mv (.tmp 99)), none⟩]) (.kill [99]))))) .nv)
def lo_impl_match_0 : AC := (.loop lb_impl_match_0)
def ac_impl_match : AC := (.seq (.reg [⟨(some 2), .op (.alloc (Value.agg #[Value.slice none 0 0, Value.slice none 0 0, Value.slice none 0 0, Value.slice none 0 0, Value.slice none 0 0])), none⟩])
  (.seq (.post (.reg [⟨(some 10), .op (.lits false 1 1 (Value.int .i64 0) [(0, (.const (Value.int .i64 0)))]), none⟩,
    ⟨(some 11), .op (.build [Value.slice none 0 0, Value.slice none 0 0, Value.slice none 0 0, Value.slice none 0 0, Value.slice none 0 0] [(3, 1, (.tmp 10))]), none⟩,
    ⟨(some 3), .op (.alloc (Value.agg #[Value.slice none 0 0, Value.slice none 0 0, Value.slice none 0 0, Value.slice none 0 0, Value.slice none 0 0])), none⟩,
    ⟨none, .op (.store 5 (.tmp 3) (.tmp 11)), none⟩]) (.kill [10, 11]))
  (.seq (.seq (.post (.reg [⟨(some 12), .op (.mv (.tmp 0)), none⟩,
    ⟨(some 13), .op (.len true (.tmp 12)), none⟩,
    ⟨(some 14), .op (.mv (.const (Value.int .i64 0))), none⟩]) (.kill [12]))
  (.post (.block 0 (.ghost (.ow 3 (some 0) 1) (.ghost (.ow 3 (some 1) 1) (.ghost (.ow 3 (some 2) 1) (.ghost (.ow 3 (some 3) 1) (.ghost (.ow 3 (some 4) 1) (.ghost .nv lo_impl_match_0))))))) .nv))
  (.ghost (.kill [0, 13, 14]) (.seq (.post (.reg [⟨(some 100), .op (.load 5 true (.tmp 3)), none⟩,
    ⟨none, .op (.store 5 (.tmp 2) (.tmp 100)), none⟩]) (.kill [3, 100]))
  .ret)))))
theorem cf_impl_match : chkFn Try.prog i_impl_match ac_impl_match [.cell 2 5 true] 101 = true := by decide +kernel
def fa_impl_match : FnA := ⟨ac_impl_match, [.cell 2 5 true], 101, false, true, [], .any⟩

/-- The checked code of impl isMatched. -/
def ac_impl_isMatched : AC := (.seq (.post (.reg [⟨(some 2), .op (.mv (.const (Value.bool false))), none⟩]) (.kill [2]))
  (.seq (.post (.reg [⟨(some 4), .op (.mv (.tmp 0)), none⟩,
    ⟨(some 5), .call (.func i_impl_match) [(.tmp 4)], none⟩,
    ⟨(some 3), .op (.alloc (Value.agg #[Value.slice none 0 0, Value.slice none 0 0, Value.slice none 0 0, Value.slice none 0 0, Value.slice none 0 0])), none⟩,
    ⟨none, .op (.store 5 (.tmp 3) (.tmp 5)), none⟩]) (.kill [0, 4, 5]))
  (.seq (.post (.reg [⟨(some 6), .op (.faddr (.tmp 3) 1), none⟩,
    ⟨(some 7), .op (.load 1 false (.tmp 6)), none⟩,
    ⟨(some 8), .op (.len false (.tmp 7)), none⟩,
    ⟨(some 9), .op (.faddr (.tmp 3) 2), none⟩,
    ⟨(some 10), .op (.load 1 false (.tmp 9)), none⟩,
    ⟨(some 11), .op (.len false (.tmp 10)), none⟩,
    ⟨(some 12), .op (.bin .add (.tmp 8) (.tmp 11)), none⟩,
    ⟨(some 13), .op (.bin .eql (.tmp 12) (.const (Value.int .i64 0))), none⟩,
    ⟨(some 2), .op (.mv (.tmp 13)), none⟩]) (.kill [3, 6, 7, 8, 9, 10, 11, 12, 13]))
  .ret)))
theorem cf_impl_isMatched : chkFn Try.prog i_impl_isMatched ac_impl_isMatched [.tmp 2] 14 = true := by decide +kernel
def fa_impl_isMatched : FnA := ⟨ac_impl_isMatched, [.tmp 2], 14, false, true, [], .any⟩

/-- The checked code of impl isBrackets. -/
def ac_impl_isBrackets : AC := (.seq (.post (.reg [⟨(some 2), .op (.mv (.const (Value.bool false))), none⟩]) (.kill [2]))
  (.seq (.post (.reg [⟨(some 3), .op (.mv (.tmp 0)), none⟩,
    ⟨(some 4), .op (.len true (.tmp 3)), none⟩,
    ⟨(some 5), .op (.bin .eql (.tmp 4) (.const (Value.int .i64 2))), none⟩,
    ⟨(some 6), .op (.mv (.tmp 5)), none⟩,
    ⟨(some 7), .op (.mv (.tmp 0)), some (6, true)⟩,
    ⟨(some 8), .op (.idxStr (.tmp 7) (.const (Value.int .i64 0))), some (6, true)⟩,
    ⟨(some 9), .call (.func i_impl_isCall) [(.tmp 8)], some (6, true)⟩,
    ⟨(some 10), .op (.pick (.tmp 6) (.tmp 9) (.const (Value.bool false))), none⟩,
    ⟨(some 11), .op (.mv (.tmp 10)), none⟩,
    ⟨(some 12), .op (.mv (.tmp 0)), some (11, true)⟩,
    ⟨(some 13), .op (.idxStr (.tmp 12) (.const (Value.int .i64 1))), some (11, true)⟩,
    ⟨(some 14), .call (.func i_impl_isReturn) [(.tmp 13)], some (11, true)⟩,
    ⟨(some 15), .op (.pick (.tmp 11) (.tmp 14) (.const (Value.bool false))), none⟩,
    ⟨(some 2), .op (.mv (.tmp 15)), none⟩]) (.kill [0, 3, 4, 5, 6, 7, 8, 9, 10, 11, 12, 13, 14, 15]))
  .ret))
theorem cf_impl_isBrackets : chkFn Try.prog i_impl_isBrackets ac_impl_isBrackets [.tmp 2] 16 = true := by decide +kernel
def fa_impl_isBrackets : FnA := ⟨ac_impl_isBrackets, [.tmp 2], 16, false, true, [], .any⟩

end Go.Proofs.Ytlahdcofclkjjaa
