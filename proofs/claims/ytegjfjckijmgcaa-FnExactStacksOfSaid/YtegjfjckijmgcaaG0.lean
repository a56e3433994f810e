/- The code of the functions, checked against the loaded program; printed by a program (gen2.py). -/
import Derived.Test.YtegjfjckijmgcaaProg
import Derived.Test.YtegjfjckijmgcaaAw25
set_option linter.unusedVariables false
set_option maxRecDepth 100000
namespace Go.Proofs.Ytegjfjckijmgcaa
open Aw

/-! The numbers of the functions. -/
def i_laws_FnExactStacksOf : FuncId := 5
def i_laws_szChecker : FuncId := 15
def i_laws_toChecker : FuncId := 18
def i_laws_eqChecker : FuncId := 21
def i_laws_eqInt64S : FuncId := 24
def i_laws_markChecker : FuncId := 25
def i_laws_markInt64S : FuncId := 26
def i_laws_heldInt64S : FuncId := 27
def i_spec_StacksOf : FuncId := 28
def i_impl_StacksOf : FuncId := 29
def i_laws_eqInt64SS : FuncId := 30
def i_laws_markInt64SS : FuncId := 31
def i_laws_heldInt64SS : FuncId := 32
def i_laws_toInt64S : FuncId := 34
def i_laws_szBoolS : FuncId := 72
def i_laws_szPushSS : FuncId := 73
def i_laws_szInt64SSS : FuncId := 74
def i_laws_szInt64SS : FuncId := 75
def i_spec_l02Ok : FuncId := 76
def i_spec_l01Ok : FuncId := 77
def i_laws_toBoolS : FuncId := 80
def i_laws_toPushSS : FuncId := 81
def i_laws_toInt64SSS : FuncId := 82
def i_laws_toInt64SS : FuncId := 83
def i_impl_ValidChecker : FuncId := 84
def i_impl_ValidWord : FuncId := 85
def i_laws_eqBoolS : FuncId := 89
def i_laws_eqPushSS : FuncId := 90
def i_laws_eqInt64SSS : FuncId := 91
def i_spec_l02Given : FuncId := 92
def i_spec_l02Step : FuncId := 93
def i_impl_Checker_run : FuncId := 94
def i_slices_Clone_L_int64 : FuncId := 96
def i_laws_markBoolS : FuncId := 97
def i_laws_markPushSS : FuncId := 98
def i_laws_markInt64SSS : FuncId := 99
def i_spec_l00Own : FuncId := 100
def i_impl_StacksOf_1 : FuncId := 101
def i_spec_l00In : FuncId := 102
def i_spec_l02List : FuncId := 103
def i_impl_Checker_isState : FuncId := 105
def i_slices_ContainsFunc_L_int64 : FuncId := 106
def i_impl_Checker_isMark : FuncId := 108
def i_impl_isCall : FuncId := 121
def i_impl_isInner : FuncId := 123
def i_laws_szInt64S : FuncId := 135
def i_impl_size_bool : FuncId := 166
def i_laws_szPushS : FuncId := 174
def i_spec_l01Symbol : FuncId := 175
def i_laws_toPushS : FuncId := 177
def i_impl_within : FuncId := 178
def i_impl_size_L_impl_Push : FuncId := 179
def i_impl_size_L_L_int64 : FuncId := 180
def i_impl_size_L_int64 : FuncId := 181
def i_impl_ValidChecker_1 : FuncId := 182
def i_impl_size_int64 : FuncId := 183
def i_impl_ValidChecker_1_1 : FuncId := 184
def i_strings_IndexByte : FuncId := 185
def i_laws_eqPushS : FuncId := 187
def i_impl_Checker_step : FuncId := 188
def i_laws_markPushS : FuncId := 189
def i_slices_IndexFunc_L_int64 : FuncId := 190
def i_impl_kindOf : FuncId := 237
def i_laws_toPush : FuncId := 243
def i_internal_stringslite_IndexByte : FuncId := 244
def i_laws_eqPush : FuncId := 245
def i_internal_bytealg_IndexByteString : FuncId := 278

/-- The checked code of laws szBoolS. -/
def ac_laws_szBoolS : AC := (.seq (.post (.reg [⟨(some 4), .op (.mv (.const (Value.int .i64 0))), none⟩]) (.kill [4]))
  (.seq (.post (.reg [⟨(some 5), .op (.mv (.tmp 1)), none⟩,
    ⟨(some 6), .op (.mv (.tmp 0)), none⟩,
    ⟨(some 7), .op (.len false (.tmp 6)), none⟩,
    ⟨(some 8), .op (.bin .sub (.tmp 5) (.tmp 7)), none⟩,
    ⟨(some 1), .op (.mv (.tmp 8)), none⟩]) (.kill [0, 5, 6, 7, 8]))
  (.seq (.seq (.post (.reg [⟨(some 9), .op (.mv (.tmp 1)), none⟩,
    ⟨(some 10), .op (.bin .lss (.tmp 9) (.const (Value.int .i64 0))), none⟩]) (.kill [9]))
  (.cond (.tmp 10) (.ghost (.kill [1, 10]) (.seq (.reg [⟨(some 4), .op (.mv (.const (Value.int .i64 (-1)))), none⟩])
  .ret))
  (.ghost (.kill [10]) .skip)))
  (.seq (.post (.reg [⟨(some 11), .op (.mv (.tmp 1)), none⟩,
    ⟨(some 4), .op (.mv (.tmp 11)), none⟩]) (.kill [1, 11]))
  .ret))))
theorem cf_laws_szBoolS : chkFn Try.prog i_laws_szBoolS ac_laws_szBoolS [.tmp 4] 12 = true := by decide +kernel
def fa_laws_szBoolS : FnA := ⟨ac_laws_szBoolS, [.tmp 4], 12, false, true, [], .any, none⟩

/-- The checked code of laws szPushS. -/
def ac_laws_szPushS : AC := (.seq (.post (.reg [⟨(some 4), .op (.mv (.const (Value.int .i64 0))), none⟩]) (.kill [4]))
  (.seq (.post (.reg [⟨(some 5), .op (.mv (.tmp 1)), none⟩,
    ⟨(some 6), .op (.mv (.tmp 0)), none⟩,
    ⟨(some 7), .op (.len false (.tmp 6)), none⟩,
    ⟨(some 8), .op (.bin .sub (.tmp 5) (.tmp 7)), none⟩,
    ⟨(some 1), .op (.mv (.tmp 8)), none⟩]) (.kill [0, 5, 6, 7, 8]))
  (.seq (.seq (.post (.reg [⟨(some 9), .op (.mv (.tmp 1)), none⟩,
    ⟨(some 10), .op (.bin .lss (.tmp 9) (.const (Value.int .i64 0))), none⟩]) (.kill [9]))
  (.cond (.tmp 10) (.ghost (.kill [1, 10]) (.seq (.reg [⟨(some 4), .op (.mv (.const (Value.int .i64 (-1)))), none⟩])
  .ret))
  (.ghost (.kill [10]) .skip)))
  (.seq (.post (.reg [⟨(some 11), .op (.mv (.tmp 1)), none⟩,
    ⟨(some 4), .op (.mv (.tmp 11)), none⟩]) (.kill [1, 11]))
  .ret))))
theorem cf_laws_szPushS : chkFn Try.prog i_laws_szPushS ac_laws_szPushS [.tmp 4] 12 = true := by decide +kernel
def fa_laws_szPushS : FnA := ⟨ac_laws_szPushS, [.tmp 4], 12, false, true, [], .any, none⟩

/-- The checked code of laws szPushSS. -/
def lb_laws_szPushSS_0 : AC := (.seq (.seq (.post (.reg [⟨(some 12), .op (.mv (.tmp 5)), none⟩,
    ⟨(some 13), .op (.mv (.tmp 0)), none⟩,
    ⟨(some 14), .op (.len false (.tmp 13)), none⟩,
    ⟨(some 15), .op (.bin .lss (.tmp 12) (.tmp 14)), none⟩]) (.kill [12, 13, 14]))
  (.cond (.tmp 15) (.ghost (.kill [15]) .skip)
  (.ghost (.kill [0, 5, 15]) (.exit 0))))
  (.seq (.block 1 (.seq (.post (.reg [⟨(some 18), .op (.mv (.tmp 0)), none⟩,
    ⟨(some 19), .op (.mv (.tmp 5)), none⟩,
    ⟨(some 20), .op (.iaddrS (.tmp 18) (.tmp 19) 1), none⟩,
    ⟨(some 21), .op (.load 1 false (.tmp 20)), none⟩,
    ⟨(some 22), .op (.mv (.tmp 1)), none⟩,
    ⟨(some 23), .call (.func i_laws_szPushS) [(.tmp 21), (.tmp 22)], none⟩,
    ⟨(some 1), .op (.mv (.tmp 23)), none⟩]) (.kill [18, 19, 20, 21, 22, 23]))
  (.seq (.post (.reg [⟨(some 24), .op (.mv (.tmp 1)), none⟩,
    ⟨(some 25), .op (.bin .lss (.tmp 24) (.const (Value.int .i64 0))), none⟩]) (.kill [24]))
  (.cond (.tmp 25) (.ghost (.kill [0, 1, 5, 25]) (.seq (.reg [⟨(some 4), .op (.mv (.const (Value.int .i64 (-1)))), none⟩])
  .ret))
  (.ghost (.kill [25]) .skip)))))
  (.post (.reg [⟨(some 16), .op (.mv (.tmp 5)), none⟩,
    ⟨(some 17), .op (.bin .add (.tmp 16) (.const (Value.int .i64 1))), none⟩,
    ⟨(some 5), .op (.mv (.tmp 17)), none⟩]) (.kill [16, 17]))))
def lo_laws_szPushSS_0 : AC := (.loop lb_laws_szPushSS_0)
def ac_laws_szPushSS : AC := (.seq (.post (.reg [⟨(some 4), .op (.mv (.const (Value.int .i64 0))), none⟩]) (.kill [4]))
  (.seq (.post (.reg [⟨(some 6), .op (.mv (.tmp 1)), none⟩,
    ⟨(some 7), .op (.mv (.tmp 0)), none⟩,
    ⟨(some 8), .op (.len false (.tmp 7)), none⟩,
    ⟨(some 9), .op (.bin .sub (.tmp 6) (.tmp 8)), none⟩,
    ⟨(some 1), .op (.mv (.tmp 9)), none⟩]) (.kill [6, 7, 8, 9]))
  (.seq (.seq (.post (.reg [⟨(some 10), .op (.mv (.tmp 1)), none⟩,
    ⟨(some 11), .op (.bin .lss (.tmp 10) (.const (Value.int .i64 0))), none⟩]) (.kill [10]))
  (.cond (.tmp 11) (.ghost (.kill [0, 1, 11]) (.seq (.reg [⟨(some 4), .op (.mv (.const (Value.int .i64 (-1)))), none⟩])
  .ret))
  (.ghost (.kill [11]) .skip)))
  (.seq (.seq (.reg [⟨(some 5), .op (.mv (.const (Value.int .i64 0))), none⟩])
  (.block 0 lo_laws_szPushSS_0))
  (.ghost (.kill [0, 5]) (.seq (.post (.reg [⟨(some 26), .op (.mv (.tmp 1)), none⟩,
    ⟨(some 4), .op (.mv (.tmp 26)), none⟩]) (.kill [1, 26]))
  .ret))))))
theorem cf_laws_szPushSS : chkFn Try.prog i_laws_szPushSS ac_laws_szPushSS [.tmp 4] 27 = true := by decide +kernel
def fa_laws_szPushSS : FnA := ⟨ac_laws_szPushSS, [.tmp 4], 27, false, true, [], .any, none⟩

/-- The checked code of laws szInt64S. -/
def ac_laws_szInt64S : AC := (.seq (.post (.reg [⟨(some 4), .op (.mv (.const (Value.int .i64 0))), none⟩]) (.kill [4]))
  (.seq (.post (.reg [⟨(some 5), .op (.mv (.tmp 1)), none⟩,
    ⟨(some 6), .op (.mv (.tmp 0)), none⟩,
    ⟨(some 7), .op (.len false (.tmp 6)), none⟩,
    ⟨(some 8), .op (.bin .sub (.tmp 5) (.tmp 7)), none⟩,
    ⟨(some 1), .op (.mv (.tmp 8)), none⟩]) (.kill [0, 5, 6, 7, 8]))
  (.seq (.seq (.post (.reg [⟨(some 9), .op (.mv (.tmp 1)), none⟩,
    ⟨(some 10), .op (.bin .lss (.tmp 9) (.const (Value.int .i64 0))), none⟩]) (.kill [9]))
  (.cond (.tmp 10) (.ghost (.kill [1, 10]) (.seq (.reg [⟨(some 4), .op (.mv (.const (Value.int .i64 (-1)))), none⟩])
  .ret))
  (.ghost (.kill [10]) .skip)))
  (.seq (.post (.reg [⟨(some 11), .op (.mv (.tmp 1)), none⟩,
    ⟨(some 4), .op (.mv (.tmp 11)), none⟩]) (.kill [1, 11]))
  .ret))))
theorem cf_laws_szInt64S : chkFn Try.prog i_laws_szInt64S ac_laws_szInt64S [.tmp 4] 12 = true := by decide +kernel
def fa_laws_szInt64S : FnA := ⟨ac_laws_szInt64S, [.tmp 4], 12, false, true, [], .any, none⟩

/-- The checked code of laws szInt64SS. -/
def lb_laws_szInt64SS_0 : AC := (.seq (.seq (.post (.reg [⟨(some 12), .op (.mv (.tmp 5)), none⟩,
    ⟨(some 13), .op (.mv (.tmp 0)), none⟩,
    ⟨(some 14), .op (.len false (.tmp 13)), none⟩,
    ⟨(some 15), .op (.bin .lss (.tmp 12) (.tmp 14)), none⟩]) (.kill [12, 13, 14]))
  (.cond (.tmp 15) (.ghost (.kill [15]) .skip)
  (.ghost (.kill [0, 5, 15]) (.exit 0))))
  (.seq (.block 1 (.seq (.post (.reg [⟨(some 18), .op (.mv (.tmp 0)), none⟩,
    ⟨(some 19), .op (.mv (.tmp 5)), none⟩,
    ⟨(some 20), .op (.iaddrS (.tmp 18) (.tmp 19) 1), none⟩,
    ⟨(some 21), .op (.load 1 false (.tmp 20)), none⟩,
    ⟨(some 22), .op (.mv (.tmp 1)), none⟩,
    ⟨(some 23), .call (.func i_laws_szInt64S) [(.tmp 21), (.tmp 22)], none⟩,
    ⟨(some 1), .op (.mv (.tmp 23)), none⟩]) (.kill [18, 19, 20, 21, 22, 23]))
  (.seq (.post (.reg [⟨(some 24), .op (.mv (.tmp 1)), none⟩,
    ⟨(some 25), .op (.bin .lss (.tmp 24) (.const (Value.int .i64 0))), none⟩]) (.kill [24]))
  (.cond (.tmp 25) (.ghost (.kill [0, 1, 5, 25]) (.seq (.reg [⟨(some 4), .op (.mv (.const (Value.int .i64 (-1)))), none⟩])
  .ret))
  (.ghost (.kill [25]) .skip)))))
  (.post (.reg [⟨(some 16), .op (.mv (.tmp 5)), none⟩,
    ⟨(some 17), .op (.bin .add (.tmp 16) (.const (Value.int .i64 1))), none⟩,
    ⟨(some 5), .op (.mv (.tmp 17)), none⟩]) (.kill [16, 17]))))
def lo_laws_szInt64SS_0 : AC := (.loop lb_laws_szInt64SS_0)
def ac_laws_szInt64SS : AC := (.seq (.post (.reg [⟨(some 4), .op (.mv (.const (Value.int .i64 0))), none⟩]) (.kill [4]))
  (.seq (.post (.reg [⟨(some 6), .op (.mv (.tmp 1)), none⟩,
    ⟨(some 7), .op (.mv (.tmp 0)), none⟩,
    ⟨(some 8), .op (.len false (.tmp 7)), none⟩,
    ⟨(some 9), .op (.bin .sub (.tmp 6) (.tmp 8)), none⟩,
    ⟨(some 1), .op (.mv (.tmp 9)), none⟩]) (.kill [6, 7, 8, 9]))
  (.seq (.seq (.post (.reg [⟨(some 10), .op (.mv (.tmp 1)), none⟩,
    ⟨(some 11), .op (.bin .lss (.tmp 10) (.const (Value.int .i64 0))), none⟩]) (.kill [10]))
  (.cond (.tmp 11) (.ghost (.kill [0, 1, 11]) (.seq (.reg [⟨(some 4), .op (.mv (.const (Value.int .i64 (-1)))), none⟩])
  .ret))
  (.ghost (.kill [11]) .skip)))
  (.seq (.seq (.reg [⟨(some 5), .op (.mv (.const (Value.int .i64 0))), none⟩])
  (.block 0 lo_laws_szInt64SS_0))
  (.ghost (.kill [0, 5]) (.seq (.post (.reg [⟨(some 26), .op (.mv (.tmp 1)), none⟩,
    ⟨(some 4), .op (.mv (.tmp 26)), none⟩]) (.kill [1, 26]))
  .ret))))))
theorem cf_laws_szInt64SS : chkFn Try.prog i_laws_szInt64SS ac_laws_szInt64SS [.tmp 4] 27 = true := by decide +kernel
def fa_laws_szInt64SS : FnA := ⟨ac_laws_szInt64SS, [.tmp 4], 27, false, true, [], .any, none⟩

/-- The checked code of laws szInt64SSS. -/
def lb_laws_szInt64SSS_0 : AC := (.seq (.seq (.post (.reg [⟨(some 12), .op (.mv (.tmp 5)), none⟩,
    ⟨(some 13), .op (.mv (.tmp 0)), none⟩,
    ⟨(some 14), .op (.len false (.tmp 13)), none⟩,
    ⟨(some 15), .op (.bin .lss (.tmp 12) (.tmp 14)), none⟩]) (.kill [12, 13, 14]))
  (.cond (.tmp 15) (.ghost (.kill [15]) .skip)
  (.ghost (.kill [0, 5, 15]) (.exit 0))))
  (.seq (.block 1 (.seq (.post (.reg [⟨(some 18), .op (.mv (.tmp 0)), none⟩,
    ⟨(some 19), .op (.mv (.tmp 5)), none⟩,
    ⟨(some 20), .op (.iaddrS (.tmp 18) (.tmp 19) 1), none⟩,
    ⟨(some 21), .op (.load 1 false (.tmp 20)), none⟩,
    ⟨(some 22), .op (.mv (.tmp 1)), none⟩,
    ⟨(some 23), .call (.func i_laws_szInt64SS) [(.tmp 21), (.tmp 22)], none⟩,
    ⟨(some 1), .op (.mv (.tmp 23)), none⟩]) (.kill [18, 19, 20, 21, 22, 23]))
  (.seq (.post (.reg [⟨(some 24), .op (.mv (.tmp 1)), none⟩,
    ⟨(some 25), .op (.bin .lss (.tmp 24) (.const (Value.int .i64 0))), none⟩]) (.kill [24]))
  (.cond (.tmp 25) (.ghost (.kill [0, 1, 5, 25]) (.seq (.reg [⟨(some 4), .op (.mv (.const (Value.int .i64 (-1)))), none⟩])
  .ret))
  (.ghost (.kill [25]) .skip)))))
  (.post (.reg [⟨(some 16), .op (.mv (.tmp 5)), none⟩,
    ⟨(some 17), .op (.bin .add (.tmp 16) (.const (Value.int .i64 1))), none⟩,
    ⟨(some 5), .op (.mv (.tmp 17)), none⟩]) (.kill [16, 17]))))
def lo_laws_szInt64SSS_0 : AC := (.loop lb_laws_szInt64SSS_0)
def ac_laws_szInt64SSS : AC := (.seq (.post (.reg [⟨(some 4), .op (.mv (.const (Value.int .i64 0))), none⟩]) (.kill [4]))
  (.seq (.post (.reg [⟨(some 6), .op (.mv (.tmp 1)), none⟩,
    ⟨(some 7), .op (.mv (.tmp 0)), none⟩,
    ⟨(some 8), .op (.len false (.tmp 7)), none⟩,
    ⟨(some 9), .op (.bin .sub (.tmp 6) (.tmp 8)), none⟩,
    ⟨(some 1), .op (.mv (.tmp 9)), none⟩]) (.kill [6, 7, 8, 9]))
  (.seq (.seq (.post (.reg [⟨(some 10), .op (.mv (.tmp 1)), none⟩,
    ⟨(some 11), .op (.bin .lss (.tmp 10) (.const (Value.int .i64 0))), none⟩]) (.kill [10]))
  (.cond (.tmp 11) (.ghost (.kill [0, 1, 11]) (.seq (.reg [⟨(some 4), .op (.mv (.const (Value.int .i64 (-1)))), none⟩])
  .ret))
  (.ghost (.kill [11]) .skip)))
  (.seq (.seq (.reg [⟨(some 5), .op (.mv (.const (Value.int .i64 0))), none⟩])
  (.block 0 lo_laws_szInt64SSS_0))
  (.ghost (.kill [0, 5]) (.seq (.post (.reg [⟨(some 26), .op (.mv (.tmp 1)), none⟩,
    ⟨(some 4), .op (.mv (.tmp 26)), none⟩]) (.kill [1, 26]))
  .ret))))))
theorem cf_laws_szInt64SSS : chkFn Try.prog i_laws_szInt64SSS ac_laws_szInt64SSS [.tmp 4] 27 = true := by decide +kernel
def fa_laws_szInt64SSS : FnA := ⟨ac_laws_szInt64SSS, [.tmp 4], 27, false, true, [], .any, none⟩

/-- The checked code of laws szChecker. -/
def ac_laws_szChecker : AC := (.seq (.post (.reg [⟨(some 2), .op (.box true (.tmp 0)), none⟩,
    ⟨(some 4), .op (.mv (.const (Value.int .i64 0))), none⟩]) (.kill [0, 4]))
  (.seq (.post (.reg [⟨(some 5), .op (.faddr (.tmp 2) 2), none⟩,
    ⟨(some 6), .op (.load 1 false (.tmp 5)), none⟩,
    ⟨(some 7), .op (.mv (.tmp 1)), none⟩,
    ⟨(some 8), .call (.func i_laws_szBoolS) [(.tmp 6), (.tmp 7)], none⟩,
    ⟨(some 1), .op (.mv (.tmp 8)), none⟩]) (.kill [5, 6, 7, 8]))
  (.seq (.seq (.post (.reg [⟨(some 9), .op (.mv (.tmp 1)), none⟩,
    ⟨(some 10), .op (.bin .lss (.tmp 9) (.const (Value.int .i64 0))), none⟩]) (.kill [9]))
  (.cond (.tmp 10) (.ghost (.kill [1, 2, 10]) (.seq (.reg [⟨(some 4), .op (.mv (.const (Value.int .i64 (-1)))), none⟩])
  .ret))
  (.ghost (.kill [10]) .skip)))
  (.seq (.post (.reg [⟨(some 11), .op (.faddr (.tmp 2) 3), none⟩,
    ⟨(some 12), .op (.load 1 false (.tmp 11)), none⟩,
    ⟨(some 13), .op (.mv (.tmp 1)), none⟩,
    ⟨(some 14), .call (.func i_laws_szPushSS) [(.tmp 12), (.tmp 13)], none⟩,
    ⟨(some 1), .op (.mv (.tmp 14)), none⟩]) (.kill [11, 12, 13, 14]))
  (.seq (.seq (.post (.reg [⟨(some 15), .op (.mv (.tmp 1)), none⟩,
    ⟨(some 16), .op (.bin .lss (.tmp 15) (.const (Value.int .i64 0))), none⟩]) (.kill [15]))
  (.cond (.tmp 16) (.ghost (.kill [1, 2, 16]) (.seq (.reg [⟨(some 4), .op (.mv (.const (Value.int .i64 (-1)))), none⟩])
  .ret))
  (.ghost (.kill [16]) .skip)))
  (.seq (.post (.reg [⟨(some 17), .op (.faddr (.tmp 2) 4), none⟩,
    ⟨(some 18), .op (.load 1 false (.tmp 17)), none⟩,
    ⟨(some 19), .op (.mv (.tmp 1)), none⟩,
    ⟨(some 20), .call (.func i_laws_szInt64SSS) [(.tmp 18), (.tmp 19)], none⟩,
    ⟨(some 1), .op (.mv (.tmp 20)), none⟩]) (.kill [17, 18, 19, 20]))
  (.seq (.seq (.post (.reg [⟨(some 21), .op (.mv (.tmp 1)), none⟩,
    ⟨(some 22), .op (.bin .lss (.tmp 21) (.const (Value.int .i64 0))), none⟩]) (.kill [21]))
  (.cond (.tmp 22) (.ghost (.kill [1, 2, 22]) (.seq (.reg [⟨(some 4), .op (.mv (.const (Value.int .i64 (-1)))), none⟩])
  .ret))
  (.ghost (.kill [22]) .skip)))
  (.seq (.post (.reg [⟨(some 23), .op (.faddr (.tmp 2) 5), none⟩,
    ⟨(some 24), .op (.load 1 false (.tmp 23)), none⟩,
    ⟨(some 25), .op (.mv (.tmp 1)), none⟩,
    ⟨(some 26), .call (.func i_laws_szInt64SS) [(.tmp 24), (.tmp 25)], none⟩,
    ⟨(some 1), .op (.mv (.tmp 26)), none⟩]) (.kill [2, 23, 24, 25, 26]))
  (.seq (.seq (.post (.reg [⟨(some 27), .op (.mv (.tmp 1)), none⟩,
    ⟨(some 28), .op (.bin .lss (.tmp 27) (.const (Value.int .i64 0))), none⟩]) (.kill [27]))
  (.cond (.tmp 28) (.ghost (.kill [1, 28]) (.seq (.reg [⟨(some 4), .op (.mv (.const (Value.int .i64 (-1)))), none⟩])
  .ret))
  (.ghost (.kill [28]) .skip)))
  (.seq (.post (.reg [⟨(some 29), .op (.mv (.tmp 1)), none⟩,
    ⟨(some 4), .op (.mv (.tmp 29)), none⟩]) (.kill [1, 29]))
  .ret))))))))))
theorem cf_laws_szChecker : chkFn Try.prog i_laws_szChecker ac_laws_szChecker [.tmp 4] 30 = true := by decide +kernel
def fa_laws_szChecker : FnA := ⟨ac_laws_szChecker, [.tmp 4], 30, false, true, [], .any, none⟩

/-- The checked code of laws toBoolS. -/
def lb_laws_toBoolS_0 : AC := (.seq (.seq (.post (.reg [⟨(some 8), .op (.mv (.tmp 4)), none⟩,
    ⟨(some 9), .op (.mv (.tmp 0)), none⟩,
    ⟨(some 10), .op (.len false (.tmp 9)), none⟩,
    ⟨(some 11), .op (.bin .lss (.tmp 8) (.tmp 10)), none⟩]) (.kill [8, 9, 10]))
  (.cond (.tmp 11) (.ghost (.kill [11]) .skip)
  (.ghost (.kill [0, 4, 11]) (.exit 0))))
  (.seq (.block 1 (.post (.reg [⟨(some 14), .op (.mv (.tmp 3)), none⟩,
    ⟨(some 15), .op (.mv (.tmp 4)), none⟩,
    ⟨(some 16), .op (.mv (.tmp 0)), none⟩,
    ⟨(some 17), .op (.mv (.tmp 4)), none⟩,
    ⟨(some 18), .op (.iaddrS (.tmp 16) (.tmp 17) 1), none⟩,
    ⟨(some 19), .op (.load 1 false (.tmp 18)), none⟩,
    ⟨(some 20), .op (.iaddrS (.tmp 14) (.tmp 15) 1), none⟩,
    ⟨none, .op (.store 1 (.tmp 20) (.tmp 19)), none⟩]) (.kill [14, 15, 16, 17, 18, 19, 20])))
  (.post (.reg [⟨(some 12), .op (.mv (.tmp 4)), none⟩,
    ⟨(some 13), .op (.bin .add (.tmp 12) (.const (Value.int .i64 1))), none⟩,
    ⟨(some 4), .op (.mv (.tmp 13)), none⟩]) (.kill [12, 13]))))
def lo_laws_toBoolS_0 : AC := (.loop lb_laws_toBoolS_0)
def ac_laws_toBoolS : AC := (.seq (.post (.reg [⟨(some 2), .op (.mv (.const (Value.slice none 0 0))), none⟩]) (.kill [2]))
  (.seq (.post (.reg [⟨(some 5), .op (.mv (.tmp 0)), none⟩,
    ⟨(some 6), .op (.len false (.tmp 5)), none⟩,
    ⟨(some 7), .op (.make (.tmp 6) (.tmp 6) 1 1 (Value.bool false)), none⟩,
    ⟨(some 3), .op (.mv (.tmp 7)), none⟩]) (.kill [5, 6, 7]))
  (.seq (.seq (.reg [⟨(some 4), .op (.mv (.const (Value.int .i64 0))), none⟩])
  (.block 0 lo_laws_toBoolS_0))
  (.ghost (.kill [0, 4]) (.seq (.post (.reg [⟨(some 21), .op (.mv (.tmp 3)), none⟩,
    ⟨(some 2), .op (.mv (.tmp 21)), none⟩]) (.kill [3, 21]))
  .ret)))))
theorem cf_laws_toBoolS : chkFn Try.prog i_laws_toBoolS ac_laws_toBoolS [.tmp 2] 22 = true := by decide +kernel
def fa_laws_toBoolS : FnA := ⟨ac_laws_toBoolS, [.tmp 2], 22, false, false, [], .any, none⟩

/-- The checked code of laws toPush. -/
def ac_laws_toPush : AC := (.seq (.post (.reg [⟨(some 1), .op (.box true (.tmp 0)), none⟩,
    ⟨(some 2), .op (.alloc (Value.agg #[Value.int .i64 0, Value.int .i64 0])), none⟩]) (.kill [0]))
  (.seq (.reg [⟨(some 3), .op (.alloc (Value.agg #[Value.int .i64 0, Value.int .i64 0])), none⟩])
  (.seq (.post (.reg [⟨(some 4), .op (.faddr (.tmp 1) 0), none⟩,
    ⟨(some 5), .op (.load 1 false (.tmp 4)), none⟩,
    ⟨(some 6), .op (.faddr (.tmp 3) 0), none⟩,
    ⟨none, .op (.store 1 (.tmp 6) (.tmp 5)), none⟩]) (.kill [4, 5, 6]))
  (.seq (.post (.reg [⟨(some 7), .op (.faddr (.tmp 1) 1), none⟩,
    ⟨(some 8), .op (.load 1 false (.tmp 7)), none⟩,
    ⟨(some 9), .op (.faddr (.tmp 3) 1), none⟩,
    ⟨none, .op (.store 1 (.tmp 9) (.tmp 8)), none⟩]) (.kill [1, 7, 8, 9]))
  (.seq (.post (.reg [⟨(some 10), .op (.load 2 true (.tmp 3)), none⟩,
    ⟨none, .op (.store 2 (.tmp 2) (.tmp 10)), none⟩]) (.kill [3, 10]))
  .ret)))))
theorem cf_laws_toPush : chkFn Try.prog i_laws_toPush ac_laws_toPush [.cell 2 2 true] 11 = true := by decide +kernel
def fa_laws_toPush : FnA := ⟨ac_laws_toPush, [.cell 2 2 true], 11, false, false, [], .any, none⟩

/-- The checked code of laws toPushS. -/
def lb_laws_toPushS_0 : AC := (.seq (.seq (.post (.reg [⟨(some 8), .op (.mv (.tmp 4)), none⟩,
    ⟨(some 9), .op (.mv (.tmp 0)), none⟩,
    ⟨(some 10), .op (.len false (.tmp 9)), none⟩,
    ⟨(some 11), .op (.bin .lss (.tmp 8) (.tmp 10)), none⟩]) (.kill [8, 9, 10]))
  (.cond (.tmp 11) (.ghost (.kill [11]) .skip)
  (.ghost (.kill [0, 4, 11]) (.exit 0))))
  (.seq (.block 1 (.post (.reg [⟨(some 14), .op (.mv (.tmp 3)), none⟩,
    ⟨(some 15), .op (.mv (.tmp 4)), none⟩,
    ⟨(some 16), .op (.mv (.tmp 0)), none⟩,
    ⟨(some 17), .op (.mv (.tmp 4)), none⟩,
    ⟨(some 18), .op (.iaddrS (.tmp 16) (.tmp 17) 2), none⟩,
    ⟨(some 19), .op (.load 2 true (.tmp 18)), none⟩,
    ⟨(some 20), .call (.func i_laws_toPush) [(.tmp 19)], none⟩,
    ⟨(some 21), .op (.iaddrS (.tmp 14) (.tmp 15) 2), none⟩,
    ⟨none, .op (.store 2 (.tmp 21) (.tmp 20)), none⟩]) (.kill [14, 15, 16, 17, 18, 19, 20, 21])))
  (.post (.reg [⟨(some 12), .op (.mv (.tmp 4)), none⟩,
    ⟨(some 13), .op (.bin .add (.tmp 12) (.const (Value.int .i64 1))), none⟩,
    ⟨(some 4), .op (.mv (.tmp 13)), none⟩]) (.kill [12, 13]))))
def lo_laws_toPushS_0 : AC := (.loop lb_laws_toPushS_0)
def ac_laws_toPushS : AC := (.seq (.post (.reg [⟨(some 2), .op (.mv (.const (Value.slice none 0 0))), none⟩]) (.kill [2]))
  (.seq (.post (.reg [⟨(some 5), .op (.mv (.tmp 0)), none⟩,
    ⟨(some 6), .op (.len false (.tmp 5)), none⟩,
    ⟨(some 7), .op (.make (.tmp 6) (.tmp 6) 2 16 (Value.agg #[Value.int .i64 0, Value.int .i64 0])), none⟩,
    ⟨(some 3), .op (.mv (.tmp 7)), none⟩]) (.kill [5, 6, 7]))
  (.seq (.seq (.reg [⟨(some 4), .op (.mv (.const (Value.int .i64 0))), none⟩])
  (.block 0 lo_laws_toPushS_0))
  (.ghost (.kill [0, 4]) (.seq (.post (.reg [⟨(some 22), .op (.mv (.tmp 3)), none⟩,
    ⟨(some 2), .op (.mv (.tmp 22)), none⟩]) (.kill [3, 22]))
  .ret)))))
theorem cf_laws_toPushS : chkFn Try.prog i_laws_toPushS ac_laws_toPushS [.tmp 2] 23 = true := by decide +kernel
def fa_laws_toPushS : FnA := ⟨ac_laws_toPushS, [.tmp 2], 23, false, false, [], .any, none⟩

/-- The checked code of laws toPushSS. -/
def lb_laws_toPushSS_0 : AC := (.seq (.seq (.post (.reg [⟨(some 8), .op (.mv (.tmp 4)), none⟩,
    ⟨(some 9), .op (.mv (.tmp 0)), none⟩,
    ⟨(some 10), .op (.len false (.tmp 9)), none⟩,
    ⟨(some 11), .op (.bin .lss (.tmp 8) (.tmp 10)), none⟩]) (.kill [8, 9, 10]))
  (.cond (.tmp 11) (.ghost (.kill [11]) .skip)
  (.ghost (.kill [0, 4, 11]) (.exit 0))))
  (.seq (.block 1 (.post (.reg [⟨(some 14), .op (.mv (.tmp 3)), none⟩,
    ⟨(some 15), .op (.mv (.tmp 4)), none⟩,
    ⟨(some 16), .op (.mv (.tmp 0)), none⟩,
    ⟨(some 17), .op (.mv (.tmp 4)), none⟩,
    ⟨(some 18), .op (.iaddrS (.tmp 16) (.tmp 17) 1), none⟩,
    ⟨(some 19), .op (.load 1 false (.tmp 18)), none⟩,
    ⟨(some 20), .call (.func i_laws_toPushS) [(.tmp 19)], none⟩,
    ⟨(some 21), .op (.iaddrS (.tmp 14) (.tmp 15) 1), none⟩,
    ⟨none, .op (.store 1 (.tmp 21) (.tmp 20)), none⟩]) (.kill [14, 15, 16, 17, 18, 19, 20, 21])))
  (.post (.reg [⟨(some 12), .op (.mv (.tmp 4)), none⟩,
    ⟨(some 13), .op (.bin .add (.tmp 12) (.const (Value.int .i64 1))), none⟩,
    ⟨(some 4), .op (.mv (.tmp 13)), none⟩]) (.kill [12, 13]))))
def lo_laws_toPushSS_0 : AC := (.loop lb_laws_toPushSS_0)
def ac_laws_toPushSS : AC := (.seq (.post (.reg [⟨(some 2), .op (.mv (.const (Value.slice none 0 0))), none⟩]) (.kill [2]))
  (.seq (.post (.reg [⟨(some 5), .op (.mv (.tmp 0)), none⟩,
    ⟨(some 6), .op (.len false (.tmp 5)), none⟩,
    ⟨(some 7), .op (.make (.tmp 6) (.tmp 6) 1 24 (Value.slice none 0 0)), none⟩,
    ⟨(some 3), .op (.mv (.tmp 7)), none⟩]) (.kill [5, 6, 7]))
  (.seq (.seq (.reg [⟨(some 4), .op (.mv (.const (Value.int .i64 0))), none⟩])
  (.block 0 lo_laws_toPushSS_0))
  (.ghost (.kill [0, 4]) (.seq (.post (.reg [⟨(some 22), .op (.mv (.tmp 3)), none⟩,
    ⟨(some 2), .op (.mv (.tmp 22)), none⟩]) (.kill [3, 22]))
  .ret)))))
theorem cf_laws_toPushSS : chkFn Try.prog i_laws_toPushSS ac_laws_toPushSS [.tmp 2] 23 = true := by decide +kernel
def fa_laws_toPushSS : FnA := ⟨ac_laws_toPushSS, [.tmp 2], 23, false, false, [], .any, none⟩

/-- The checked code of laws toInt64S. -/
def lb_laws_toInt64S_0 : AC := (.seq (.seq (.post (.reg [⟨(some 8), .op (.mv (.tmp 4)), none⟩,
    ⟨(some 9), .op (.mv (.tmp 0)), none⟩,
    ⟨(some 10), .op (.len false (.tmp 9)), none⟩,
    ⟨(some 11), .op (.bin .lss (.tmp 8) (.tmp 10)), none⟩]) (.kill [8, 9, 10]))
  (.cond (.tmp 11) (.ghost (.kill [11]) .skip)
  (.ghost (.kill [0, 4, 11]) (.exit 0))))
  (.seq (.block 1 (.post (.reg [⟨(some 14), .op (.mv (.tmp 3)), none⟩,
    ⟨(some 15), .op (.mv (.tmp 4)), none⟩,
    ⟨(some 16), .op (.mv (.tmp 0)), none⟩,
    ⟨(some 17), .op (.mv (.tmp 4)), none⟩,
    ⟨(some 18), .op (.iaddrS (.tmp 16) (.tmp 17) 1), none⟩,
    ⟨(some 19), .op (.load 1 false (.tmp 18)), none⟩,
    ⟨(some 20), .op (.iaddrS (.tmp 14) (.tmp 15) 1), none⟩,
    ⟨none, .op (.store 1 (.tmp 20) (.tmp 19)), none⟩]) (.kill [14, 15, 16, 17, 18, 19, 20])))
  (.post (.reg [⟨(some 12), .op (.mv (.tmp 4)), none⟩,
    ⟨(some 13), .op (.bin .add (.tmp 12) (.const (Value.int .i64 1))), none⟩,
    ⟨(some 4), .op (.mv (.tmp 13)), none⟩]) (.kill [12, 13]))))
def lo_laws_toInt64S_0 : AC := (.loop lb_laws_toInt64S_0)
def ac_laws_toInt64S : AC := (.seq (.post (.reg [⟨(some 2), .op (.mv (.const (Value.slice none 0 0))), none⟩]) (.kill [2]))
  (.seq (.post (.reg [⟨(some 5), .op (.mv (.tmp 0)), none⟩,
    ⟨(some 6), .op (.len false (.tmp 5)), none⟩,
    ⟨(some 7), .op (.make (.tmp 6) (.tmp 6) 1 8 (Value.int .i64 0)), none⟩,
    ⟨(some 3), .op (.mv (.tmp 7)), none⟩]) (.kill [5, 6, 7]))
  (.seq (.seq (.reg [⟨(some 4), .op (.mv (.const (Value.int .i64 0))), none⟩])
  (.block 0 lo_laws_toInt64S_0))
  (.ghost (.kill [0, 4]) (.seq (.post (.reg [⟨(some 21), .op (.mv (.tmp 3)), none⟩,
    ⟨(some 2), .op (.mv (.tmp 21)), none⟩]) (.kill [3, 21]))
  .ret)))))
theorem cf_laws_toInt64S : chkFn Try.prog i_laws_toInt64S ac_laws_toInt64S [.tmp 2] 22 = true := by decide +kernel
def fa_laws_toInt64S : FnA := ⟨ac_laws_toInt64S, [.tmp 2], 22, false, false, [], .any, none⟩

/-- The checked code of laws toInt64SS. -/
def lb_laws_toInt64SS_0 : AC := (.seq (.seq (.post (.reg [⟨(some 8), .op (.mv (.tmp 4)), none⟩,
    ⟨(some 9), .op (.mv (.tmp 0)), none⟩,
    ⟨(some 10), .op (.len false (.tmp 9)), none⟩,
    ⟨(some 11), .op (.bin .lss (.tmp 8) (.tmp 10)), none⟩]) (.kill [8, 9, 10]))
  (.cond (.tmp 11) (.ghost (.kill [11]) .skip)
  (.ghost (.kill [0, 4, 11]) (.exit 0))))
  (.seq (.block 1 (.post (.reg [⟨(some 14), .op (.mv (.tmp 3)), none⟩,
    ⟨(some 15), .op (.mv (.tmp 4)), none⟩,
    ⟨(some 16), .op (.mv (.tmp 0)), none⟩,
    ⟨(some 17), .op (.mv (.tmp 4)), none⟩,
    ⟨(some 18), .op (.iaddrS (.tmp 16) (.tmp 17) 1), none⟩,
    ⟨(some 19), .op (.load 1 false (.tmp 18)), none⟩,
    ⟨(some 20), .call (.func i_laws_toInt64S) [(.tmp 19)], none⟩,
    ⟨(some 21), .op (.iaddrS (.tmp 14) (.tmp 15) 1), none⟩,
    ⟨none, .op (.store 1 (.tmp 21) (.tmp 20)), none⟩]) (.kill [14, 15, 16, 17, 18, 19, 20, 21])))
  (.post (.reg [⟨(some 12), .op (.mv (.tmp 4)), none⟩,
    ⟨(some 13), .op (.bin .add (.tmp 12) (.const (Value.int .i64 1))), none⟩,
    ⟨(some 4), .op (.mv (.tmp 13)), none⟩]) (.kill [12, 13]))))
def lo_laws_toInt64SS_0 : AC := (.loop lb_laws_toInt64SS_0)
def ac_laws_toInt64SS : AC := (.seq (.post (.reg [⟨(some 2), .op (.mv (.const (Value.slice none 0 0))), none⟩]) (.kill [2]))
  (.seq (.post (.reg [⟨(some 5), .op (.mv (.tmp 0)), none⟩,
    ⟨(some 6), .op (.len false (.tmp 5)), none⟩,
    ⟨(some 7), .op (.make (.tmp 6) (.tmp 6) 1 24 (Value.slice none 0 0)), none⟩,
    ⟨(some 3), .op (.mv (.tmp 7)), none⟩]) (.kill [5, 6, 7]))
  (.seq (.seq (.reg [⟨(some 4), .op (.mv (.const (Value.int .i64 0))), none⟩])
  (.block 0 lo_laws_toInt64SS_0))
  (.ghost (.kill [0, 4]) (.seq (.post (.reg [⟨(some 22), .op (.mv (.tmp 3)), none⟩,
    ⟨(some 2), .op (.mv (.tmp 22)), none⟩]) (.kill [3, 22]))
  .ret)))))
theorem cf_laws_toInt64SS : chkFn Try.prog i_laws_toInt64SS ac_laws_toInt64SS [.tmp 2] 23 = true := by decide +kernel
def fa_laws_toInt64SS : FnA := ⟨ac_laws_toInt64SS, [.tmp 2], 23, false, false, [], .any, none⟩

/-- The checked code of laws toInt64SSS. -/
def lb_laws_toInt64SSS_0 : AC := (.seq (.seq (.post (.reg [⟨(some 8), .op (.mv (.tmp 4)), none⟩,
    ⟨(some 9), .op (.mv (.tmp 0)), none⟩,
    ⟨(some 10), .op (.len false (.tmp 9)), none⟩,
    ⟨(some 11), .op (.bin .lss (.tmp 8) (.tmp 10)), none⟩]) (.kill [8, 9, 10]))
  (.cond (.tmp 11) (.ghost (.kill [11]) .skip)
  (.ghost (.kill [0, 4, 11]) (.exit 0))))
  (.seq (.block 1 (.post (.reg [⟨(some 14), .op (.mv (.tmp 3)), none⟩,
    ⟨(some 15), .op (.mv (.tmp 4)), none⟩,
    ⟨(some 16), .op (.mv (.tmp 0)), none⟩,
    ⟨(some 17), .op (.mv (.tmp 4)), none⟩,
    ⟨(some 18), .op (.iaddrS (.tmp 16) (.tmp 17) 1), none⟩,
    ⟨(some 19), .op (.load 1 false (.tmp 18)), none⟩,
    ⟨(some 20), .call (.func i_laws_toInt64SS) [(.tmp 19)], none⟩,
    ⟨(some 21), .op (.iaddrS (.tmp 14) (.tmp 15) 1), none⟩,
    ⟨none, .op (.store 1 (.tmp 21) (.tmp 20)), none⟩]) (.kill [14, 15, 16, 17, 18, 19, 20, 21])))
  (.post (.reg [⟨(some 12), .op (.mv (.tmp 4)), none⟩,
    ⟨(some 13), .op (.bin .add (.tmp 12) (.const (Value.int .i64 1))), none⟩,
    ⟨(some 4), .op (.mv (.tmp 13)), none⟩]) (.kill [12, 13]))))
def lo_laws_toInt64SSS_0 : AC := (.loop lb_laws_toInt64SSS_0)
def ac_laws_toInt64SSS : AC := (.seq (.post (.reg [⟨(some 2), .op (.mv (.const (Value.slice none 0 0))), none⟩]) (.kill [2]))
  (.seq (.post (.reg [⟨(some 5), .op (.mv (.tmp 0)), none⟩,
    ⟨(some 6), .op (.len false (.tmp 5)), none⟩,
    ⟨(some 7), .op (.make (.tmp 6) (.tmp 6) 1 24 (Value.slice none 0 0)), none⟩,
    ⟨(some 3), .op (.mv (.tmp 7)), none⟩]) (.kill [5, 6, 7]))
  (.seq (.seq (.reg [⟨(some 4), .op (.mv (.const (Value.int .i64 0))), none⟩])
  (.block 0 lo_laws_toInt64SSS_0))
  (.ghost (.kill [0, 4]) (.seq (.post (.reg [⟨(some 22), .op (.mv (.tmp 3)), none⟩,
    ⟨(some 2), .op (.mv (.tmp 22)), none⟩]) (.kill [3, 22]))
  .ret)))))
theorem cf_laws_toInt64SSS : chkFn Try.prog i_laws_toInt64SSS ac_laws_toInt64SSS [.tmp 2] 23 = true := by decide +kernel
def fa_laws_toInt64SSS : FnA := ⟨ac_laws_toInt64SSS, [.tmp 2], 23, false, false, [], .any, none⟩

/-- The checked code of laws toChecker. -/
def ac_laws_toChecker : AC := (.seq (.post (.reg [⟨(some 1), .op (.box true (.tmp 0)), none⟩,
    ⟨(some 2), .op (.alloc (Value.agg #[Value.int .i64 0, Value.int .i64 0, Value.slice none 0 0, Value.slice none 0 0, Value.slice none 0 0, Value.slice none 0 0])), none⟩]) (.kill [0]))
  (.seq (.reg [⟨(some 3), .op (.alloc (Value.agg #[Value.int .i64 0, Value.int .i64 0, Value.slice none 0 0, Value.slice none 0 0, Value.slice none 0 0, Value.slice none 0 0])), none⟩])
  (.seq (.post (.reg [⟨(some 4), .op (.faddr (.tmp 1) 0), none⟩,
    ⟨(some 5), .op (.load 1 false (.tmp 4)), none⟩,
    ⟨(some 6), .op (.faddr (.tmp 3) 0), none⟩,
    ⟨none, .op (.store 1 (.tmp 6) (.tmp 5)), none⟩]) (.kill [4, 5, 6]))
  (.seq (.post (.reg [⟨(some 7), .op (.faddr (.tmp 1) 1), none⟩,
    ⟨(some 8), .op (.load 1 false (.tmp 7)), none⟩,
    ⟨(some 9), .op (.faddr (.tmp 3) 1), none⟩,
    ⟨none, .op (.store 1 (.tmp 9) (.tmp 8)), none⟩]) (.kill [7, 8, 9]))
  (.seq (.post (.reg [⟨(some 10), .op (.faddr (.tmp 1) 2), none⟩,
    ⟨(some 11), .op (.load 1 false (.tmp 10)), none⟩,
    ⟨(some 12), .call (.func i_laws_toBoolS) [(.tmp 11)], none⟩,
    ⟨(some 13), .op (.faddr (.tmp 3) 2), none⟩,
    ⟨none, .op (.store 1 (.tmp 13) (.tmp 12)), none⟩]) (.kill [10, 11, 12, 13]))
  (.seq (.post (.reg [⟨(some 14), .op (.faddr (.tmp 1) 3), none⟩,
    ⟨(some 15), .op (.load 1 false (.tmp 14)), none⟩,
    ⟨(some 16), .call (.func i_laws_toPushSS) [(.tmp 15)], none⟩,
    ⟨(some 17), .op (.faddr (.tmp 3) 3), none⟩,
    ⟨none, .op (.store 1 (.tmp 17) (.tmp 16)), none⟩]) (.kill [14, 15, 16, 17]))
  (.seq (.post (.reg [⟨(some 18), .op (.faddr (.tmp 1) 4), none⟩,
    ⟨(some 19), .op (.load 1 false (.tmp 18)), none⟩,
    ⟨(some 20), .call (.func i_laws_toInt64SSS) [(.tmp 19)], none⟩,
    ⟨(some 21), .op (.faddr (.tmp 3) 4), none⟩,
    ⟨none, .op (.store 1 (.tmp 21) (.tmp 20)), none⟩]) (.kill [18, 19, 20, 21]))
  (.seq (.post (.reg [⟨(some 22), .op (.faddr (.tmp 1) 5), none⟩,
    ⟨(some 23), .op (.load 1 false (.tmp 22)), none⟩,
    ⟨(some 24), .call (.func i_laws_toInt64SS) [(.tmp 23)], none⟩,
    ⟨(some 25), .op (.faddr (.tmp 3) 5), none⟩,
    ⟨none, .op (.store 1 (.tmp 25) (.tmp 24)), none⟩]) (.kill [1, 22, 23, 24, 25]))
  (.seq (.post (.reg [⟨(some 26), .op (.load 6 true (.tmp 3)), none⟩,
    ⟨none, .op (.store 6 (.tmp 2) (.tmp 26)), none⟩]) (.kill [3, 26]))
  .ret)))))))))
theorem cf_laws_toChecker : chkFn Try.prog i_laws_toChecker ac_laws_toChecker [.cell 2 6 true] 27 = true := by decide +kernel
def fa_laws_toChecker : FnA := ⟨ac_laws_toChecker, [.cell 2 6 true], 27, false, false, [], .any, none⟩

/-- The checked code of laws eqInt64S. -/
def lb_laws_eqInt64S_0 : AC := (.seq (.seq (.post (.reg [⟨(some 11), .op (.mv (.tmp 5)), none⟩,
    ⟨(some 12), .op (.mv (.tmp 0)), none⟩,
    ⟨(some 13), .op (.len false (.tmp 12)), none⟩,
    ⟨(some 14), .op (.bin .lss (.tmp 11) (.tmp 13)), none⟩]) (.kill [11, 12, 13]))
  (.cond (.tmp 14) (.ghost (.kill [14]) .skip)
  (.ghost (.kill [0, 1, 5, 14]) (.exit 0))))
  (.seq (.block 1 (.seq (.post (.draw [⟨0, ⟨(some 17), .op (.mv (.tmp 0)), none⟩, []⟩,
    ⟨1, ⟨(some 18), .op (.mv (.tmp 5)), none⟩, []⟩,
    ⟨2, ⟨(some 19), .op (.iaddrS (.tmp 17) (.tmp 18) 1), none⟩, []⟩,
    ⟨3, ⟨(some 20), .op (.load 1 false (.tmp 19)), none⟩, []⟩,
    ⟨4, ⟨(some 21), .op (.mv (.tmp 1)), none⟩, []⟩,
    ⟨5, ⟨(some 22), .op (.mv (.tmp 5)), none⟩, []⟩,
    ⟨6, ⟨(some 23), .op (.iaddrS (.tmp 21) (.tmp 22) 1), none⟩, []⟩,
    ⟨7, ⟨(some 24), .op (.load 1 false (.tmp 23)), none⟩, []⟩,
    ⟨8, ⟨(some 25), .op (.bin .neq (.tmp 20) (.tmp 24)), none⟩, []⟩]
    [0, 0, 3, 7, 0, 0, 48, 112, 255]) (.kill [17, 18, 19, 20, 21, 22, 23, 24]))
  (.cond (.tmp 25) (.ghost (.kill [0, 1, 5, 25]) (.seq (.reg [⟨(some 4), .op (.mv (.const (Value.bool false))), none⟩])
  .ret))
  (.ghost (.kill [25]) .skip))))
  (.post (.reg [⟨(some 15), .op (.mv (.tmp 5)), none⟩,
    ⟨(some 16), .op (.bin .add (.tmp 15) (.const (Value.int .i64 1))), none⟩,
    ⟨(some 5), .op (.mv (.tmp 16)), none⟩]) (.kill [15, 16]))))
def lo_laws_eqInt64S_0 : AC := (.loop lb_laws_eqInt64S_0)
def ac_laws_eqInt64S : AC := (.seq (.post (.reg [⟨(some 4), .op (.mv (.const (Value.bool false))), none⟩]) (.kill [4]))
  (.seq (.seq (.post (.reg [⟨(some 6), .op (.mv (.tmp 0)), none⟩,
    ⟨(some 7), .op (.len false (.tmp 6)), none⟩,
    ⟨(some 8), .op (.mv (.tmp 1)), none⟩,
    ⟨(some 9), .op (.len false (.tmp 8)), none⟩,
    ⟨(some 10), .op (.bin .neq (.tmp 7) (.tmp 9)), none⟩]) (.kill [6, 7, 8, 9]))
  (.cond (.tmp 10) (.ghost (.kill [0, 1, 10]) (.seq (.reg [⟨(some 4), .op (.mv (.const (Value.bool false))), none⟩])
  .ret))
  (.ghost (.kill [10]) .skip)))
  (.seq (.seq (.reg [⟨(some 5), .op (.mv (.const (Value.int .i64 0))), none⟩])
  (.block 0 lo_laws_eqInt64S_0))
  (.ghost (.kill [0, 1, 5]) (.seq (.reg [⟨(some 4), .op (.mv (.const (Value.bool true))), none⟩])
  .ret)))))
theorem cf_laws_eqInt64S : chkFn Try.prog i_laws_eqInt64S ac_laws_eqInt64S [.tmp 4] 26 = true := by decide +kernel
def fa_laws_eqInt64S : FnA := ⟨ac_laws_eqInt64S, [.tmp 4], 26, false, true, [(.lst 1 .any), (.lst 1 .any)], .any, none⟩

/-- The checked code of laws eqInt64SS. -/
def lb_laws_eqInt64SS_0 : AC := (.seq (.seq (.post (.reg [⟨(some 11), .op (.mv (.tmp 5)), none⟩,
    ⟨(some 12), .op (.mv (.tmp 0)), none⟩,
    ⟨(some 13), .op (.len false (.tmp 12)), none⟩,
    ⟨(some 14), .op (.bin .lss (.tmp 11) (.tmp 13)), none⟩]) (.kill [11, 12, 13]))
  (.cond (.tmp 14) (.ghost (.kill [14]) .skip)
  (.ghost (.kill [0, 1, 5, 14]) (.exit 0))))
  (.seq (.block 1 (.seq (.post (.draw [⟨0, ⟨(some 17), .op (.mv (.tmp 0)), none⟩, []⟩,
    ⟨1, ⟨(some 18), .op (.mv (.tmp 5)), none⟩, []⟩,
    ⟨2, ⟨(some 19), .op (.iaddrS (.tmp 17) (.tmp 18) 1), none⟩, []⟩,
    ⟨3, ⟨(some 20), .op (.load 1 false (.tmp 19)), none⟩, []⟩,
    ⟨4, ⟨(some 21), .op (.mv (.tmp 1)), none⟩, []⟩,
    ⟨5, ⟨(some 22), .op (.mv (.tmp 5)), none⟩, []⟩,
    ⟨6, ⟨(some 23), .op (.iaddrS (.tmp 21) (.tmp 22) 1), none⟩, []⟩,
    ⟨7, ⟨(some 24), .op (.load 1 false (.tmp 23)), none⟩, []⟩,
    ⟨8, ⟨(some 25), .call (.func i_laws_eqInt64S) [(.tmp 20), (.tmp 24)], none⟩, []⟩,
    ⟨9, ⟨(some 26), .op (.un .not (.tmp 25)), none⟩, []⟩]
    [0, 0, 3, 7, 0, 0, 48, 112, 255, 511]) (.kill [17, 18, 19, 20, 21, 22, 23, 24, 25]))
  (.cond (.tmp 26) (.ghost (.kill [0, 1, 5, 26]) (.seq (.reg [⟨(some 4), .op (.mv (.const (Value.bool false))), none⟩])
  .ret))
  (.ghost (.kill [26]) .skip))))
  (.post (.reg [⟨(some 15), .op (.mv (.tmp 5)), none⟩,
    ⟨(some 16), .op (.bin .add (.tmp 15) (.const (Value.int .i64 1))), none⟩,
    ⟨(some 5), .op (.mv (.tmp 16)), none⟩]) (.kill [15, 16]))))
def lo_laws_eqInt64SS_0 : AC := (.loop lb_laws_eqInt64SS_0)
def ac_laws_eqInt64SS : AC := (.seq (.post (.reg [⟨(some 4), .op (.mv (.const (Value.bool false))), none⟩]) (.kill [4]))
  (.seq (.seq (.post (.reg [⟨(some 6), .op (.mv (.tmp 0)), none⟩,
    ⟨(some 7), .op (.len false (.tmp 6)), none⟩,
    ⟨(some 8), .op (.mv (.tmp 1)), none⟩,
    ⟨(some 9), .op (.len false (.tmp 8)), none⟩,
    ⟨(some 10), .op (.bin .neq (.tmp 7) (.tmp 9)), none⟩]) (.kill [6, 7, 8, 9]))
  (.cond (.tmp 10) (.ghost (.kill [0, 1, 10]) (.seq (.reg [⟨(some 4), .op (.mv (.const (Value.bool false))), none⟩])
  .ret))
  (.ghost (.kill [10]) .skip)))
  (.seq (.seq (.reg [⟨(some 5), .op (.mv (.const (Value.int .i64 0))), none⟩])
  (.block 0 lo_laws_eqInt64SS_0))
  (.ghost (.kill [0, 1, 5]) (.seq (.reg [⟨(some 4), .op (.mv (.const (Value.bool true))), none⟩])
  .ret)))))
theorem cf_laws_eqInt64SS : chkFn Try.prog i_laws_eqInt64SS ac_laws_eqInt64SS [.tmp 4] 27 = true := by decide +kernel
def fa_laws_eqInt64SS : FnA := ⟨ac_laws_eqInt64SS, [.tmp 4], 27, false, true, [(.lst 1 (.lst 1 .any)), (.lst 1 (.lst 1 .any))], .any, none⟩

/-- The checked code of laws eqBoolS. -/
def lb_laws_eqBoolS_0 : AC := (.seq (.seq (.post (.reg [⟨(some 11), .op (.mv (.tmp 5)), none⟩,
    ⟨(some 12), .op (.mv (.tmp 0)), none⟩,
    ⟨(some 13), .op (.len false (.tmp 12)), none⟩,
    ⟨(some 14), .op (.bin .lss (.tmp 11) (.tmp 13)), none⟩]) (.kill [11, 12, 13]))
  (.cond (.tmp 14) (.ghost (.kill [14]) .skip)
  (.ghost (.kill [0, 1, 5, 14]) (.exit 0))))
  (.seq (.block 1 (.seq (.post (.draw [⟨0, ⟨(some 17), .op (.mv (.tmp 0)), none⟩, []⟩,
    ⟨1, ⟨(some 18), .op (.mv (.tmp 5)), none⟩, []⟩,
    ⟨2, ⟨(some 19), .op (.iaddrS (.tmp 17) (.tmp 18) 1), none⟩, []⟩,
    ⟨3, ⟨(some 20), .op (.load 1 false (.tmp 19)), none⟩, []⟩,
    ⟨4, ⟨(some 21), .op (.mv (.tmp 1)), none⟩, []⟩,
    ⟨5, ⟨(some 22), .op (.mv (.tmp 5)), none⟩, []⟩,
    ⟨6, ⟨(some 23), .op (.iaddrS (.tmp 21) (.tmp 22) 1), none⟩, []⟩,
    ⟨7, ⟨(some 24), .op (.load 1 false (.tmp 23)), none⟩, []⟩,
    ⟨8, ⟨(some 25), .op (.eqb true (.tmp 20) (.tmp 24)), none⟩, []⟩]
    [0, 0, 3, 7, 0, 0, 48, 112, 255]) (.kill [17, 18, 19, 20, 21, 22, 23, 24]))
  (.cond (.tmp 25) (.ghost (.kill [0, 1, 5, 25]) (.seq (.reg [⟨(some 4), .op (.mv (.const (Value.bool false))), none⟩])
  .ret))
  (.ghost (.kill [25]) .skip))))
  (.post (.reg [⟨(some 15), .op (.mv (.tmp 5)), none⟩,
    ⟨(some 16), .op (.bin .add (.tmp 15) (.const (Value.int .i64 1))), none⟩,
    ⟨(some 5), .op (.mv (.tmp 16)), none⟩]) (.kill [15, 16]))))
def lo_laws_eqBoolS_0 : AC := (.loop lb_laws_eqBoolS_0)
def ac_laws_eqBoolS : AC := (.seq (.post (.reg [⟨(some 4), .op (.mv (.const (Value.bool false))), none⟩]) (.kill [4]))
  (.seq (.seq (.post (.reg [⟨(some 6), .op (.mv (.tmp 0)), none⟩,
    ⟨(some 7), .op (.len false (.tmp 6)), none⟩,
    ⟨(some 8), .op (.mv (.tmp 1)), none⟩,
    ⟨(some 9), .op (.len false (.tmp 8)), none⟩,
    ⟨(some 10), .op (.bin .neq (.tmp 7) (.tmp 9)), none⟩]) (.kill [6, 7, 8, 9]))
  (.cond (.tmp 10) (.ghost (.kill [0, 1, 10]) (.seq (.reg [⟨(some 4), .op (.mv (.const (Value.bool false))), none⟩])
  .ret))
  (.ghost (.kill [10]) .skip)))
  (.seq (.seq (.reg [⟨(some 5), .op (.mv (.const (Value.int .i64 0))), none⟩])
  (.block 0 lo_laws_eqBoolS_0))
  (.ghost (.kill [0, 1, 5]) (.seq (.reg [⟨(some 4), .op (.mv (.const (Value.bool true))), none⟩])
  .ret)))))
theorem cf_laws_eqBoolS : chkFn Try.prog i_laws_eqBoolS ac_laws_eqBoolS [.tmp 4] 26 = true := by decide +kernel
def fa_laws_eqBoolS : FnA := ⟨ac_laws_eqBoolS, [.tmp 4], 26, false, true, [], .any, none⟩

/-- The checked code of laws eqPush. -/
def ac_laws_eqPush : AC := (.seq (.post (.reg [⟨(some 2), .op (.box true (.tmp 0)), none⟩,
    ⟨(some 3), .op (.box true (.tmp 1)), none⟩,
    ⟨(some 4), .op (.mv (.const (Value.bool false))), none⟩]) (.kill [0, 1, 4]))
  (.seq (.seq (.post (.reg [⟨(some 5), .op (.faddr (.tmp 2) 0), none⟩,
    ⟨(some 6), .op (.load 1 false (.tmp 5)), none⟩,
    ⟨(some 7), .op (.faddr (.tmp 3) 0), none⟩,
    ⟨(some 8), .op (.load 1 false (.tmp 7)), none⟩,
    ⟨(some 9), .op (.bin .neq (.tmp 6) (.tmp 8)), none⟩]) (.kill [5, 6, 7, 8]))
  (.cond (.tmp 9) (.ghost (.kill [2, 3, 9]) (.seq (.reg [⟨(some 4), .op (.mv (.const (Value.bool false))), none⟩])
  .ret))
  (.ghost (.kill [9]) .skip)))
  (.seq (.seq (.post (.reg [⟨(some 10), .op (.faddr (.tmp 2) 1), none⟩,
    ⟨(some 11), .op (.load 1 false (.tmp 10)), none⟩,
    ⟨(some 12), .op (.faddr (.tmp 3) 1), none⟩,
    ⟨(some 13), .op (.load 1 false (.tmp 12)), none⟩,
    ⟨(some 14), .op (.bin .neq (.tmp 11) (.tmp 13)), none⟩]) (.kill [2, 3, 10, 11, 12, 13]))
  (.cond (.tmp 14) (.ghost (.kill [14]) (.seq (.reg [⟨(some 4), .op (.mv (.const (Value.bool false))), none⟩])
  .ret))
  (.ghost (.kill [14]) .skip)))
  (.seq (.reg [⟨(some 4), .op (.mv (.const (Value.bool true))), none⟩])
  .ret))))
theorem cf_laws_eqPush : chkFn Try.prog i_laws_eqPush ac_laws_eqPush [.tmp 4] 15 = true := by decide +kernel
def fa_laws_eqPush : FnA := ⟨ac_laws_eqPush, [.tmp 4], 15, false, true, [], .any, none⟩

/-- The checked code of laws eqPushS. -/
def lb_laws_eqPushS_0 : AC := (.seq (.seq (.post (.reg [⟨(some 11), .op (.mv (.tmp 5)), none⟩,
    ⟨(some 12), .op (.mv (.tmp 0)), none⟩,
    ⟨(some 13), .op (.len false (.tmp 12)), none⟩,
    ⟨(some 14), .op (.bin .lss (.tmp 11) (.tmp 13)), none⟩]) (.kill [11, 12, 13]))
  (.cond (.tmp 14) (.ghost (.kill [14]) .skip)
  (.ghost (.kill [0, 1, 5, 14]) (.exit 0))))
  (.seq (.block 1 (.seq (.post (.draw [⟨0, ⟨(some 17), .op (.mv (.tmp 0)), none⟩, []⟩,
    ⟨1, ⟨(some 18), .op (.mv (.tmp 5)), none⟩, []⟩,
    ⟨2, ⟨(some 19), .op (.iaddrS (.tmp 17) (.tmp 18) 2), none⟩, []⟩,
    ⟨3, ⟨(some 20), .op (.load 2 true (.tmp 19)), none⟩, []⟩,
    ⟨4, ⟨(some 21), .op (.mv (.tmp 1)), none⟩, []⟩,
    ⟨5, ⟨(some 22), .op (.mv (.tmp 5)), none⟩, []⟩,
    ⟨6, ⟨(some 23), .op (.iaddrS (.tmp 21) (.tmp 22) 2), none⟩, []⟩,
    ⟨7, ⟨(some 24), .op (.load 2 true (.tmp 23)), none⟩, []⟩,
    ⟨8, ⟨(some 25), .call (.func i_laws_eqPush) [(.tmp 20), (.tmp 24)], none⟩, []⟩,
    ⟨9, ⟨(some 26), .op (.un .not (.tmp 25)), none⟩, []⟩]
    [0, 0, 3, 7, 0, 0, 48, 112, 255, 511]) (.kill [17, 18, 19, 20, 21, 22, 23, 24, 25]))
  (.cond (.tmp 26) (.ghost (.kill [0, 1, 5, 26]) (.seq (.reg [⟨(some 4), .op (.mv (.const (Value.bool false))), none⟩])
  .ret))
  (.ghost (.kill [26]) .skip))))
  (.post (.reg [⟨(some 15), .op (.mv (.tmp 5)), none⟩,
    ⟨(some 16), .op (.bin .add (.tmp 15) (.const (Value.int .i64 1))), none⟩,
    ⟨(some 5), .op (.mv (.tmp 16)), none⟩]) (.kill [15, 16]))))
def lo_laws_eqPushS_0 : AC := (.loop lb_laws_eqPushS_0)
def ac_laws_eqPushS : AC := (.seq (.post (.reg [⟨(some 4), .op (.mv (.const (Value.bool false))), none⟩]) (.kill [4]))
  (.seq (.seq (.post (.reg [⟨(some 6), .op (.mv (.tmp 0)), none⟩,
    ⟨(some 7), .op (.len false (.tmp 6)), none⟩,
    ⟨(some 8), .op (.mv (.tmp 1)), none⟩,
    ⟨(some 9), .op (.len false (.tmp 8)), none⟩,
    ⟨(some 10), .op (.bin .neq (.tmp 7) (.tmp 9)), none⟩]) (.kill [6, 7, 8, 9]))
  (.cond (.tmp 10) (.ghost (.kill [0, 1, 10]) (.seq (.reg [⟨(some 4), .op (.mv (.const (Value.bool false))), none⟩])
  .ret))
  (.ghost (.kill [10]) .skip)))
  (.seq (.seq (.reg [⟨(some 5), .op (.mv (.const (Value.int .i64 0))), none⟩])
  (.block 0 lo_laws_eqPushS_0))
  (.ghost (.kill [0, 1, 5]) (.seq (.reg [⟨(some 4), .op (.mv (.const (Value.bool true))), none⟩])
  .ret)))))
theorem cf_laws_eqPushS : chkFn Try.prog i_laws_eqPushS ac_laws_eqPushS [.tmp 4] 27 = true := by decide +kernel
def fa_laws_eqPushS : FnA := ⟨ac_laws_eqPushS, [.tmp 4], 27, false, true, [], .any, none⟩

/-- The checked code of laws eqPushSS. -/
def lb_laws_eqPushSS_0 : AC := (.seq (.seq (.post (.reg [⟨(some 11), .op (.mv (.tmp 5)), none⟩,
    ⟨(some 12), .op (.mv (.tmp 0)), none⟩,
    ⟨(some 13), .op (.len false (.tmp 12)), none⟩,
    ⟨(some 14), .op (.bin .lss (.tmp 11) (.tmp 13)), none⟩]) (.kill [11, 12, 13]))
  (.cond (.tmp 14) (.ghost (.kill [14]) .skip)
  (.ghost (.kill [0, 1, 5, 14]) (.exit 0))))
  (.seq (.block 1 (.seq (.post (.draw [⟨0, ⟨(some 17), .op (.mv (.tmp 0)), none⟩, []⟩,
    ⟨1, ⟨(some 18), .op (.mv (.tmp 5)), none⟩, []⟩,
    ⟨2, ⟨(some 19), .op (.iaddrS (.tmp 17) (.tmp 18) 1), none⟩, []⟩,
    ⟨3, ⟨(some 20), .op (.load 1 false (.tmp 19)), none⟩, []⟩,
    ⟨4, ⟨(some 21), .op (.mv (.tmp 1)), none⟩, []⟩,
    ⟨5, ⟨(some 22), .op (.mv (.tmp 5)), none⟩, []⟩,
    ⟨6, ⟨(some 23), .op (.iaddrS (.tmp 21) (.tmp 22) 1), none⟩, []⟩,
    ⟨7, ⟨(some 24), .op (.load 1 false (.tmp 23)), none⟩, []⟩,
    ⟨8, ⟨(some 25), .call (.func i_laws_eqPushS) [(.tmp 20), (.tmp 24)], none⟩, []⟩,
    ⟨9, ⟨(some 26), .op (.un .not (.tmp 25)), none⟩, []⟩]
    [0, 0, 3, 7, 0, 0, 48, 112, 255, 511]) (.kill [17, 18, 19, 20, 21, 22, 23, 24, 25]))
  (.cond (.tmp 26) (.ghost (.kill [0, 1, 5, 26]) (.seq (.reg [⟨(some 4), .op (.mv (.const (Value.bool false))), none⟩])
  .ret))
  (.ghost (.kill [26]) .skip))))
  (.post (.reg [⟨(some 15), .op (.mv (.tmp 5)), none⟩,
    ⟨(some 16), .op (.bin .add (.tmp 15) (.const (Value.int .i64 1))), none⟩,
    ⟨(some 5), .op (.mv (.tmp 16)), none⟩]) (.kill [15, 16]))))
def lo_laws_eqPushSS_0 : AC := (.loop lb_laws_eqPushSS_0)
def ac_laws_eqPushSS : AC := (.seq (.post (.reg [⟨(some 4), .op (.mv (.const (Value.bool false))), none⟩]) (.kill [4]))
  (.seq (.seq (.post (.reg [⟨(some 6), .op (.mv (.tmp 0)), none⟩,
    ⟨(some 7), .op (.len false (.tmp 6)), none⟩,
    ⟨(some 8), .op (.mv (.tmp 1)), none⟩,
    ⟨(some 9), .op (.len false (.tmp 8)), none⟩,
    ⟨(some 10), .op (.bin .neq (.tmp 7) (.tmp 9)), none⟩]) (.kill [6, 7, 8, 9]))
  (.cond (.tmp 10) (.ghost (.kill [0, 1, 10]) (.seq (.reg [⟨(some 4), .op (.mv (.const (Value.bool false))), none⟩])
  .ret))
  (.ghost (.kill [10]) .skip)))
  (.seq (.seq (.reg [⟨(some 5), .op (.mv (.const (Value.int .i64 0))), none⟩])
  (.block 0 lo_laws_eqPushSS_0))
  (.ghost (.kill [0, 1, 5]) (.seq (.reg [⟨(some 4), .op (.mv (.const (Value.bool true))), none⟩])
  .ret)))))
theorem cf_laws_eqPushSS : chkFn Try.prog i_laws_eqPushSS ac_laws_eqPushSS [.tmp 4] 27 = true := by decide +kernel
def fa_laws_eqPushSS : FnA := ⟨ac_laws_eqPushSS, [.tmp 4], 27, false, true, [], .any, none⟩

/-- The checked code of laws eqInt64SSS. -/
def lb_laws_eqInt64SSS_0 : AC := (.seq (.seq (.post (.reg [⟨(some 11), .op (.mv (.tmp 5)), none⟩,
    ⟨(some 12), .op (.mv (.tmp 0)), none⟩,
    ⟨(some 13), .op (.len false (.tmp 12)), none⟩,
    ⟨(some 14), .op (.bin .lss (.tmp 11) (.tmp 13)), none⟩]) (.kill [11, 12, 13]))
  (.cond (.tmp 14) (.ghost (.kill [14]) .skip)
  (.ghost (.kill [0, 1, 5, 14]) (.exit 0))))
  (.seq (.block 1 (.seq (.post (.draw [⟨0, ⟨(some 17), .op (.mv (.tmp 0)), none⟩, []⟩,
    ⟨1, ⟨(some 18), .op (.mv (.tmp 5)), none⟩, []⟩,
    ⟨2, ⟨(some 19), .op (.iaddrS (.tmp 17) (.tmp 18) 1), none⟩, []⟩,
    ⟨3, ⟨(some 20), .op (.load 1 false (.tmp 19)), none⟩, []⟩,
    ⟨4, ⟨(some 21), .op (.mv (.tmp 1)), none⟩, []⟩,
    ⟨5, ⟨(some 22), .op (.mv (.tmp 5)), none⟩, []⟩,
    ⟨6, ⟨(some 23), .op (.iaddrS (.tmp 21) (.tmp 22) 1), none⟩, []⟩,
    ⟨7, ⟨(some 24), .op (.load 1 false (.tmp 23)), none⟩, []⟩,
    ⟨8, ⟨(some 25), .call (.func i_laws_eqInt64SS) [(.tmp 20), (.tmp 24)], none⟩, []⟩,
    ⟨9, ⟨(some 26), .op (.un .not (.tmp 25)), none⟩, []⟩]
    [0, 0, 3, 7, 0, 0, 48, 112, 255, 511]) (.kill [17, 18, 19, 20, 21, 22, 23, 24, 25]))
  (.cond (.tmp 26) (.ghost (.kill [0, 1, 5, 26]) (.seq (.reg [⟨(some 4), .op (.mv (.const (Value.bool false))), none⟩])
  .ret))
  (.ghost (.kill [26]) .skip))))
  (.post (.reg [⟨(some 15), .op (.mv (.tmp 5)), none⟩,
    ⟨(some 16), .op (.bin .add (.tmp 15) (.const (Value.int .i64 1))), none⟩,
    ⟨(some 5), .op (.mv (.tmp 16)), none⟩]) (.kill [15, 16]))))
def lo_laws_eqInt64SSS_0 : AC := (.loop lb_laws_eqInt64SSS_0)
def ac_laws_eqInt64SSS : AC := (.seq (.post (.reg [⟨(some 4), .op (.mv (.const (Value.bool false))), none⟩]) (.kill [4]))
  (.seq (.seq (.post (.reg [⟨(some 6), .op (.mv (.tmp 0)), none⟩,
    ⟨(some 7), .op (.len false (.tmp 6)), none⟩,
    ⟨(some 8), .op (.mv (.tmp 1)), none⟩,
    ⟨(some 9), .op (.len false (.tmp 8)), none⟩,
    ⟨(some 10), .op (.bin .neq (.tmp 7) (.tmp 9)), none⟩]) (.kill [6, 7, 8, 9]))
  (.cond (.tmp 10) (.ghost (.kill [0, 1, 10]) (.seq (.reg [⟨(some 4), .op (.mv (.const (Value.bool false))), none⟩])
  .ret))
  (.ghost (.kill [10]) .skip)))
  (.seq (.seq (.reg [⟨(some 5), .op (.mv (.const (Value.int .i64 0))), none⟩])
  (.block 0 lo_laws_eqInt64SSS_0))
  (.ghost (.kill [0, 1, 5]) (.seq (.reg [⟨(some 4), .op (.mv (.const (Value.bool true))), none⟩])
  .ret)))))
theorem cf_laws_eqInt64SSS : chkFn Try.prog i_laws_eqInt64SSS ac_laws_eqInt64SSS [.tmp 4] 27 = true := by decide +kernel
def fa_laws_eqInt64SSS : FnA := ⟨ac_laws_eqInt64SSS, [.tmp 4], 27, false, true, [], .any, none⟩

/-- The checked code of laws eqChecker. -/
def ac_laws_eqChecker : AC := (.seq (.post (.reg [⟨(some 2), .op (.box true (.tmp 0)), none⟩,
    ⟨(some 3), .op (.box true (.tmp 1)), none⟩,
    ⟨(some 4), .op (.mv (.const (Value.bool false))), none⟩]) (.kill [0, 1, 4]))
  (.seq (.seq (.post (.reg [⟨(some 5), .op (.faddr (.tmp 2) 0), none⟩,
    ⟨(some 6), .op (.load 1 false (.tmp 5)), none⟩,
    ⟨(some 7), .op (.faddr (.tmp 3) 0), none⟩,
    ⟨(some 8), .op (.load 1 false (.tmp 7)), none⟩,
    ⟨(some 9), .op (.bin .neq (.tmp 6) (.tmp 8)), none⟩]) (.kill [5, 6, 7, 8]))
  (.cond (.tmp 9) (.ghost (.kill [2, 3, 9]) (.seq (.reg [⟨(some 4), .op (.mv (.const (Value.bool false))), none⟩])
  .ret))
  (.ghost (.kill [9]) .skip)))
  (.seq (.seq (.post (.reg [⟨(some 10), .op (.faddr (.tmp 2) 1), none⟩,
    ⟨(some 11), .op (.load 1 false (.tmp 10)), none⟩,
    ⟨(some 12), .op (.faddr (.tmp 3) 1), none⟩,
    ⟨(some 13), .op (.load 1 false (.tmp 12)), none⟩,
    ⟨(some 14), .op (.bin .neq (.tmp 11) (.tmp 13)), none⟩]) (.kill [10, 11, 12, 13]))
  (.cond (.tmp 14) (.ghost (.kill [2, 3, 14]) (.seq (.reg [⟨(some 4), .op (.mv (.const (Value.bool false))), none⟩])
  .ret))
  (.ghost (.kill [14]) .skip)))
  (.seq (.seq (.post (.reg [⟨(some 15), .op (.faddr (.tmp 2) 2), none⟩,
    ⟨(some 16), .op (.load 1 false (.tmp 15)), none⟩,
    ⟨(some 17), .op (.faddr (.tmp 3) 2), none⟩,
    ⟨(some 18), .op (.load 1 false (.tmp 17)), none⟩,
    ⟨(some 19), .call (.func i_laws_eqBoolS) [(.tmp 16), (.tmp 18)], none⟩,
    ⟨(some 20), .op (.un .not (.tmp 19)), none⟩]) (.kill [15, 16, 17, 18, 19]))
  (.cond (.tmp 20) (.ghost (.kill [2, 3, 20]) (.seq (.reg [⟨(some 4), .op (.mv (.const (Value.bool false))), none⟩])
  .ret))
  (.ghost (.kill [20]) .skip)))
  (.seq (.seq (.post (.reg [⟨(some 21), .op (.faddr (.tmp 2) 3), none⟩,
    ⟨(some 22), .op (.load 1 false (.tmp 21)), none⟩,
    ⟨(some 23), .op (.faddr (.tmp 3) 3), none⟩,
    ⟨(some 24), .op (.load 1 false (.tmp 23)), none⟩,
    ⟨(some 25), .call (.func i_laws_eqPushSS) [(.tmp 22), (.tmp 24)], none⟩,
    ⟨(some 26), .op (.un .not (.tmp 25)), none⟩]) (.kill [21, 22, 23, 24, 25]))
  (.cond (.tmp 26) (.ghost (.kill [2, 3, 26]) (.seq (.reg [⟨(some 4), .op (.mv (.const (Value.bool false))), none⟩])
  .ret))
  (.ghost (.kill [26]) .skip)))
  (.seq (.seq (.post (.reg [⟨(some 27), .op (.faddr (.tmp 2) 4), none⟩,
    ⟨(some 28), .op (.load 1 false (.tmp 27)), none⟩,
    ⟨(some 29), .op (.faddr (.tmp 3) 4), none⟩,
    ⟨(some 30), .op (.load 1 false (.tmp 29)), none⟩,
    ⟨(some 31), .call (.func i_laws_eqInt64SSS) [(.tmp 28), (.tmp 30)], none⟩,
    ⟨(some 32), .op (.un .not (.tmp 31)), none⟩]) (.kill [27, 28, 29, 30, 31]))
  (.cond (.tmp 32) (.ghost (.kill [2, 3, 32]) (.seq (.reg [⟨(some 4), .op (.mv (.const (Value.bool false))), none⟩])
  .ret))
  (.ghost (.kill [32]) .skip)))
  (.seq (.seq (.post (.reg [⟨(some 33), .op (.faddr (.tmp 2) 5), none⟩,
    ⟨(some 34), .op (.load 1 false (.tmp 33)), none⟩,
    ⟨(some 35), .op (.faddr (.tmp 3) 5), none⟩,
    ⟨(some 36), .op (.load 1 false (.tmp 35)), none⟩,
    ⟨(some 37), .call (.func i_laws_eqInt64SS) [(.tmp 34), (.tmp 36)], none⟩,
    ⟨(some 38), .op (.un .not (.tmp 37)), none⟩]) (.kill [2, 3, 33, 34, 35, 36, 37]))
  (.cond (.tmp 38) (.ghost (.kill [38]) (.seq (.reg [⟨(some 4), .op (.mv (.const (Value.bool false))), none⟩])
  .ret))
  (.ghost (.kill [38]) .skip)))
  (.seq (.reg [⟨(some 4), .op (.mv (.const (Value.bool true))), none⟩])
  .ret))))))))
theorem cf_laws_eqChecker : chkFn Try.prog i_laws_eqChecker ac_laws_eqChecker [.tmp 4] 39 = true := by decide +kernel
def fa_laws_eqChecker : FnA := ⟨ac_laws_eqChecker, [.tmp 4], 39, false, true, [(.agg [.any, .any, (.lst 1 .any), (.lst 1 (.lst 2 .any)), (.lst 1 (.lst 1 (.lst 1 .any))), (.lst 1 (.lst 1 .any))]), (.agg [.any, .any, (.lst 1 .any), (.lst 1 (.lst 2 .any)), (.lst 1 (.lst 1 (.lst 1 .any))), (.lst 1 (.lst 1 .any))])], .any, none⟩

/-- The checked code of laws markInt64S. -/
def lb_laws_markInt64S_0 : AC := (.seq (.seq (.post (.reg [⟨(some 6), .op (.mv (.tmp 5)), none⟩,
    ⟨(some 7), .op (.mv (.tmp 0)), none⟩,
    ⟨(some 8), .op (.len false (.tmp 7)), none⟩,
    ⟨(some 9), .op (.bin .lss (.tmp 6) (.tmp 8)), none⟩]) (.kill [6, 7, 8]))
  (.cond (.tmp 9) (.ghost (.kill [9]) .skip)
  (.ghost (.kill [0, 5, 9]) (.exit 0))))
  (.seq (.block 1 (.seq (.post (.reg [⟨(some 12), .op (.mv (.tmp 0)), none⟩,
    ⟨(some 13), .op (.mv (.tmp 5)), none⟩,
    ⟨(some 14), .op (.mv (.tmp 1)), none⟩,
    ⟨(some 15), .op (.iaddrS (.tmp 12) (.tmp 13) 1), none⟩,
    ⟨none, .op (.store 1 (.tmp 15) (.tmp 14)), none⟩]) (.kill [12, 13, 14, 15]))
  (.post (.reg [⟨(some 16), .op (.mv (.tmp 1)), none⟩,
    ⟨(some 17), .op (.bin .add (.tmp 16) (.const (Value.int .i64 1))), none⟩,
    ⟨(some 1), .op (.mv (.tmp 17)), none⟩]) (.kill [16, 17]))))
  (.post (.reg [⟨(some 10), .op (.mv (.tmp 5)), none⟩,
    ⟨(some 11), .op (.bin .add (.tmp 10) (.const (Value.int .i64 1))), none⟩,
    ⟨(some 5), .op (.mv (.tmp 11)), none⟩]) (.kill [10, 11]))))
def lo_laws_markInt64S_0 : AC := (.loop lb_laws_markInt64S_0)
def ac_laws_markInt64S : AC := (.seq (.post (.reg [⟨(some 4), .op (.mv (.const (Value.int .i64 0))), none⟩]) (.kill [4]))
  (.seq (.seq (.reg [⟨(some 5), .op (.mv (.const (Value.int .i64 0))), none⟩])
  (.block 0 lo_laws_markInt64S_0))
  (.ghost (.kill [0, 5]) (.seq (.post (.reg [⟨(some 18), .op (.mv (.tmp 1)), none⟩,
    ⟨(some 4), .op (.mv (.tmp 18)), none⟩]) (.kill [1, 18]))
  .ret))))
theorem cf_laws_markInt64S : chkFn Try.prog i_laws_markInt64S ac_laws_markInt64S [.tmp 4] 19 = true := by decide +kernel
def fa_laws_markInt64S : FnA := ⟨ac_laws_markInt64S, [.tmp 4], 19, true, false, [], .any, none⟩

/-- The checked code of laws markInt64SS. -/
def lb_laws_markInt64SS_0 : AC := (.seq (.seq (.post (.reg [⟨(some 6), .op (.mv (.tmp 5)), none⟩,
    ⟨(some 7), .op (.mv (.tmp 0)), none⟩,
    ⟨(some 8), .op (.len false (.tmp 7)), none⟩,
    ⟨(some 9), .op (.bin .lss (.tmp 6) (.tmp 8)), none⟩]) (.kill [6, 7, 8]))
  (.cond (.tmp 9) (.ghost (.kill [9]) .skip)
  (.ghost (.kill [0, 5, 9]) (.exit 0))))
  (.seq (.block 1 (.post (.reg [⟨(some 12), .op (.mv (.tmp 0)), none⟩,
    ⟨(some 13), .op (.mv (.tmp 5)), none⟩,
    ⟨(some 14), .op (.iaddrS (.tmp 12) (.tmp 13) 1), none⟩,
    ⟨(some 15), .op (.load 1 false (.tmp 14)), none⟩,
    ⟨(some 16), .op (.mv (.tmp 1)), none⟩,
    ⟨(some 17), .call (.func i_laws_markInt64S) [(.tmp 15), (.tmp 16)], none⟩,
    ⟨(some 1), .op (.mv (.tmp 17)), none⟩]) (.kill [12, 13, 14, 15, 16, 17])))
  (.post (.reg [⟨(some 10), .op (.mv (.tmp 5)), none⟩,
    ⟨(some 11), .op (.bin .add (.tmp 10) (.const (Value.int .i64 1))), none⟩,
    ⟨(some 5), .op (.mv (.tmp 11)), none⟩]) (.kill [10, 11]))))
def lo_laws_markInt64SS_0 : AC := (.loop lb_laws_markInt64SS_0)
def ac_laws_markInt64SS : AC := (.seq (.post (.reg [⟨(some 4), .op (.mv (.const (Value.int .i64 0))), none⟩]) (.kill [4]))
  (.seq (.seq (.reg [⟨(some 5), .op (.mv (.const (Value.int .i64 0))), none⟩])
  (.block 0 lo_laws_markInt64SS_0))
  (.ghost (.kill [0, 5]) (.seq (.post (.reg [⟨(some 18), .op (.mv (.tmp 1)), none⟩,
    ⟨(some 4), .op (.mv (.tmp 18)), none⟩]) (.kill [1, 18]))
  .ret))))
theorem cf_laws_markInt64SS : chkFn Try.prog i_laws_markInt64SS ac_laws_markInt64SS [.tmp 4] 19 = true := by decide +kernel
def fa_laws_markInt64SS : FnA := ⟨ac_laws_markInt64SS, [.tmp 4], 19, true, false, [], .any, none⟩

/-- The checked code of laws markBoolS. -/
def lb_laws_markBoolS_0 : AC := (.seq (.seq (.post (.reg [⟨(some 6), .op (.mv (.tmp 5)), none⟩,
    ⟨(some 7), .op (.mv (.tmp 0)), none⟩,
    ⟨(some 8), .op (.len false (.tmp 7)), none⟩,
    ⟨(some 9), .op (.bin .lss (.tmp 6) (.tmp 8)), none⟩]) (.kill [6, 7, 8]))
  (.cond (.tmp 9) (.ghost (.kill [9]) .skip)
  (.ghost (.kill [0, 5, 9]) (.exit 0))))
  (.seq (.block 1 (.seq (.post (.reg [⟨(some 12), .op (.mv (.tmp 0)), none⟩,
    ⟨(some 13), .op (.mv (.tmp 5)), none⟩,
    ⟨(some 14), .op (.mv (.tmp 1)), none⟩,
    ⟨(some 15), .op (.bin .rem (.tmp 14) (.const (Value.int .i64 3))), none⟩,
    ⟨(some 16), .op (.bin .eql (.tmp 15) (.const (Value.int .i64 0))), none⟩,
    ⟨(some 17), .op (.iaddrS (.tmp 12) (.tmp 13) 1), none⟩,
    ⟨none, .op (.store 1 (.tmp 17) (.tmp 16)), none⟩]) (.kill [12, 13, 14, 15, 16, 17]))
  (.post (.reg [⟨(some 18), .op (.mv (.tmp 1)), none⟩,
    ⟨(some 19), .op (.bin .add (.tmp 18) (.const (Value.int .i64 1))), none⟩,
    ⟨(some 1), .op (.mv (.tmp 19)), none⟩]) (.kill [18, 19]))))
  (.post (.reg [⟨(some 10), .op (.mv (.tmp 5)), none⟩,
    ⟨(some 11), .op (.bin .add (.tmp 10) (.const (Value.int .i64 1))), none⟩,
    ⟨(some 5), .op (.mv (.tmp 11)), none⟩]) (.kill [10, 11]))))
def lo_laws_markBoolS_0 : AC := (.loop lb_laws_markBoolS_0)
def ac_laws_markBoolS : AC := (.seq (.post (.reg [⟨(some 4), .op (.mv (.const (Value.int .i64 0))), none⟩]) (.kill [4]))
  (.seq (.seq (.reg [⟨(some 5), .op (.mv (.const (Value.int .i64 0))), none⟩])
  (.block 0 lo_laws_markBoolS_0))
  (.ghost (.kill [0, 5]) (.seq (.post (.reg [⟨(some 20), .op (.mv (.tmp 1)), none⟩,
    ⟨(some 4), .op (.mv (.tmp 20)), none⟩]) (.kill [1, 20]))
  .ret))))
theorem cf_laws_markBoolS : chkFn Try.prog i_laws_markBoolS ac_laws_markBoolS [.tmp 4] 21 = true := by decide +kernel
def fa_laws_markBoolS : FnA := ⟨ac_laws_markBoolS, [.tmp 4], 21, true, false, [], .any, none⟩

/-- The checked code of laws markPushS. -/
def lb_laws_markPushS_0 : AC := (.seq (.seq (.post (.reg [⟨(some 6), .op (.mv (.tmp 5)), none⟩,
    ⟨(some 7), .op (.mv (.tmp 0)), none⟩,
    ⟨(some 8), .op (.len false (.tmp 7)), none⟩,
    ⟨(some 9), .op (.bin .lss (.tmp 6) (.tmp 8)), none⟩]) (.kill [6, 7, 8]))
  (.cond (.tmp 9) (.ghost (.kill [9]) .skip)
  (.ghost (.kill [0, 5, 9]) (.exit 0))))
  (.seq (.block 1 (.seq (.post (.reg [⟨(some 12), .op (.mv (.tmp 0)), none⟩,
    ⟨(some 13), .op (.mv (.tmp 5)), none⟩,
    ⟨(some 14), .op (.mv (.tmp 1)), none⟩,
    ⟨(some 15), .op (.iaddrS (.tmp 12) (.tmp 13) 2), none⟩,
    ⟨(some 16), .op (.faddr (.tmp 15) 0), none⟩,
    ⟨none, .op (.store 1 (.tmp 16) (.tmp 14)), none⟩]) (.kill [12, 13, 14, 15, 16]))
  (.seq (.post (.reg [⟨(some 17), .op (.mv (.tmp 1)), none⟩,
    ⟨(some 18), .op (.bin .add (.tmp 17) (.const (Value.int .i64 1))), none⟩,
    ⟨(some 1), .op (.mv (.tmp 18)), none⟩]) (.kill [17, 18]))
  (.seq (.post (.reg [⟨(some 19), .op (.mv (.tmp 0)), none⟩,
    ⟨(some 20), .op (.mv (.tmp 5)), none⟩,
    ⟨(some 21), .op (.mv (.tmp 1)), none⟩,
    ⟨(some 22), .op (.iaddrS (.tmp 19) (.tmp 20) 2), none⟩,
    ⟨(some 23), .op (.faddr (.tmp 22) 1), none⟩,
    ⟨none, .op (.store 1 (.tmp 23) (.tmp 21)), none⟩]) (.kill [19, 20, 21, 22, 23]))
  (.post (.reg [⟨(some 24), .op (.mv (.tmp 1)), none⟩,
    ⟨(some 25), .op (.bin .add (.tmp 24) (.const (Value.int .i64 1))), none⟩,
    ⟨(some 1), .op (.mv (.tmp 25)), none⟩]) (.kill [24, 25]))))))
  (.post (.reg [⟨(some 10), .op (.mv (.tmp 5)), none⟩,
    ⟨(some 11), .op (.bin .add (.tmp 10) (.const (Value.int .i64 1))), none⟩,
    ⟨(some 5), .op (.mv (.tmp 11)), none⟩]) (.kill [10, 11]))))
def lo_laws_markPushS_0 : AC := (.loop lb_laws_markPushS_0)
def ac_laws_markPushS : AC := (.seq (.post (.reg [⟨(some 4), .op (.mv (.const (Value.int .i64 0))), none⟩]) (.kill [4]))
  (.seq (.seq (.reg [⟨(some 5), .op (.mv (.const (Value.int .i64 0))), none⟩])
  (.block 0 lo_laws_markPushS_0))
  (.ghost (.kill [0, 5]) (.seq (.post (.reg [⟨(some 26), .op (.mv (.tmp 1)), none⟩,
    ⟨(some 4), .op (.mv (.tmp 26)), none⟩]) (.kill [1, 26]))
  .ret))))
theorem cf_laws_markPushS : chkFn Try.prog i_laws_markPushS ac_laws_markPushS [.tmp 4] 27 = true := by decide +kernel
def fa_laws_markPushS : FnA := ⟨ac_laws_markPushS, [.tmp 4], 27, true, false, [], .any, none⟩

/-- The checked code of laws markPushSS. -/
def lb_laws_markPushSS_0 : AC := (.seq (.seq (.post (.reg [⟨(some 6), .op (.mv (.tmp 5)), none⟩,
    ⟨(some 7), .op (.mv (.tmp 0)), none⟩,
    ⟨(some 8), .op (.len false (.tmp 7)), none⟩,
    ⟨(some 9), .op (.bin .lss (.tmp 6) (.tmp 8)), none⟩]) (.kill [6, 7, 8]))
  (.cond (.tmp 9) (.ghost (.kill [9]) .skip)
  (.ghost (.kill [0, 5, 9]) (.exit 0))))
  (.seq (.block 1 (.post (.reg [⟨(some 12), .op (.mv (.tmp 0)), none⟩,
    ⟨(some 13), .op (.mv (.tmp 5)), none⟩,
    ⟨(some 14), .op (.iaddrS (.tmp 12) (.tmp 13) 1), none⟩,
    ⟨(some 15), .op (.load 1 false (.tmp 14)), none⟩,
    ⟨(some 16), .op (.mv (.tmp 1)), none⟩,
    ⟨(some 17), .call (.func i_laws_markPushS) [(.tmp 15), (.tmp 16)], none⟩,
    ⟨(some 1), .op (.mv (.tmp 17)), none⟩]) (.kill [12, 13, 14, 15, 16, 17])))
  (.post (.reg [⟨(some 10), .op (.mv (.tmp 5)), none⟩,
    ⟨(some 11), .op (.bin .add (.tmp 10) (.const (Value.int .i64 1))), none⟩,
    ⟨(some 5), .op (.mv (.tmp 11)), none⟩]) (.kill [10, 11]))))
def lo_laws_markPushSS_0 : AC := (.loop lb_laws_markPushSS_0)
def ac_laws_markPushSS : AC := (.seq (.post (.reg [⟨(some 4), .op (.mv (.const (Value.int .i64 0))), none⟩]) (.kill [4]))
  (.seq (.seq (.reg [⟨(some 5), .op (.mv (.const (Value.int .i64 0))), none⟩])
  (.block 0 lo_laws_markPushSS_0))
  (.ghost (.kill [0, 5]) (.seq (.post (.reg [⟨(some 18), .op (.mv (.tmp 1)), none⟩,
    ⟨(some 4), .op (.mv (.tmp 18)), none⟩]) (.kill [1, 18]))
  .ret))))
theorem cf_laws_markPushSS : chkFn Try.prog i_laws_markPushSS ac_laws_markPushSS [.tmp 4] 19 = true := by decide +kernel
def fa_laws_markPushSS : FnA := ⟨ac_laws_markPushSS, [.tmp 4], 19, true, false, [], .any, none⟩

/-- The checked code of laws markInt64SSS. -/
def lb_laws_markInt64SSS_0 : AC := (.seq (.seq (.post (.reg [⟨(some 6), .op (.mv (.tmp 5)), none⟩,
    ⟨(some 7), .op (.mv (.tmp 0)), none⟩,
    ⟨(some 8), .op (.len false (.tmp 7)), none⟩,
    ⟨(some 9), .op (.bin .lss (.tmp 6) (.tmp 8)), none⟩]) (.kill [6, 7, 8]))
  (.cond (.tmp 9) (.ghost (.kill [9]) .skip)
  (.ghost (.kill [0, 5, 9]) (.exit 0))))
  (.seq (.block 1 (.post (.reg [⟨(some 12), .op (.mv (.tmp 0)), none⟩,
    ⟨(some 13), .op (.mv (.tmp 5)), none⟩,
    ⟨(some 14), .op (.iaddrS (.tmp 12) (.tmp 13) 1), none⟩,
    ⟨(some 15), .op (.load 1 false (.tmp 14)), none⟩,
    ⟨(some 16), .op (.mv (.tmp 1)), none⟩,
    ⟨(some 17), .call (.func i_laws_markInt64SS) [(.tmp 15), (.tmp 16)], none⟩,
    ⟨(some 1), .op (.mv (.tmp 17)), none⟩]) (.kill [12, 13, 14, 15, 16, 17])))
  (.post (.reg [⟨(some 10), .op (.mv (.tmp 5)), none⟩,
    ⟨(some 11), .op (.bin .add (.tmp 10) (.const (Value.int .i64 1))), none⟩,
    ⟨(some 5), .op (.mv (.tmp 11)), none⟩]) (.kill [10, 11]))))
def lo_laws_markInt64SSS_0 : AC := (.loop lb_laws_markInt64SSS_0)
def ac_laws_markInt64SSS : AC := (.seq (.post (.reg [⟨(some 4), .op (.mv (.const (Value.int .i64 0))), none⟩]) (.kill [4]))
  (.seq (.seq (.reg [⟨(some 5), .op (.mv (.const (Value.int .i64 0))), none⟩])
  (.block 0 lo_laws_markInt64SSS_0))
  (.ghost (.kill [0, 5]) (.seq (.post (.reg [⟨(some 18), .op (.mv (.tmp 1)), none⟩,
    ⟨(some 4), .op (.mv (.tmp 18)), none⟩]) (.kill [1, 18]))
  .ret))))
theorem cf_laws_markInt64SSS : chkFn Try.prog i_laws_markInt64SSS ac_laws_markInt64SSS [.tmp 4] 19 = true := by decide +kernel
def fa_laws_markInt64SSS : FnA := ⟨ac_laws_markInt64SSS, [.tmp 4], 19, true, false, [], .any, none⟩

/-- The checked code of laws markChecker. -/
def ac_laws_markChecker : AC := (.seq (.post (.reg [⟨(some 2), .op (.box false (.tmp 0)), none⟩,
    ⟨(some 4), .op (.mv (.const (Value.int .i64 0))), none⟩]) (.kill [0, 4]))
  (.seq (.post (.reg [⟨(some 5), .op (.faddr (.tmp 2) 2), none⟩,
    ⟨(some 6), .op (.load 1 false (.tmp 5)), none⟩,
    ⟨(some 7), .op (.mv (.tmp 1)), none⟩,
    ⟨(some 8), .call (.func i_laws_markBoolS) [(.tmp 6), (.tmp 7)], none⟩,
    ⟨(some 1), .op (.mv (.tmp 8)), none⟩]) (.kill [5, 6, 7, 8]))
  (.seq (.post (.reg [⟨(some 9), .op (.faddr (.tmp 2) 3), none⟩,
    ⟨(some 10), .op (.load 1 false (.tmp 9)), none⟩,
    ⟨(some 11), .op (.mv (.tmp 1)), none⟩,
    ⟨(some 12), .call (.func i_laws_markPushSS) [(.tmp 10), (.tmp 11)], none⟩,
    ⟨(some 1), .op (.mv (.tmp 12)), none⟩]) (.kill [9, 10, 11, 12]))
  (.seq (.post (.reg [⟨(some 13), .op (.faddr (.tmp 2) 4), none⟩,
    ⟨(some 14), .op (.load 1 false (.tmp 13)), none⟩,
    ⟨(some 15), .op (.mv (.tmp 1)), none⟩,
    ⟨(some 16), .call (.func i_laws_markInt64SSS) [(.tmp 14), (.tmp 15)], none⟩,
    ⟨(some 1), .op (.mv (.tmp 16)), none⟩]) (.kill [13, 14, 15, 16]))
  (.seq (.post (.reg [⟨(some 17), .op (.faddr (.tmp 2) 5), none⟩,
    ⟨(some 18), .op (.load 1 false (.tmp 17)), none⟩,
    ⟨(some 19), .op (.mv (.tmp 1)), none⟩,
    ⟨(some 20), .call (.func i_laws_markInt64SS) [(.tmp 18), (.tmp 19)], none⟩,
    ⟨(some 1), .op (.mv (.tmp 20)), none⟩]) (.kill [2, 17, 18, 19, 20]))
  (.seq (.post (.reg [⟨(some 21), .op (.mv (.tmp 1)), none⟩,
    ⟨(some 4), .op (.mv (.tmp 21)), none⟩]) (.kill [1, 21]))
  .ret))))))
theorem cf_laws_markChecker : chkFn Try.prog i_laws_markChecker ac_laws_markChecker [.tmp 4] 22 = true := by decide +kernel
def fa_laws_markChecker : FnA := ⟨ac_laws_markChecker, [.tmp 4], 22, true, false, [], .any, none⟩

/-- The checked code of spec l00In. -/
def ac_spec_l00In : AC := (.seq (.post (.reg [⟨(some 6), .op (.mv (.const (Value.bool false))), none⟩]) (.kill [6]))
  (.seq (.post (.reg [⟨(some 7), .op (.mv (.tmp 0)), none⟩,
    ⟨(some 8), .op (.mv (.tmp 1)), none⟩,
    ⟨(some 9), .op (.bin .geq (.tmp 7) (.tmp 8)), none⟩,
    ⟨(some 10), .op (.mv (.tmp 9)), none⟩,
    ⟨(some 11), .op (.mv (.tmp 0)), some (10, true)⟩,
    ⟨(some 12), .op (.mv (.tmp 2)), some (10, true)⟩,
    ⟨(some 13), .op (.bin .leq (.tmp 11) (.tmp 12)), some (10, true)⟩,
    ⟨(some 14), .op (.pick (.tmp 10) (.tmp 13) (.const (Value.bool false))), none⟩,
    ⟨(some 6), .op (.mv (.tmp 14)), none⟩]) (.kill [0, 1, 2, 7, 8, 9, 10, 11, 12, 13, 14]))
  .ret))
theorem cf_spec_l00In : chkFn Try.prog i_spec_l00In ac_spec_l00In [.tmp 6] 15 = true := by decide +kernel
def fa_spec_l00In : FnA := ⟨ac_spec_l00In, [.tmp 6], 15, false, true, [], .any, none⟩

/-- The checked code of spec l02List. -/
def lb_spec_l02List_0 : AC := (.seq (.seq (.post (.reg [⟨(some 12), .op (.mv (.tmp 7)), none⟩,
    ⟨(some 13), .op (.mv (.tmp 0)), none⟩,
    ⟨(some 14), .op (.len false (.tmp 13)), none⟩,
    ⟨(some 15), .op (.bin .lss (.tmp 12) (.tmp 14)), none⟩]) (.kill [12, 13, 14]))
  (.cond (.tmp 15) (.ghost (.kill [15]) .skip)
  (.ghost (.kill [0, 2, 7, 15]) (.exit 0))))
  (.seq (.block 1 (.seq (.post (.reg [⟨(some 18), .op (.mv (.tmp 0)), none⟩,
    ⟨(some 19), .op (.mv (.tmp 7)), none⟩,
    ⟨(some 20), .op (.iaddrS (.tmp 18) (.tmp 19) 1), none⟩,
    ⟨(some 21), .op (.load 1 false (.tmp 20)), none⟩,
    ⟨(some 22), .op (.mv (.tmp 2)), none⟩,
    ⟨(some 23), .op (.bin .sub (.tmp 22) (.const (Value.int .i64 1))), none⟩,
    ⟨(some 24), .call (.func i_spec_l00In) [(.tmp 21), (.const (Value.int .i64 0)), (.tmp 23)], none⟩,
    ⟨(some 25), .op (.un .not (.tmp 24)), none⟩]) (.kill [18, 19, 20, 21, 22, 23, 24]))
  (.cond (.tmp 25) (.ghost (.kill [0, 2, 7, 25]) (.seq (.reg [⟨(some 6), .op (.mv (.const (Value.bool false))), none⟩])
  .ret))
  (.ghost (.kill [25]) .skip))))
  (.post (.reg [⟨(some 16), .op (.mv (.tmp 7)), none⟩,
    ⟨(some 17), .op (.bin .add (.tmp 16) (.const (Value.int .i64 1))), none⟩,
    ⟨(some 7), .op (.mv (.tmp 17)), none⟩]) (.kill [16, 17]))))
def lo_spec_l02List_0 : AC := (.loop lb_spec_l02List_0)
def ac_spec_l02List : AC := (.seq (.post (.reg [⟨(some 6), .op (.mv (.const (Value.bool false))), none⟩]) (.kill [6]))
  (.seq (.seq (.post (.reg [⟨(some 8), .op (.mv (.tmp 0)), none⟩,
    ⟨(some 9), .op (.len false (.tmp 8)), none⟩,
    ⟨(some 10), .op (.mv (.tmp 1)), none⟩,
    ⟨(some 11), .op (.bin .neq (.tmp 9) (.tmp 10)), none⟩]) (.kill [1, 8, 9, 10]))
  (.cond (.tmp 11) (.ghost (.kill [0, 2, 11]) (.seq (.reg [⟨(some 6), .op (.mv (.const (Value.bool false))), none⟩])
  .ret))
  (.ghost (.kill [11]) .skip)))
  (.seq (.seq (.reg [⟨(some 7), .op (.mv (.const (Value.int .i64 0))), none⟩])
  (.block 0 lo_spec_l02List_0))
  (.ghost (.kill [0, 2, 7]) (.seq (.reg [⟨(some 6), .op (.mv (.const (Value.bool true))), none⟩])
  .ret)))))
theorem cf_spec_l02List : chkFn Try.prog i_spec_l02List ac_spec_l02List [.tmp 6] 26 = true := by decide +kernel
def fa_spec_l02List : FnA := ⟨ac_spec_l02List, [.tmp 6], 26, false, true, [], .any, none⟩

/-- The checked code of spec l02Ok. -/
def lb_spec_l02Ok_0 : AC := (.seq (.seq (.post (.reg [⟨(some 96), .op (.mv (.tmp 5)), none⟩,
    ⟨(some 97), .op (.bin .lss (.tmp 96) (.const (Value.int .i64 2))), none⟩]) (.kill [96]))
  (.cond (.tmp 97) (.ghost (.kill [97]) .skip)
  (.ghost (.kill [5, 97]) (.exit 2))))
  (.seq (.block 3 (.seq (.post (.draw [⟨0, ⟨(some 100), .op (.mv (.tmp 0)), none⟩, []⟩,
    ⟨1, ⟨(some 101), .op (.nilc (.tmp 100)), none⟩, []⟩,
    ⟨2, ⟨(some 102), .op (.faddr (.tmp 101) 3), none⟩, []⟩,
    ⟨3, ⟨(some 103), .op (.load 1 false (.tmp 102)), none⟩, []⟩,
    ⟨4, ⟨(some 104), .op (.mv (.tmp 4)), none⟩, []⟩,
    ⟨5, ⟨(some 105), .op (.iaddrS (.tmp 103) (.tmp 104) 1), none⟩, []⟩,
    ⟨6, ⟨(some 106), .op (.load 1 false (.tmp 105)), none⟩, []⟩,
    ⟨7, ⟨(some 107), .op (.mv (.tmp 5)), none⟩, []⟩,
    ⟨8, ⟨(some 108), .op (.iaddrS (.tmp 106) (.tmp 107) 2), none⟩, []⟩,
    ⟨9, ⟨(some 109), .op (.faddr (.tmp 108) 0), none⟩, []⟩,
    ⟨10, ⟨(some 110), .op (.load 1 false (.tmp 109)), none⟩, []⟩,
    ⟨11, ⟨(some 111), .op (.mv (.tmp 3)), none⟩, []⟩,
    ⟨12, ⟨(some 112), .op (.bin .sub (.tmp 111) (.const (Value.int .i64 1))), none⟩, []⟩,
    ⟨13, ⟨(some 113), .call (.func i_spec_l00In) [(.tmp 110), (.const (Value.int .i64 0)), (.tmp 112)], none⟩, []⟩,
    ⟨14, ⟨(some 114), .op (.un .not (.tmp 113)), none⟩, []⟩,
    ⟨15, ⟨(some 115), .op (.mv (.tmp 114)), none⟩, []⟩,
    ⟨16, ⟨(some 116), .op (.mv (.tmp 0)), some (115, false)⟩, []⟩,
    ⟨17, ⟨(some 117), .op (.nilc (.tmp 116)), some (115, false)⟩, []⟩,
    ⟨18, ⟨(some 118), .op (.faddr (.tmp 117) 3), some (115, false)⟩, []⟩,
    ⟨19, ⟨(some 119), .op (.load 1 false (.tmp 118)), some (115, false)⟩, []⟩,
    ⟨20, ⟨(some 120), .op (.mv (.tmp 4)), some (115, false)⟩, []⟩,
    ⟨21, ⟨(some 121), .op (.iaddrS (.tmp 119) (.tmp 120) 1), some (115, false)⟩, []⟩,
    ⟨22, ⟨(some 122), .op (.load 1 false (.tmp 121)), some (115, false)⟩, []⟩,
    ⟨23, ⟨(some 123), .op (.mv (.tmp 5)), some (115, false)⟩, []⟩,
    ⟨24, ⟨(some 124), .op (.iaddrS (.tmp 122) (.tmp 123) 2), some (115, false)⟩, []⟩,
    ⟨25, ⟨(some 125), .op (.faddr (.tmp 124) 1), some (115, false)⟩, []⟩,
    ⟨26, ⟨(some 126), .op (.load 1 false (.tmp 125)), some (115, false)⟩, []⟩,
    ⟨27, ⟨(some 127), .op (.mv (.tmp 0)), some (115, false)⟩, []⟩,
    ⟨28, ⟨(some 128), .op (.nilc (.tmp 127)), some (115, false)⟩, []⟩,
    ⟨29, ⟨(some 129), .op (.faddr (.tmp 128) 0), some (115, false)⟩, []⟩,
    ⟨30, ⟨(some 130), .op (.load 1 false (.tmp 129)), some (115, false)⟩, []⟩,
    ⟨31, ⟨(some 131), .op (.bin .sub (.tmp 130) (.const (Value.int .i64 1))), some (115, false)⟩, []⟩,
    ⟨32, ⟨(some 132), .call (.func i_spec_l00In) [(.tmp 126), (.const (Value.int .i64 0)), (.tmp 131)], some (115, false)⟩, []⟩,
    ⟨33, ⟨(some 133), .op (.un .not (.tmp 132)), some (115, false)⟩, []⟩,
    ⟨34, ⟨(some 134), .op (.pick (.tmp 115) (.const (Value.bool true)) (.tmp 133)), none⟩, []⟩,
    ⟨35, ⟨(some 135), .op (.mv (.tmp 134)), none⟩, []⟩,
    ⟨36, ⟨(some 136), .op (.mv (.tmp 0)), some (135, false)⟩, []⟩,
    ⟨37, ⟨(some 137), .op (.nilc (.tmp 136)), some (135, false)⟩, []⟩,
    ⟨38, ⟨(some 138), .op (.faddr (.tmp 137) 4), some (135, false)⟩, []⟩,
    ⟨39, ⟨(some 139), .op (.load 1 false (.tmp 138)), some (135, false)⟩, []⟩,
    ⟨40, ⟨(some 140), .op (.mv (.tmp 4)), some (135, false)⟩, []⟩,
    ⟨41, ⟨(some 141), .op (.iaddrS (.tmp 139) (.tmp 140) 1), some (135, false)⟩, []⟩,
    ⟨42, ⟨(some 142), .op (.load 1 false (.tmp 141)), some (135, false)⟩, []⟩,
    ⟨43, ⟨(some 143), .op (.mv (.tmp 5)), some (135, false)⟩, []⟩,
    ⟨44, ⟨(some 144), .op (.iaddrS (.tmp 142) (.tmp 143) 1), some (135, false)⟩, []⟩,
    ⟨45, ⟨(some 145), .op (.load 1 false (.tmp 144)), some (135, false)⟩, []⟩,
    ⟨46, ⟨(some 146), .op (.mv (.tmp 0)), some (135, false)⟩, []⟩,
    ⟨47, ⟨(some 147), .op (.nilc (.tmp 146)), some (135, false)⟩, []⟩,
    ⟨48, ⟨(some 148), .op (.faddr (.tmp 147) 0), some (135, false)⟩, []⟩,
    ⟨49, ⟨(some 149), .op (.load 1 false (.tmp 148)), some (135, false)⟩, []⟩,
    ⟨50, ⟨(some 150), .op (.bin .add (.tmp 149) (.const (Value.int .i64 1))), some (135, false)⟩, []⟩,
    ⟨51, ⟨(some 151), .op (.mv (.tmp 3)), some (135, false)⟩, []⟩,
    ⟨52, ⟨(some 152), .call (.func i_spec_l02List) [(.tmp 145), (.tmp 150), (.tmp 151)], some (135, false)⟩, []⟩,
    ⟨53, ⟨(some 153), .op (.un .not (.tmp 152)), some (135, false)⟩, []⟩,
    ⟨54, ⟨(some 154), .op (.pick (.tmp 135) (.const (Value.bool true)) (.tmp 153)), none⟩, []⟩]
    [0, 1, 3, 7, 0, 31, 63, 0, 255, 511, 1023, 0, 2048, 8191, 16383, 32767, 65535, 131071, 262143, 524287, 65535, 2097151, 4194303, 65535, 16777215, 33554431, 67108863, 65535, 134283263, 402718719, 939589631, 2013331455, 4294967295, 8589934591, 17179869183, 34359738367, 68719476735, 137438953471, 274877906943, 549755813887, 68719476735, 2199023255551, 4398046511103, 68719476735, 17592186044415, 35184372088831, 68719476735, 70437463654399, 211174952009727, 492649928720383, 1055599882141695, 68719476735, 4503599627370495, 9007199254740991, 18014398509481983]) (.kill [100, 101, 102, 103, 104, 105, 106, 107, 108, 109, 110, 111, 112, 113, 114, 115, 116, 117, 118, 119, 120, 121, 122, 123, 124, 125, 126, 127, 128, 129, 130, 131, 132, 133, 134, 135, 136, 137, 138, 139, 140, 141, 142, 143, 144, 145, 146, 147, 148, 149, 150, 151, 152, 153]))
  (.cond (.tmp 154) (.ghost (.kill [0, 3, 4, 5, 154]) (.seq (.reg [⟨(some 2), .op (.mv (.const (Value.bool false))), none⟩])
  .ret))
  (.ghost (.kill [154]) .skip))))
  (.post (.reg [⟨(some 98), .op (.mv (.tmp 5)), none⟩,
    ⟨(some 99), .op (.bin .add (.tmp 98) (.const (Value.int .i64 1))), none⟩,
    ⟨(some 5), .op (.mv (.tmp 99)), none⟩]) (.kill [98, 99]))))
def lo_spec_l02Ok_0 : AC := (.loop lb_spec_l02Ok_0)
def lb_spec_l02Ok_1 : AC := (.seq (.seq (.post (.reg [⟨(some 59), .op (.mv (.tmp 4)), none⟩,
    ⟨(some 60), .op (.mv (.tmp 3)), none⟩,
    ⟨(some 61), .op (.bin .lss (.tmp 59) (.tmp 60)), none⟩]) (.kill [59, 60]))
  (.cond (.tmp 61) (.ghost (.kill [61]) .skip)
  (.ghost (.kill [0, 3, 4, 61]) (.exit 0))))
  (.seq (.block 1 (.seq (.seq (.post (.reg [⟨(some 64), .op (.mv (.tmp 0)), none⟩,
    ⟨(some 65), .op (.nilc (.tmp 64)), none⟩,
    ⟨(some 66), .op (.faddr (.tmp 65) 3), none⟩,
    ⟨(some 67), .op (.load 1 false (.tmp 66)), none⟩,
    ⟨(some 68), .op (.mv (.tmp 4)), none⟩,
    ⟨(some 69), .op (.iaddrS (.tmp 67) (.tmp 68) 1), none⟩,
    ⟨(some 70), .op (.load 1 false (.tmp 69)), none⟩,
    ⟨(some 71), .op (.len false (.tmp 70)), none⟩,
    ⟨(some 72), .op (.bin .neq (.tmp 71) (.const (Value.int .i64 2))), none⟩,
    ⟨(some 73), .op (.mv (.tmp 72)), none⟩,
    ⟨(some 74), .op (.mv (.tmp 0)), some (73, false)⟩,
    ⟨(some 75), .op (.nilc (.tmp 74)), some (73, false)⟩,
    ⟨(some 76), .op (.faddr (.tmp 75) 4), some (73, false)⟩,
    ⟨(some 77), .op (.load 1 false (.tmp 76)), some (73, false)⟩,
    ⟨(some 78), .op (.mv (.tmp 4)), some (73, false)⟩,
    ⟨(some 79), .op (.iaddrS (.tmp 77) (.tmp 78) 1), some (73, false)⟩,
    ⟨(some 80), .op (.load 1 false (.tmp 79)), some (73, false)⟩,
    ⟨(some 81), .op (.len false (.tmp 80)), some (73, false)⟩,
    ⟨(some 82), .op (.bin .neq (.tmp 81) (.const (Value.int .i64 2))), some (73, false)⟩,
    ⟨(some 83), .op (.pick (.tmp 73) (.const (Value.bool true)) (.tmp 82)), none⟩,
    ⟨(some 84), .op (.mv (.tmp 83)), none⟩,
    ⟨(some 85), .op (.mv (.tmp 0)), some (84, false)⟩,
    ⟨(some 86), .op (.nilc (.tmp 85)), some (84, false)⟩,
    ⟨(some 87), .op (.faddr (.tmp 86) 5), some (84, false)⟩,
    ⟨(some 88), .op (.load 1 false (.tmp 87)), some (84, false)⟩,
    ⟨(some 89), .op (.mv (.tmp 4)), some (84, false)⟩,
    ⟨(some 90), .op (.iaddrS (.tmp 88) (.tmp 89) 1), some (84, false)⟩,
    ⟨(some 91), .op (.load 1 false (.tmp 90)), some (84, false)⟩,
    ⟨(some 92), .op (.mv (.tmp 3)), some (84, false)⟩,
    ⟨(some 93), .call (.func i_spec_l02List) [(.tmp 91), (.const (Value.int .i64 2)), (.tmp 92)], some (84, false)⟩,
    ⟨(some 94), .op (.un .not (.tmp 93)), some (84, false)⟩,
    ⟨(some 95), .op (.pick (.tmp 84) (.const (Value.bool true)) (.tmp 94)), none⟩]) (.kill [64, 65, 66, 67, 68, 69, 70, 71, 72, 73, 74, 75, 76, 77, 78, 79, 80, 81, 82, 83, 84, 85, 86, 87, 88, 89, 90, 91, 92, 93, 94]))
  (.cond (.tmp 95) (.ghost (.kill [0, 3, 4, 95]) (.seq (.reg [⟨(some 2), .op (.mv (.const (Value.bool false))), none⟩])
  .ret))
  (.ghost (.kill [95]) .skip)))
  (.seq (.reg [⟨(some 5), .op (.mv (.const (Value.int .i64 0))), none⟩])
  (.block 2 lo_spec_l02Ok_0))))
  (.ghost (.kill [5]) (.post (.reg [⟨(some 62), .op (.mv (.tmp 4)), none⟩,
    ⟨(some 63), .op (.bin .add (.tmp 62) (.const (Value.int .i64 1))), none⟩,
    ⟨(some 4), .op (.mv (.tmp 63)), none⟩]) (.kill [62, 63])))))
def lo_spec_l02Ok_1 : AC := (.loop lb_spec_l02Ok_1)
def ac_spec_l02Ok : AC := (.seq (.post (.reg [⟨(some 2), .op (.mv (.const (Value.bool false))), none⟩]) (.kill [2]))
  (.seq (.post (.reg [⟨(some 6), .op (.mv (.tmp 0)), none⟩,
    ⟨(some 7), .op (.nilc (.tmp 6)), none⟩,
    ⟨(some 8), .op (.faddr (.tmp 7) 2), none⟩,
    ⟨(some 9), .op (.load 1 false (.tmp 8)), none⟩,
    ⟨(some 10), .op (.len false (.tmp 9)), none⟩,
    ⟨(some 3), .op (.mv (.tmp 10)), none⟩]) (.kill [6, 7, 8, 9, 10]))
  (.seq (.seq (.post (.reg [⟨(some 11), .op (.mv (.tmp 3)), none⟩,
    ⟨(some 12), .call (.func i_spec_l00In) [(.tmp 11), (.const (Value.int .i64 1)), (.const (Value.int .i64 40))], none⟩,
    ⟨(some 13), .op (.un .not (.tmp 12)), none⟩,
    ⟨(some 14), .op (.mv (.tmp 13)), none⟩,
    ⟨(some 15), .op (.mv (.tmp 0)), some (14, false)⟩,
    ⟨(some 16), .op (.nilc (.tmp 15)), some (14, false)⟩,
    ⟨(some 17), .op (.faddr (.tmp 16) 0), some (14, false)⟩,
    ⟨(some 18), .op (.load 1 false (.tmp 17)), some (14, false)⟩,
    ⟨(some 19), .call (.func i_spec_l00In) [(.tmp 18), (.const (Value.int .i64 1)), (.const (Value.int .i64 80))], some (14, false)⟩,
    ⟨(some 20), .op (.un .not (.tmp 19)), some (14, false)⟩,
    ⟨(some 21), .op (.pick (.tmp 14) (.const (Value.bool true)) (.tmp 20)), none⟩,
    ⟨(some 22), .op (.mv (.tmp 21)), none⟩,
    ⟨(some 23), .op (.mv (.tmp 0)), some (22, false)⟩,
    ⟨(some 24), .op (.nilc (.tmp 23)), some (22, false)⟩,
    ⟨(some 25), .op (.faddr (.tmp 24) 1), some (22, false)⟩,
    ⟨(some 26), .op (.load 1 false (.tmp 25)), some (22, false)⟩,
    ⟨(some 27), .op (.mv (.tmp 3)), some (22, false)⟩,
    ⟨(some 28), .op (.bin .sub (.tmp 27) (.const (Value.int .i64 1))), some (22, false)⟩,
    ⟨(some 29), .call (.func i_spec_l00In) [(.tmp 26), (.const (Value.int .i64 0)), (.tmp 28)], some (22, false)⟩,
    ⟨(some 30), .op (.un .not (.tmp 29)), some (22, false)⟩,
    ⟨(some 31), .op (.pick (.tmp 22) (.const (Value.bool true)) (.tmp 30)), none⟩,
    ⟨(some 32), .op (.mv (.tmp 31)), none⟩,
    ⟨(some 33), .op (.mv (.tmp 0)), some (32, false)⟩,
    ⟨(some 34), .op (.nilc (.tmp 33)), some (32, false)⟩,
    ⟨(some 35), .op (.faddr (.tmp 34) 3), some (32, false)⟩,
    ⟨(some 36), .op (.load 1 false (.tmp 35)), some (32, false)⟩,
    ⟨(some 37), .op (.len false (.tmp 36)), some (32, false)⟩,
    ⟨(some 38), .op (.mv (.tmp 3)), some (32, false)⟩,
    ⟨(some 39), .op (.bin .neq (.tmp 37) (.tmp 38)), some (32, false)⟩,
    ⟨(some 40), .op (.pick (.tmp 32) (.const (Value.bool true)) (.tmp 39)), none⟩,
    ⟨(some 41), .op (.mv (.tmp 40)), none⟩,
    ⟨(some 42), .op (.mv (.tmp 0)), some (41, false)⟩,
    ⟨(some 43), .op (.nilc (.tmp 42)), some (41, false)⟩,
    ⟨(some 44), .op (.faddr (.tmp 43) 4), some (41, false)⟩,
    ⟨(some 45), .op (.load 1 false (.tmp 44)), some (41, false)⟩,
    ⟨(some 46), .op (.len false (.tmp 45)), some (41, false)⟩,
    ⟨(some 47), .op (.mv (.tmp 3)), some (41, false)⟩,
    ⟨(some 48), .op (.bin .neq (.tmp 46) (.tmp 47)), some (41, false)⟩,
    ⟨(some 49), .op (.pick (.tmp 41) (.const (Value.bool true)) (.tmp 48)), none⟩,
    ⟨(some 50), .op (.mv (.tmp 49)), none⟩,
    ⟨(some 51), .op (.mv (.tmp 0)), some (50, false)⟩,
    ⟨(some 52), .op (.nilc (.tmp 51)), some (50, false)⟩,
    ⟨(some 53), .op (.faddr (.tmp 52) 5), some (50, false)⟩,
    ⟨(some 54), .op (.load 1 false (.tmp 53)), some (50, false)⟩,
    ⟨(some 55), .op (.len false (.tmp 54)), some (50, false)⟩,
    ⟨(some 56), .op (.mv (.tmp 3)), some (50, false)⟩,
    ⟨(some 57), .op (.bin .neq (.tmp 55) (.tmp 56)), some (50, false)⟩,
    ⟨(some 58), .op (.pick (.tmp 50) (.const (Value.bool true)) (.tmp 57)), none⟩]) (.kill [11, 12, 13, 14, 15, 16, 17, 18, 19, 20, 21, 22, 23, 24, 25, 26, 27, 28, 29, 30, 31, 32, 33, 34, 35, 36, 37, 38, 39, 40, 41, 42, 43, 44, 45, 46, 47, 48, 49, 50, 51, 52, 53, 54, 55, 56, 57]))
  (.cond (.tmp 58) (.ghost (.kill [0, 3, 58]) (.seq (.reg [⟨(some 2), .op (.mv (.const (Value.bool false))), none⟩])
  .ret))
  (.ghost (.kill [58]) .skip)))
  (.seq (.seq (.reg [⟨(some 4), .op (.mv (.const (Value.int .i64 0))), none⟩])
  (.block 0 lo_spec_l02Ok_1))
  (.ghost (.kill [0, 3, 4]) (.seq (.reg [⟨(some 2), .op (.mv (.const (Value.bool true))), none⟩])
  .ret))))))
theorem cf_spec_l02Ok : chkFn Try.prog i_spec_l02Ok ac_spec_l02Ok [.tmp 2] 155 = true := by decide +kernel
def fa_spec_l02Ok : FnA := ⟨ac_spec_l02Ok, [.tmp 2], 155, false, true, [], .any, none⟩

/-- The checked code of spec l01Symbol. -/
def lb_spec_l01Symbol_0 : AC := (.seq (.seq (.post (.reg [⟨(some 4), .op (.mv (.tmp 3)), none⟩,
    ⟨(some 5), .op (.bin .lss (.tmp 4) (.const (Value.int .i64 6))), none⟩]) (.kill [4]))
  (.cond (.tmp 5) (.ghost (.kill [5]) .skip)
  (.ghost (.kill [0, 3, 5]) (.exit 0))))
  (.seq (.block 1 (.seq (.post (.reg [⟨(some 8), .op (.mv (.tmp 3)), none⟩,
    ⟨(some 9), .op (.idxStr (.const (Value.string ⟨#[40, 91, 41, 93, 97, 98]⟩)) (.tmp 8)), none⟩,
    ⟨(some 10), .op (.mv (.tmp 0)), none⟩,
    ⟨(some 11), .op (.bin .eql (.tmp 9) (.tmp 10)), none⟩]) (.kill [8, 9, 10]))
  (.cond (.tmp 11) (.ghost (.kill [0, 11]) (.seq (.post (.reg [⟨(some 12), .op (.mv (.tmp 3)), none⟩,
    ⟨(some 2), .op (.mv (.tmp 12)), none⟩]) (.kill [3, 12]))
  .ret))
  (.ghost (.kill [11]) .skip))))
  (.post (.reg [⟨(some 6), .op (.mv (.tmp 3)), none⟩,
    ⟨(some 7), .op (.bin .add (.tmp 6) (.const (Value.int .i64 1))), none⟩,
    ⟨(some 3), .op (.mv (.tmp 7)), none⟩]) (.kill [6, 7]))))
def lo_spec_l01Symbol_0 : AC := (.loop lb_spec_l01Symbol_0)
def ac_spec_l01Symbol : AC := (.seq (.post (.reg [⟨(some 2), .op (.mv (.const (Value.int .i64 0))), none⟩]) (.kill [2]))
  (.seq (.seq (.reg [⟨(some 3), .op (.mv (.const (Value.int .i64 0))), none⟩])
  (.block 0 lo_spec_l01Symbol_0))
  (.ghost (.kill [0, 3]) (.seq (.reg [⟨(some 2), .op (.mv (.const (Value.int .i64 (-1)))), none⟩])
  .ret))))
theorem cf_spec_l01Symbol : chkFn Try.prog i_spec_l01Symbol ac_spec_l01Symbol [.tmp 2] 13 = true := by decide +kernel
def fa_spec_l01Symbol : FnA := ⟨ac_spec_l01Symbol, [.tmp 2], 13, false, true, [], .any, none⟩

/-- The checked code of spec l01Ok. -/
def lb_spec_l01Ok_0 : AC := (.seq (.seq (.post (.reg [⟨(some 4), .op (.mv (.tmp 3)), none⟩,
    ⟨(some 5), .op (.mv (.tmp 0)), none⟩,
    ⟨(some 6), .op (.len true (.tmp 5)), none⟩,
    ⟨(some 7), .op (.bin .lss (.tmp 4) (.tmp 6)), none⟩]) (.kill [4, 5, 6]))
  (.cond (.tmp 7) (.ghost (.kill [7]) .skip)
  (.ghost (.kill [3, 7]) (.exit 0))))
  (.seq (.block 1 (.seq (.post (.reg [⟨(some 10), .op (.mv (.tmp 0)), none⟩,
    ⟨(some 11), .op (.mv (.tmp 3)), none⟩,
    ⟨(some 12), .op (.idxStr (.tmp 10) (.tmp 11)), none⟩,
    ⟨(some 13), .call (.func i_spec_l01Symbol) [(.tmp 12)], none⟩,
    ⟨(some 14), .op (.bin .lss (.tmp 13) (.const (Value.int .i64 0))), none⟩]) (.kill [10, 11, 12, 13]))
  (.cond (.tmp 14) (.ghost (.kill [0, 3, 14]) (.seq (.reg [⟨(some 2), .op (.mv (.const (Value.bool false))), none⟩])
  .ret))
  (.ghost (.kill [14]) .skip))))
  (.post (.reg [⟨(some 8), .op (.mv (.tmp 3)), none⟩,
    ⟨(some 9), .op (.bin .add (.tmp 8) (.const (Value.int .i64 1))), none⟩,
    ⟨(some 3), .op (.mv (.tmp 9)), none⟩]) (.kill [8, 9]))))
def lo_spec_l01Ok_0 : AC := (.loop lb_spec_l01Ok_0)
def ac_spec_l01Ok : AC := (.seq (.post (.reg [⟨(some 2), .op (.mv (.const (Value.bool false))), none⟩]) (.kill [2]))
  (.seq (.seq (.reg [⟨(some 3), .op (.mv (.const (Value.int .i64 0))), none⟩])
  (.block 0 lo_spec_l01Ok_0))
  (.ghost (.kill [3]) (.seq (.post (.reg [⟨(some 15), .op (.mv (.tmp 0)), none⟩,
    ⟨(some 16), .op (.len true (.tmp 15)), none⟩,
    ⟨(some 17), .op (.bin .leq (.tmp 16) (.const (Value.int .i64 60))), none⟩,
    ⟨(some 2), .op (.mv (.tmp 17)), none⟩]) (.kill [0, 15, 16, 17]))
  .ret))))
theorem cf_spec_l01Ok : chkFn Try.prog i_spec_l01Ok ac_spec_l01Ok [.tmp 2] 18 = true := by decide +kernel
def fa_spec_l01Ok : FnA := ⟨ac_spec_l01Ok, [.tmp 2], 18, false, true, [], .any, none⟩

/-- The checked code of spec l02Given. -/
def ac_spec_l02Given : AC := (.seq (.post (.reg [⟨(some 4), .op (.mv (.const (Value.int .i64 0))), none⟩]) (.kill [4]))
  (.seq (.seq (.post (.reg [⟨(some 5), .op (.mv (.tmp 0)), none⟩,
    ⟨(some 6), .call (.func i_spec_l02Ok) [(.tmp 5)], none⟩,
    ⟨(some 7), .op (.un .not (.tmp 6)), none⟩,
    ⟨(some 8), .op (.mv (.tmp 7)), none⟩,
    ⟨(some 9), .op (.mv (.tmp 1)), some (8, false)⟩,
    ⟨(some 10), .call (.func i_spec_l01Ok) [(.tmp 9)], some (8, false)⟩,
    ⟨(some 11), .op (.un .not (.tmp 10)), some (8, false)⟩,
    ⟨(some 12), .op (.pick (.tmp 8) (.const (Value.bool true)) (.tmp 11)), none⟩]) (.kill [0, 1, 5, 6, 7, 8, 9, 10, 11]))
  (.cond (.tmp 12) (.ghost (.kill [12]) (.seq (.reg [⟨(some 4), .op (.mv (.const (Value.int .i64 1))), none⟩])
  .ret))
  (.ghost (.kill [12]) .skip)))
  (.seq (.reg [⟨(some 4), .op (.mv (.const (Value.int .i64 0))), none⟩])
  .ret)))
theorem cf_spec_l02Given : chkFn Try.prog i_spec_l02Given ac_spec_l02Given [.tmp 4] 13 = true := by decide +kernel
def fa_spec_l02Given : FnA := ⟨ac_spec_l02Given, [.tmp 4], 13, false, true, [], .any, none⟩

/-- The checked code of spec l00Own. -/
def ac_spec_l00Own : AC := (.seq (.post (.reg [⟨(some 2), .op (.mv (.const (Value.slice none 0 0))), none⟩]) (.kill [2]))
  (.seq (.post (.post (.reg [⟨(some 3), .op (.lits true 1 0 (Value.int .i64 0) []), none⟩,
    ⟨(some 4), .op (.mv (.tmp 0)), none⟩,
    ⟨(some 5), .op (.append (.tmp 3) (.tmp 4) 1 8), none⟩,
    ⟨(some 2), .op (.mv (.tmp 5)), none⟩]) (.kill [0, 3, 4, 5])) .nv)
  .ret))
theorem cf_spec_l00Own : chkFn Try.prog i_spec_l00Own ac_spec_l00Own [.tmp 2] 6 = true := by decide +kernel
def fa_spec_l00Own : FnA := ⟨ac_spec_l00Own, [.tmp 2], 6, false, false, [], .any, none⟩

/-- The checked code of spec l02Step. -/
def ac_spec_l02Step : AC := (.seq (.post (.reg [⟨(some 8), .op (.mv (.const (Value.int .i64 0))), none⟩,
    ⟨(some 9), .op (.mv (.const (Value.slice none 0 0))), none⟩]) (.kill [8, 9]))
  (.seq (.post (.reg [⟨(some 12), .op (.mv (.tmp 3)), none⟩,
    ⟨(some 13), .call (.func i_spec_l01Symbol) [(.tmp 12)], none⟩,
    ⟨(some 10), .op (.mv (.tmp 13)), none⟩]) (.kill [3, 12, 13]))
  (.seq (.block 0 (.seq (.post (.reg [⟨(some 15), .op (.mv (.tmp 10)), none⟩,
    ⟨(some 16), .op (.bin .lss (.tmp 15) (.const (Value.int .i64 2))), none⟩,
    ⟨(some 14), .op (.mv (.tmp 16)), none⟩]) (.kill [15, 16]))
  (.cond (.tmp 14) (.ghost (.kill [14]) (.seq (.post (.reg [⟨(some 17), .op (.mv (.tmp 0)), none⟩,
    ⟨(some 18), .op (.nilc (.tmp 17)), none⟩,
    ⟨(some 19), .op (.faddr (.tmp 18) 3), none⟩,
    ⟨(some 20), .op (.load 1 false (.tmp 19)), none⟩,
    ⟨(some 21), .op (.mv (.tmp 1)), none⟩,
    ⟨(some 22), .op (.iaddrS (.tmp 20) (.tmp 21) 1), none⟩,
    ⟨(some 23), .op (.load 1 false (.tmp 22)), none⟩,
    ⟨(some 24), .op (.mv (.tmp 10)), none⟩,
    ⟨(some 25), .op (.iaddrS (.tmp 23) (.tmp 24) 2), none⟩,
    ⟨(some 26), .op (.load 2 true (.tmp 25)), none⟩,
    ⟨(some 11), .op (.alloc (Value.agg #[Value.int .i64 0, Value.int .i64 0])), none⟩,
    ⟨none, .op (.store 2 (.tmp 11) (.tmp 26)), none⟩]) (.kill [0, 1, 10, 17, 18, 19, 20, 21, 22, 23, 24, 25, 26]))
  (.seq (.post (.post (.draw [⟨0, ⟨(some 27), .op (.faddr (.tmp 11) 0), none⟩, []⟩,
    ⟨1, ⟨(some 28), .op (.load 1 false (.tmp 27)), none⟩, []⟩,
    ⟨2, ⟨(some 29), .op (.mv (.tmp 2)), none⟩, []⟩,
    ⟨4, ⟨(some 31), .op (.faddr (.tmp 11) 1), none⟩, []⟩,
    ⟨5, ⟨(some 32), .op (.load 1 false (.tmp 31)), none⟩, []⟩,
    ⟨6, ⟨(some 33), .op (.lits true 1 1 (Value.int .i64 0) [(0, (.tmp 32))]), none⟩, []⟩,
    ⟨3, ⟨(some 30), .call (.func i_spec_l00Own) [(.tmp 29)], none⟩, [1, 5]⟩,
    ⟨7, ⟨(some 34), .op (.append (.tmp 30) (.tmp 33) 1 8), none⟩, [1]⟩,
    ⟨8, ⟨(some 8), .op (.mv (.tmp 28)), none⟩, []⟩,
    ⟨9, ⟨(some 9), .op (.mv (.tmp 34)), none⟩, []⟩]
    [0, 1, 0, 4, 0, 16, 48, 124, 255, 511]) (.kill [2, 11, 27, 28, 29, 30, 31, 32, 33, 34])) .nv)
  .ret)))
  (.ghost (.kill [14]) (.seq (.post (.reg [⟨(some 36), .op (.mv (.tmp 10)), none⟩,
    ⟨(some 37), .op (.bin .lss (.tmp 36) (.const (Value.int .i64 4))), none⟩,
    ⟨(some 38), .op (.mv (.tmp 37)), none⟩,
    ⟨(some 39), .op (.mv (.tmp 2)), some (38, true)⟩,
    ⟨(some 40), .op (.len false (.tmp 39)), some (38, true)⟩,
    ⟨(some 41), .op (.bin .eql (.tmp 40) (.const (Value.int .i64 0))), some (38, true)⟩,
    ⟨(some 42), .op (.pick (.tmp 38) (.tmp 41) (.const (Value.bool false))), none⟩,
    ⟨(some 35), .op (.mv (.tmp 42)), none⟩]) (.kill [36, 37, 38, 39, 40, 41, 42]))
  (.cond (.tmp 35) (.ghost (.kill [2, 35]) (.seq (.post (.draw [⟨0, ⟨(some 43), .op (.mv (.tmp 0)), none⟩, []⟩,
    ⟨1, ⟨(some 44), .op (.nilc (.tmp 43)), none⟩, []⟩,
    ⟨2, ⟨(some 45), .op (.faddr (.tmp 44) 4), none⟩, []⟩,
    ⟨3, ⟨(some 46), .op (.load 1 false (.tmp 45)), none⟩, []⟩,
    ⟨4, ⟨(some 47), .op (.mv (.tmp 1)), none⟩, []⟩,
    ⟨5, ⟨(some 48), .op (.iaddrS (.tmp 46) (.tmp 47) 1), none⟩, []⟩,
    ⟨6, ⟨(some 49), .op (.load 1 false (.tmp 48)), none⟩, []⟩,
    ⟨7, ⟨(some 50), .op (.mv (.tmp 10)), none⟩, []⟩,
    ⟨8, ⟨(some 51), .op (.bin .sub (.tmp 50) (.const (Value.int .i64 2))), none⟩, []⟩,
    ⟨9, ⟨(some 52), .op (.iaddrS (.tmp 49) (.tmp 51) 1), none⟩, []⟩,
    ⟨10, ⟨(some 53), .op (.load 1 false (.tmp 52)), none⟩, []⟩,
    ⟨11, ⟨(some 54), .op (.mv (.tmp 0)), none⟩, []⟩,
    ⟨12, ⟨(some 55), .op (.nilc (.tmp 54)), none⟩, []⟩,
    ⟨13, ⟨(some 56), .op (.faddr (.tmp 55) 0), none⟩, []⟩,
    ⟨14, ⟨(some 57), .op (.load 1 false (.tmp 56)), none⟩, []⟩,
    ⟨15, ⟨(some 58), .op (.iaddrS (.tmp 53) (.tmp 57) 1), none⟩, []⟩,
    ⟨16, ⟨(some 59), .op (.load 1 false (.tmp 58)), none⟩, []⟩,
    ⟨17, ⟨(some 60), .op (.lits true 1 0 (Value.int .i64 0) []), none⟩, []⟩,
    ⟨18, ⟨(some 8), .op (.mv (.tmp 59)), none⟩, []⟩,
    ⟨19, ⟨(some 9), .op (.mv (.tmp 60)), none⟩, []⟩]
    [0, 1, 3, 7, 0, 31, 63, 0, 128, 511, 1023, 0, 2048, 6144, 14336, 32767, 65535, 0, 131071, 524287]) (.kill [0, 1, 10, 43, 44, 45, 46, 47, 48, 49, 50, 51, 52, 53, 54, 55, 56, 57, 58, 59, 60]))
  .ret))
  (.ghost (.kill [35]) (.seq (.post (.reg [⟨(some 62), .op (.mv (.tmp 10)), none⟩,
    ⟨(some 63), .op (.bin .lss (.tmp 62) (.const (Value.int .i64 4))), none⟩,
    ⟨(some 61), .op (.mv (.tmp 63)), none⟩]) (.kill [62, 63]))
  (.cond (.tmp 61) (.ghost (.kill [61]) (.seq (.post (.post (.draw [⟨0, ⟨(some 64), .op (.mv (.tmp 0)), none⟩, []⟩,
    ⟨1, ⟨(some 65), .op (.nilc (.tmp 64)), none⟩, []⟩,
    ⟨2, ⟨(some 66), .op (.faddr (.tmp 65) 4), none⟩, []⟩,
    ⟨3, ⟨(some 67), .op (.load 1 false (.tmp 66)), none⟩, []⟩,
    ⟨4, ⟨(some 68), .op (.mv (.tmp 1)), none⟩, []⟩,
    ⟨5, ⟨(some 69), .op (.iaddrS (.tmp 67) (.tmp 68) 1), none⟩, []⟩,
    ⟨6, ⟨(some 70), .op (.load 1 false (.tmp 69)), none⟩, []⟩,
    ⟨7, ⟨(some 71), .op (.mv (.tmp 10)), none⟩, []⟩,
    ⟨8, ⟨(some 72), .op (.bin .sub (.tmp 71) (.const (Value.int .i64 2))), none⟩, []⟩,
    ⟨9, ⟨(some 73), .op (.iaddrS (.tmp 70) (.tmp 72) 1), none⟩, []⟩,
    ⟨10, ⟨(some 74), .op (.load 1 false (.tmp 73)), none⟩, []⟩,
    ⟨11, ⟨(some 75), .op (.mv (.tmp 2)), none⟩, []⟩,
    ⟨12, ⟨(some 76), .op (.mv (.tmp 2)), none⟩, []⟩,
    ⟨13, ⟨(some 77), .op (.len false (.tmp 76)), none⟩, []⟩,
    ⟨14, ⟨(some 78), .op (.bin .sub (.tmp 77) (.const (Value.int .i64 1))), none⟩, []⟩,
    ⟨15, ⟨(some 79), .op (.iaddrS (.tmp 75) (.tmp 78) 1), none⟩, []⟩,
    ⟨16, ⟨(some 80), .op (.load 1 false (.tmp 79)), none⟩, []⟩,
    ⟨17, ⟨(some 81), .op (.iaddrS (.tmp 74) (.tmp 80) 1), none⟩, []⟩,
    ⟨18, ⟨(some 82), .op (.load 1 false (.tmp 81)), none⟩, []⟩,
    ⟨19, ⟨(some 83), .op (.mv (.tmp 2)), none⟩, []⟩,
    ⟨20, ⟨(some 84), .op (.mv (.tmp 2)), none⟩, []⟩,
    ⟨21, ⟨(some 85), .op (.len false (.tmp 84)), none⟩, []⟩,
    ⟨22, ⟨(some 86), .op (.bin .sub (.tmp 85) (.const (Value.int .i64 1))), none⟩, []⟩,
    ⟨23, ⟨(some 87), .op (.slcS (.tmp 83) none (some (.tmp 86)) none 1), none⟩, []⟩,
    ⟨24, ⟨(some 88), .call (.func i_spec_l00Own) [(.tmp 87)], none⟩, [3, 5, 6, 9, 10, 15, 16, 17, 18]⟩,
    ⟨25, ⟨(some 8), .op (.mv (.tmp 82)), none⟩, []⟩,
    ⟨26, ⟨(some 9), .op (.mv (.tmp 88)), none⟩, []⟩]
    [0, 1, 3, 7, 0, 31, 63, 0, 128, 511, 1023, 0, 0, 4096, 12288, 30720, 63488, 131071, 262143, 0, 0, 1048576, 3145728, 7864320, 16252928, 33554431, 67108863]) (.kill [0, 1, 2, 10, 64, 65, 66, 67, 68, 69, 70, 71, 72, 73, 74, 75, 76, 77, 78, 79, 80, 81, 82, 83, 84, 85, 86, 87, 88])) .nv)
  .ret))
  (.ghost (.kill [61]) .skip))))))))))
  (.seq (.post (.reg [⟨(some 89), .op (.mv (.tmp 0)), none⟩,
    ⟨(some 90), .op (.nilc (.tmp 89)), none⟩,
    ⟨(some 91), .op (.faddr (.tmp 90) 5), none⟩,
    ⟨(some 92), .op (.load 1 false (.tmp 91)), none⟩,
    ⟨(some 93), .op (.mv (.tmp 1)), none⟩,
    ⟨(some 94), .op (.iaddrS (.tmp 92) (.tmp 93) 1), none⟩,
    ⟨(some 95), .op (.load 1 false (.tmp 94)), none⟩,
    ⟨(some 96), .op (.mv (.tmp 10)), none⟩,
    ⟨(some 97), .op (.bin .sub (.tmp 96) (.const (Value.int .i64 4))), none⟩,
    ⟨(some 98), .op (.iaddrS (.tmp 95) (.tmp 97) 1), none⟩,
    ⟨(some 99), .op (.load 1 false (.tmp 98)), none⟩,
    ⟨(some 100), .op (.mv (.tmp 2)), none⟩,
    ⟨(some 8), .op (.mv (.tmp 99)), none⟩,
    ⟨(some 9), .op (.mv (.tmp 100)), none⟩]) (.kill [0, 1, 2, 10, 89, 90, 91, 92, 93, 94, 95, 96, 97, 98, 99, 100]))
  .ret))))
theorem cf_spec_l02Step : chkFn Try.prog i_spec_l02Step ac_spec_l02Step [.tmp 8, .tmp 9] 101 = true := by decide +kernel
def fa_spec_l02Step : FnA := ⟨ac_spec_l02Step, [.tmp 8, .tmp 9], 101, false, true, [.any, .any, (.lst 1 .any), .any], (.agg [.any, (.lst 1 .any)]), none⟩

/-- The checked code of spec StacksOf. -/
def lb_spec_StacksOf_0 : AC := (.post (.seq (.seq (.post (.reg [⟨(some 22), .op (.mv (.tmp 10)), none⟩,
    ⟨(some 23), .op (.mv (.tmp 1)), none⟩,
    ⟨(some 24), .op (.len true (.tmp 23)), none⟩,
    ⟨(some 25), .op (.bin .lss (.tmp 22) (.tmp 24)), none⟩]) (.kill [22, 23, 24]))
  (.cond (.tmp 25) (.ghost (.kill [25]) .skip)
  (.ghost (.kill [1, 2, 8, 9, 10, 25]) (.exit 0))))
  (.seq (.block 1 (.seq (.post (.reg [⟨(some 29), .op (.mv (.tmp 8)), none⟩,
    ⟨(some 30), .op (.mv (.tmp 9)), none⟩,
    ⟨(some 31), .op (.mv (.tmp 1)), none⟩,
    ⟨(some 32), .op (.mv (.tmp 10)), none⟩,
    ⟨(some 33), .op (.idxStr (.tmp 31) (.tmp 32)), none⟩,
    ⟨(some 34), .call (.func i_spec_l02Step) [(.tmp 2), (.tmp 29), (.tmp 30), (.tmp 33)], none⟩,
    ⟨(some 28), .op (.mv (.tmp 34)), none⟩,
    ⟨(some 35), .op (.ext (.tmp 28) 0), none⟩,
    ⟨(some 36), .op (.ext (.tmp 28) 1), none⟩,
    ⟨(some 8), .op (.mv (.tmp 35)), none⟩,
    ⟨(some 9), .op (.mv (.tmp 36)), none⟩]) (.kill [28, 29, 30, 31, 32, 33, 34, 35, 36]))
  (.post (.post (.reg [⟨(some 37), .op (.mv (.tmp 7)), none⟩,
    ⟨(some 38), .op (.mv (.tmp 9)), none⟩,
    ⟨(some 39), .call (.func i_spec_l00Own) [(.tmp 38)] true, none⟩,
    ⟨(some 40), .op (.lits true 1 1 (Value.slice none 0 0) [(0, (.tmp 39))]), none⟩,
    ⟨(some 41), .op (.append (.tmp 37) (.tmp 40) 1 24), none⟩,
    ⟨(some 7), .op (.mv (.tmp 41)), none⟩]) (.kill [37, 38, 39, 40, 41])) .nv)))
  (.post (.reg [⟨(some 26), .op (.mv (.tmp 10)), none⟩,
    ⟨(some 27), .op (.bin .add (.tmp 26) (.const (Value.int .i64 1))), none⟩,
    ⟨(some 10), .op (.mv (.tmp 27)), none⟩]) (.kill [26, 27])))) .nv)
def lo_spec_StacksOf_0 : AC := (.loop lb_spec_StacksOf_0)
def ac_spec_StacksOf : AC := (.seq (.post (.reg [⟨(some 2), .op (.box true (.tmp 0)), none⟩,
    ⟨(some 4), .op (.mv (.const (Value.slice none 0 0))), none⟩,
    ⟨(some 5), .op (.mv (.const (Value.int .i64 0))), none⟩]) (.kill [0, 4, 5]))
  (.seq (.seq (.post (.reg [⟨(some 11), .op (.mv (.tmp 1)), none⟩,
    ⟨(some 12), .call (.func i_spec_l02Given) [(.tmp 2), (.tmp 11)], none⟩,
    ⟨(some 6), .op (.mv (.tmp 12)), none⟩]) (.kill [11, 12]))
  (.seq (.post (.reg [⟨(some 13), .op (.mv (.tmp 6)), none⟩,
    ⟨(some 14), .op (.bin .neq (.tmp 13) (.const (Value.int .i64 0))), none⟩]) (.kill [13]))
  (.cond (.tmp 14) (.ghost (.kill [1, 2, 14]) (.seq (.post (.reg [⟨(some 15), .op (.lits true 1 0 (Value.slice none 0 0) []), none⟩,
    ⟨(some 16), .op (.mv (.tmp 6)), none⟩,
    ⟨(some 4), .op (.mv (.tmp 15)), none⟩,
    ⟨(some 5), .op (.mv (.tmp 16)), none⟩]) (.kill [6, 15, 16]))
  .ret))
  (.ghost (.kill [6, 14]) .skip))))
  (.seq (.post (.reg [⟨(some 17), .op (.lits true 1 0 (Value.int .i64 0) []), none⟩,
    ⟨(some 18), .op (.lits false 1 1 (Value.slice none 0 0) [(0, (.tmp 17))]), none⟩,
    ⟨(some 7), .op (.mv (.tmp 18)), none⟩]) (.kill [17, 18]))
  (.seq (.post (.reg [⟨(some 19), .op (.faddr (.tmp 2) 1), none⟩,
    ⟨(some 20), .op (.load 1 false (.tmp 19)), none⟩,
    ⟨(some 8), .op (.mv (.tmp 20)), none⟩]) (.kill [19, 20]))
  (.seq (.post (.reg [⟨(some 21), .op (.lits true 1 0 (Value.int .i64 0) []), none⟩,
    ⟨(some 9), .op (.mv (.tmp 21)), none⟩]) (.kill [21]))
  (.seq (.seq (.reg [⟨(some 10), .op (.mv (.const (Value.int .i64 0))), none⟩])
  (.post (.block 0 (.ghost (.ow 7 none 1) (.ghost .nv lo_spec_StacksOf_0))) .nv))
  (.ghost (.kill [1, 2, 8, 9, 10]) (.seq (.post (.reg [⟨(some 42), .op (.mv (.tmp 7)), none⟩,
    ⟨(some 4), .op (.mv (.tmp 42)), none⟩,
    ⟨(some 5), .op (.mv (.const (Value.int .i64 0))), none⟩]) (.kill [7, 42]))
  .ret))))))))
theorem cf_spec_StacksOf : chkFn Try.prog i_spec_StacksOf ac_spec_StacksOf [.tmp 4, .tmp 5] 43 = true := by decide +kernel
def fa_spec_StacksOf : FnA := ⟨ac_spec_StacksOf, [.tmp 4, .tmp 5], 43, false, true, [(.agg [.any, .any, (.lst 1 .any), (.lst 1 (.lst 2 .any)), (.lst 1 (.lst 1 (.lst 1 .any))), (.lst 1 (.lst 1 .any))]), .any], (.agg [(.lst 1 (.lst 1 .any)), .any]), none⟩

/-- The checked code of impl size bool . -/
def ac_impl_size_bool : AC := (.seq (.post (.reg [⟨(some 2), .op (.mv (.const (Value.int .i64 0))), none⟩]) (.kill [2]))
  (.seq (.post (.reg [⟨(some 3), .op (.mv (.tmp 0)), none⟩,
    ⟨(some 4), .op (.len false (.tmp 3)), none⟩,
    ⟨(some 2), .op (.mv (.tmp 4)), none⟩]) (.kill [0, 3, 4]))
  .ret))
theorem cf_impl_size_bool : chkFn Try.prog i_impl_size_bool ac_impl_size_bool [.tmp 2] 5 = true := by decide +kernel
def fa_impl_size_bool : FnA := ⟨ac_impl_size_bool, [.tmp 2], 5, false, true, [], .any, none⟩

/-- The checked code of impl within. -/
def ac_impl_within : AC := (.seq (.post (.reg [⟨(some 6), .op (.mv (.const (Value.bool false))), none⟩]) (.kill [6]))
  (.seq (.post (.reg [⟨(some 7), .op (.mv (.tmp 0)), none⟩,
    ⟨(some 8), .op (.mv (.tmp 1)), none⟩,
    ⟨(some 9), .op (.bin .geq (.tmp 7) (.tmp 8)), none⟩,
    ⟨(some 10), .op (.mv (.tmp 9)), none⟩,
    ⟨(some 11), .op (.mv (.tmp 0)), some (10, true)⟩,
    ⟨(some 12), .op (.mv (.tmp 2)), some (10, true)⟩,
    ⟨(some 13), .op (.bin .leq (.tmp 11) (.tmp 12)), some (10, true)⟩,
    ⟨(some 14), .op (.pick (.tmp 10) (.tmp 13) (.const (Value.bool false))), none⟩,
    ⟨(some 6), .op (.mv (.tmp 14)), none⟩]) (.kill [0, 1, 2, 7, 8, 9, 10, 11, 12, 13, 14]))
  .ret))
theorem cf_impl_within : chkFn Try.prog i_impl_within ac_impl_within [.tmp 6] 15 = true := by decide +kernel
def fa_impl_within : FnA := ⟨ac_impl_within, [.tmp 6], 15, false, true, [], .any, none⟩

/-- The checked code of impl Checker  isState. -/
def ac_impl_Checker_isState : AC := (.seq (.post (.reg [⟨(some 2), .op (.box true (.tmp 0)), none⟩,
    ⟨(some 4), .op (.mv (.const (Value.bool false))), none⟩]) (.kill [0, 4]))
  (.seq (.post (.reg [⟨(some 5), .op (.mv (.tmp 1)), none⟩,
    ⟨(some 6), .op (.faddr (.tmp 2) 2), none⟩,
    ⟨(some 7), .op (.load 1 false (.tmp 6)), none⟩,
    ⟨(some 8), .call (.func i_impl_size_bool) [(.tmp 7)], none⟩,
    ⟨(some 9), .op (.bin .sub (.tmp 8) (.const (Value.int .i64 1))), none⟩,
    ⟨(some 10), .call (.func i_impl_within) [(.tmp 5), (.const (Value.int .i64 0)), (.tmp 9)], none⟩,
    ⟨(some 4), .op (.mv (.tmp 10)), none⟩]) (.kill [1, 2, 5, 6, 7, 8, 9, 10]))
  .ret))
theorem cf_impl_Checker_isState : chkFn Try.prog i_impl_Checker_isState ac_impl_Checker_isState [.tmp 4] 11 = true := by decide +kernel
def fa_impl_Checker_isState : FnA := ⟨ac_impl_Checker_isState, [.tmp 4], 11, false, true, [], .any, none⟩

/-- The checked code of impl Checker  isMark. -/
def ac_impl_Checker_isMark : AC := (.seq (.post (.reg [⟨(some 2), .op (.box true (.tmp 0)), none⟩,
    ⟨(some 4), .op (.mv (.const (Value.bool false))), none⟩]) (.kill [0, 4]))
  (.seq (.post (.reg [⟨(some 5), .op (.mv (.tmp 1)), none⟩,
    ⟨(some 6), .op (.faddr (.tmp 2) 0), none⟩,
    ⟨(some 7), .op (.load 1 false (.tmp 6)), none⟩,
    ⟨(some 8), .op (.bin .sub (.tmp 7) (.const (Value.int .i64 1))), none⟩,
    ⟨(some 9), .call (.func i_impl_within) [(.tmp 5), (.const (Value.int .i64 0)), (.tmp 8)], none⟩,
    ⟨(some 4), .op (.mv (.tmp 9)), none⟩]) (.kill [1, 2, 5, 6, 7, 8, 9]))
  .ret))
theorem cf_impl_Checker_isMark : chkFn Try.prog i_impl_Checker_isMark ac_impl_Checker_isMark [.tmp 4] 10 = true := by decide +kernel
def fa_impl_Checker_isMark : FnA := ⟨ac_impl_Checker_isMark, [.tmp 4], 10, false, true, [], .any, none⟩

/-- The checked code of impl Push . -/
def ac_impl_size_L_impl_Push : AC := (.seq (.post (.reg [⟨(some 2), .op (.mv (.const (Value.int .i64 0))), none⟩]) (.kill [2]))
  (.seq (.post (.reg [⟨(some 3), .op (.mv (.tmp 0)), none⟩,
    ⟨(some 4), .op (.len false (.tmp 3)), none⟩,
    ⟨(some 2), .op (.mv (.tmp 4)), none⟩]) (.kill [0, 3, 4]))
  .ret))
theorem cf_impl_size_L_impl_Push : chkFn Try.prog i_impl_size_L_impl_Push ac_impl_size_L_impl_Push [.tmp 2] 5 = true := by decide +kernel
def fa_impl_size_L_impl_Push : FnA := ⟨ac_impl_size_L_impl_Push, [.tmp 2], 5, false, true, [], .any, none⟩

/-- The checked code of impl size     int64 . -/
def ac_impl_size_L_L_int64 : AC := (.seq (.post (.reg [⟨(some 2), .op (.mv (.const (Value.int .i64 0))), none⟩]) (.kill [2]))
  (.seq (.post (.reg [⟨(some 3), .op (.mv (.tmp 0)), none⟩,
    ⟨(some 4), .op (.len false (.tmp 3)), none⟩,
    ⟨(some 2), .op (.mv (.tmp 4)), none⟩]) (.kill [0, 3, 4]))
  .ret))
theorem cf_impl_size_L_L_int64 : chkFn Try.prog i_impl_size_L_L_int64 ac_impl_size_L_L_int64 [.tmp 2] 5 = true := by decide +kernel
def fa_impl_size_L_L_int64 : FnA := ⟨ac_impl_size_L_L_int64, [.tmp 2], 5, false, true, [], .any, none⟩

/-- The checked code of impl size   int64 . -/
def ac_impl_size_L_int64 : AC := (.seq (.post (.reg [⟨(some 2), .op (.mv (.const (Value.int .i64 0))), none⟩]) (.kill [2]))
  (.seq (.post (.reg [⟨(some 3), .op (.mv (.tmp 0)), none⟩,
    ⟨(some 4), .op (.len false (.tmp 3)), none⟩,
    ⟨(some 2), .op (.mv (.tmp 4)), none⟩]) (.kill [0, 3, 4]))
  .ret))
theorem cf_impl_size_L_int64 : chkFn Try.prog i_impl_size_L_int64 ac_impl_size_L_int64 [.tmp 2] 5 = true := by decide +kernel
def fa_impl_size_L_int64 : FnA := ⟨ac_impl_size_L_int64, [.tmp 2], 5, false, true, [], .any, none⟩

/-- The checked code of slices IndexFunc   int64 int64 . -/
def lb_slices_IndexFunc_L_int64_0 : AC := (.seq (.reg [⟨(some 9), .op (.bin .lss (.tmp 8) (.tmp 7)), none⟩])
  (.seq (.cond (.tmp 9) (.ghost (.kill [9]) .skip)
  (.ghost (.kill [0, 1, 7, 8, 9]) (.exit 0)))
  (.seq (.block 1 (.seq (.post (.reg [⟨(some 10), .op (.mv (.tmp 8)), none⟩,
    ⟨(some 5), .op (.mv (.tmp 10)), none⟩]) (.kill [10]))
  (.seq (.post (.reg [⟨(some 11), .op (.mv (.tmp 1)), none⟩,
    ⟨(some 12), .op (.mv (.tmp 0)), none⟩,
    ⟨(some 13), .op (.mv (.tmp 5)), none⟩,
    ⟨(some 14), .op (.iaddrS (.tmp 12) (.tmp 13) 1), none⟩,
    ⟨(some 15), .op (.load 1 false (.tmp 14)), none⟩,
    ⟨(some 16), .call (.tmp 11) [(.tmp 15)], none⟩]) (.kill [11, 12, 13, 14, 15]))
  (.cond (.tmp 16) (.ghost (.kill [0, 1, 7, 8, 16]) (.seq (.post (.reg [⟨(some 17), .op (.mv (.tmp 5)), none⟩,
    ⟨(some 4), .op (.mv (.tmp 17)), none⟩]) (.kill [5, 17]))
  .ret))
  (.ghost (.kill [5, 16]) .skip)))))
  (.post (.reg [⟨(some 18), .op (.bin .add (.tmp 8) (.const (Value.int .i64 1))), none⟩,
    ⟨(some 8), .op (.mv (.tmp 18)), none⟩]) (.kill [18])))))
def lo_slices_IndexFunc_L_int64_0 : AC := (.loop lb_slices_IndexFunc_L_int64_0)
def ac_slices_IndexFunc_L_int64 : AC := (.seq (.post (.reg [⟨(some 4), .op (.mv (.const (Value.int .i64 0))), none⟩]) (.kill [4]))
  (.seq (.seq (.post (.reg [⟨(some 6), .op (.mv (.tmp 0)), none⟩,
    ⟨(some 7), .op (.len false (.tmp 6)), none⟩,
    ⟨(some 8), .op (.mv (.const (Value.int .i64 0))), none⟩]) (.kill [6]))
  (.block 0 lo_slices_IndexFunc_L_int64_0))
  (.ghost (.kill [0, 1, 7, 8]) (.seq (.reg [⟨(some 4), .op (.mv (.const (Value.int .i64 (-1)))), none⟩])
  .ret))))
theorem cf_slices_IndexFunc_L_int64 : chkFn Try.prog i_slices_IndexFunc_L_int64 ac_slices_IndexFunc_L_int64 [.tmp 4] 19 = true := by decide +kernel
def fa_slices_IndexFunc_L_int64 : FnA := ⟨ac_slices_IndexFunc_L_int64, [.tmp 4], 19, false, true, [], .any, none⟩

/-- The checked code of slices ContainsFunc   int64 int64 . -/
def ac_slices_ContainsFunc_L_int64 : AC := (.seq (.post (.reg [⟨(some 4), .op (.mv (.const (Value.bool false))), none⟩]) (.kill [4]))
  (.seq (.post (.reg [⟨(some 5), .op (.mv (.tmp 0)), none⟩,
    ⟨(some 6), .op (.mv (.tmp 1)), none⟩,
    ⟨(some 7), .call (.func i_slices_IndexFunc_L_int64) [(.tmp 5), (.tmp 6)], none⟩,
    ⟨(some 8), .op (.bin .geq (.tmp 7) (.const (Value.int .i64 0))), none⟩,
    ⟨(some 4), .op (.mv (.tmp 8)), none⟩]) (.kill [0, 1, 5, 6, 7, 8]))
  .ret))
theorem cf_slices_ContainsFunc_L_int64 : chkFn Try.prog i_slices_ContainsFunc_L_int64 ac_slices_ContainsFunc_L_int64 [.tmp 4] 9 = true := by decide +kernel
def fa_slices_ContainsFunc_L_int64 : FnA := ⟨ac_slices_ContainsFunc_L_int64, [.tmp 4], 9, false, true, [], .any, none⟩

/-- The checked code of impl size int64 . -/
def ac_impl_size_int64 : AC := (.seq (.post (.reg [⟨(some 2), .op (.mv (.const (Value.int .i64 0))), none⟩]) (.kill [2]))
  (.seq (.post (.reg [⟨(some 3), .op (.mv (.tmp 0)), none⟩,
    ⟨(some 4), .op (.len false (.tmp 3)), none⟩,
    ⟨(some 2), .op (.mv (.tmp 4)), none⟩]) (.kill [0, 3, 4]))
  .ret))
theorem cf_impl_size_int64 : chkFn Try.prog i_impl_size_int64 ac_impl_size_int64 [.tmp 2] 5 = true := by decide +kernel
def fa_impl_size_int64 : FnA := ⟨ac_impl_size_int64, [.tmp 2], 5, false, true, [], .any, none⟩

/-- The checked code of impl ValidChecker 1 1. -/
def ac_impl_ValidChecker_1_1 : AC := (.seq (.post (.reg [⟨(some 3), .op (.mv (.const (Value.bool false))), none⟩]) (.kill [3]))
  (.seq (.post (.reg [⟨(some 4), .op (.load 6 true (.tmp 1)), none⟩,
    ⟨(some 5), .op (.mv (.tmp 0)), none⟩,
    ⟨(some 6), .call (.func i_impl_Checker_isState) [(.tmp 4), (.tmp 5)], none⟩,
    ⟨(some 7), .op (.un .not (.tmp 6)), none⟩,
    ⟨(some 3), .op (.mv (.tmp 7)), none⟩]) (.kill [0, 1, 4, 5, 6, 7]))
  .ret))
theorem cf_impl_ValidChecker_1_1 : chkFn Try.prog i_impl_ValidChecker_1_1 ac_impl_ValidChecker_1_1 [.tmp 3] 8 = true := by decide +kernel
def fa_impl_ValidChecker_1_1 : FnA := ⟨ac_impl_ValidChecker_1_1, [.tmp 3], 8, false, true, [], .any, none⟩

/-- The checked code of impl ValidChecker 1. -/
def ac_impl_ValidChecker_1 : AC := (.seq (.post (.reg [⟨(some 5), .op (.mv (.const (Value.bool false))), none⟩]) (.kill [5]))
  (.seq (.post (.reg [⟨(some 6), .op (.mv (.tmp 0)), none⟩,
    ⟨(some 7), .call (.func i_impl_size_int64) [(.tmp 6)], none⟩,
    ⟨(some 8), .op (.mv (.tmp 1)), none⟩,
    ⟨(some 9), .op (.bin .eql (.tmp 7) (.tmp 8)), none⟩,
    ⟨(some 10), .op (.mv (.tmp 9)), none⟩,
    ⟨(some 11), .op (.mv (.tmp 0)), some (10, true)⟩,
    ⟨(some 12), .op (.mkfn i_impl_ValidChecker_1_1 [(.tmp 2)]), some (10, true)⟩,
    ⟨(some 13), .call (.func i_slices_ContainsFunc_L_int64) [(.tmp 11), (.tmp 12)], some (10, true)⟩,
    ⟨(some 14), .op (.un .not (.tmp 13)), some (10, true)⟩,
    ⟨(some 15), .op (.pick (.tmp 10) (.tmp 14) (.const (Value.bool false))), none⟩,
    ⟨(some 5), .op (.mv (.tmp 15)), none⟩]) (.kill [0, 1, 2, 6, 7, 8, 9, 10, 11, 12, 13, 14, 15]))
  .ret))
theorem cf_impl_ValidChecker_1 : chkFn Try.prog i_impl_ValidChecker_1 ac_impl_ValidChecker_1 [.tmp 5] 16 = true := by decide +kernel
def fa_impl_ValidChecker_1 : FnA := ⟨ac_impl_ValidChecker_1, [.tmp 5], 16, false, true, [], .any, none⟩

/-- The checked code of impl ValidChecker. -/
def lb_impl_ValidChecker_0 : AC := (.post (.seq (.reg [⟨(some 80), .op (.bin .lss (.tmp 79) (.const (Value.int .i64 2))), none⟩])
  (.seq (.cond (.tmp 80) (.ghost (.kill [80]) .skip)
  (.ghost (.kill [5, 79, 80]) (.exit 2)))
  (.seq (.block 3 (.seq (.post (.reg [⟨(some 81), .op (.mv (.tmp 79)), none⟩,
    ⟨(some 6), .op (.mv (.tmp 81)), none⟩]) (.kill [81]))
  (.seq (.post (.reg [⟨(some 82), .op (.faddr (.tmp 1) 3), none⟩,
    ⟨(some 83), .op (.load 1 false (.tmp 82)), none⟩,
    ⟨(some 84), .op (.mv (.tmp 5)), none⟩,
    ⟨(some 85), .op (.iaddrS (.tmp 83) (.tmp 84) 1), none⟩,
    ⟨(some 86), .op (.load 1 false (.tmp 85)), none⟩,
    ⟨(some 87), .op (.mv (.tmp 6)), none⟩,
    ⟨(some 88), .op (.iaddrS (.tmp 86) (.tmp 87) 2), none⟩,
    ⟨(some 89), .op (.load 2 true (.tmp 88)), none⟩,
    ⟨(some 7), .op (.alloc (Value.agg #[Value.int .i64 0, Value.int .i64 0])), none⟩,
    ⟨none, .op (.store 2 (.tmp 7) (.tmp 89)), none⟩]) (.kill [82, 83, 84, 85, 86, 87, 88, 89]))
  (.seq (.post (.draw [⟨0, ⟨(some 90), .op (.load 6 true (.tmp 1)), none⟩, []⟩,
    ⟨1, ⟨(some 91), .op (.faddr (.tmp 7) 0), none⟩, []⟩,
    ⟨2, ⟨(some 92), .op (.load 1 false (.tmp 91)), none⟩, []⟩,
    ⟨3, ⟨(some 93), .call (.func i_impl_Checker_isState) [(.tmp 90), (.tmp 92)], none⟩, []⟩,
    ⟨4, ⟨(some 94), .op (.un .not (.tmp 93)), none⟩, []⟩,
    ⟨5, ⟨(some 95), .op (.mv (.tmp 94)), none⟩, []⟩,
    ⟨6, ⟨(some 96), .op (.load 6 true (.tmp 1)), some (95, false)⟩, []⟩,
    ⟨7, ⟨(some 97), .op (.faddr (.tmp 7) 1), some (95, false)⟩, []⟩,
    ⟨8, ⟨(some 98), .op (.load 1 false (.tmp 97)), some (95, false)⟩, []⟩,
    ⟨9, ⟨(some 99), .call (.func i_impl_Checker_isMark) [(.tmp 96), (.tmp 98)], some (95, false)⟩, []⟩,
    ⟨10, ⟨(some 100), .op (.un .not (.tmp 99)), some (95, false)⟩, []⟩,
    ⟨11, ⟨(some 101), .op (.pick (.tmp 95) (.const (Value.bool true)) (.tmp 100)), none⟩, []⟩,
    ⟨12, ⟨(some 102), .op (.mv (.tmp 101)), none⟩, []⟩,
    ⟨13, ⟨(some 103), .op (.mv (.tmp 4)), some (102, false)⟩, []⟩,
    ⟨14, ⟨(some 104), .op (.faddr (.tmp 1) 4), some (102, false)⟩, []⟩,
    ⟨15, ⟨(some 105), .op (.load 1 false (.tmp 104)), some (102, false)⟩, []⟩,
    ⟨16, ⟨(some 106), .op (.mv (.tmp 5)), some (102, false)⟩, []⟩,
    ⟨17, ⟨(some 107), .op (.iaddrS (.tmp 105) (.tmp 106) 1), some (102, false)⟩, []⟩,
    ⟨18, ⟨(some 108), .op (.load 1 false (.tmp 107)), some (102, false)⟩, []⟩,
    ⟨19, ⟨(some 109), .op (.mv (.tmp 6)), some (102, false)⟩, []⟩,
    ⟨20, ⟨(some 110), .op (.iaddrS (.tmp 108) (.tmp 109) 1), some (102, false)⟩, []⟩,
    ⟨21, ⟨(some 111), .op (.load 1 false (.tmp 110)), some (102, false)⟩, []⟩,
    ⟨22, ⟨(some 112), .op (.faddr (.tmp 1) 0), some (102, false)⟩, []⟩,
    ⟨23, ⟨(some 113), .op (.load 1 false (.tmp 112)), some (102, false)⟩, []⟩,
    ⟨24, ⟨(some 114), .op (.bin .add (.tmp 113) (.const (Value.int .i64 1))), some (102, false)⟩, []⟩,
    ⟨25, ⟨(some 115), .call (.tmp 103) [(.tmp 111), (.tmp 114)], some (102, false)⟩, []⟩,
    ⟨26, ⟨(some 116), .op (.un .not (.tmp 115)), some (102, false)⟩, []⟩,
    ⟨27, ⟨(some 117), .op (.pick (.tmp 102) (.const (Value.bool true)) (.tmp 116)), none⟩, []⟩]
    [0, 0, 2, 7, 15, 31, 63, 63, 191, 511, 1023, 2047, 4095, 8191, 8191, 24575, 8191, 122879, 253951, 8191, 1040383, 2088959, 8191, 4202495, 12591103, 33554431, 67108863, 134217727]) (.kill [6, 7, 90, 91, 92, 93, 94, 95, 96, 97, 98, 99, 100, 101, 102, 103, 104, 105, 106, 107, 108, 109, 110, 111, 112, 113, 114, 115, 116]))
  (.cond (.tmp 117) (.ghost (.kill [1, 4, 5, 49, 50, 79, 117]) (.seq (.reg [⟨(some 2), .op (.mv (.const (Value.bool false))), none⟩])
  .ret))
  (.ghost (.kill [117]) .skip))))))
  (.post (.reg [⟨(some 118), .op (.bin .add (.tmp 79) (.const (Value.int .i64 1))), none⟩,
    ⟨(some 79), .op (.mv (.tmp 118)), none⟩]) (.kill [118]))))) .nv)
def lo_impl_ValidChecker_0 : AC := (.loop lb_impl_ValidChecker_0)
def lb_impl_ValidChecker_1 : AC := (.post (.seq (.reg [⟨(some 51), .op (.bin .lss (.tmp 50) (.tmp 49)), none⟩])
  (.seq (.cond (.tmp 51) (.ghost (.kill [51]) .skip)
  (.ghost (.kill [1, 4, 49, 50, 51]) (.exit 0)))
  (.seq (.block 1 (.seq (.post (.reg [⟨(some 52), .op (.mv (.tmp 50)), none⟩,
    ⟨(some 5), .op (.mv (.tmp 52)), none⟩]) (.kill [52]))
  (.seq (.seq (.post (.reg [⟨(some 53), .op (.faddr (.tmp 1) 3), none⟩,
    ⟨(some 54), .op (.load 1 false (.tmp 53)), none⟩,
    ⟨(some 55), .op (.mv (.tmp 5)), none⟩,
    ⟨(some 56), .op (.iaddrS (.tmp 54) (.tmp 55) 1), none⟩,
    ⟨(some 57), .op (.load 1 false (.tmp 56)), none⟩,
    ⟨(some 58), .op (.len false (.tmp 57)), none⟩,
    ⟨(some 59), .op (.bin .neq (.tmp 58) (.const (Value.int .i64 2))), none⟩,
    ⟨(some 60), .op (.mv (.tmp 59)), none⟩,
    ⟨(some 61), .op (.faddr (.tmp 1) 4), some (60, false)⟩,
    ⟨(some 62), .op (.load 1 false (.tmp 61)), some (60, false)⟩,
    ⟨(some 63), .op (.mv (.tmp 5)), some (60, false)⟩,
    ⟨(some 64), .op (.iaddrS (.tmp 62) (.tmp 63) 1), some (60, false)⟩,
    ⟨(some 65), .op (.load 1 false (.tmp 64)), some (60, false)⟩,
    ⟨(some 66), .op (.len false (.tmp 65)), some (60, false)⟩,
    ⟨(some 67), .op (.bin .neq (.tmp 66) (.const (Value.int .i64 2))), some (60, false)⟩,
    ⟨(some 68), .op (.pick (.tmp 60) (.const (Value.bool true)) (.tmp 67)), none⟩,
    ⟨(some 69), .op (.mv (.tmp 68)), none⟩,
    ⟨(some 70), .op (.mv (.tmp 4)), some (69, false)⟩,
    ⟨(some 71), .op (.faddr (.tmp 1) 5), some (69, false)⟩,
    ⟨(some 72), .op (.load 1 false (.tmp 71)), some (69, false)⟩,
    ⟨(some 73), .op (.mv (.tmp 5)), some (69, false)⟩,
    ⟨(some 74), .op (.iaddrS (.tmp 72) (.tmp 73) 1), some (69, false)⟩,
    ⟨(some 75), .op (.load 1 false (.tmp 74)), some (69, false)⟩,
    ⟨(some 76), .call (.tmp 70) [(.tmp 75), (.const (Value.int .i64 2))], some (69, false)⟩,
    ⟨(some 77), .op (.un .not (.tmp 76)), some (69, false)⟩,
    ⟨(some 78), .op (.pick (.tmp 69) (.const (Value.bool true)) (.tmp 77)), none⟩]) (.kill [53, 54, 55, 56, 57, 58, 59, 60, 61, 62, 63, 64, 65, 66, 67, 68, 69, 70, 71, 72, 73, 74, 75, 76, 77]))
  (.cond (.tmp 78) (.ghost (.kill [1, 4, 5, 49, 50, 78]) (.seq (.reg [⟨(some 2), .op (.mv (.const (Value.bool false))), none⟩])
  .ret))
  (.ghost (.kill [78]) .skip)))
  (.seq (.reg [⟨(some 79), .op (.mv (.const (Value.int .i64 0))), none⟩])
  (.post (.block 2 (.ghost .nv lo_impl_ValidChecker_0)) .nv)))))
  (.ghost (.kill [5, 79]) (.post (.reg [⟨(some 119), .op (.bin .add (.tmp 50) (.const (Value.int .i64 1))), none⟩,
    ⟨(some 50), .op (.mv (.tmp 119)), none⟩]) (.kill [119])))))) .nv)
def lo_impl_ValidChecker_1 : AC := (.loop lb_impl_ValidChecker_1)
def ac_impl_ValidChecker : AC := (.seq (.post (.reg [⟨(some 1), .op (.box true (.tmp 0)), none⟩,
    ⟨(some 2), .op (.mv (.const (Value.bool false))), none⟩]) (.kill [0, 2]))
  (.seq (.post (.reg [⟨(some 8), .op (.faddr (.tmp 1) 2), none⟩,
    ⟨(some 9), .op (.load 1 false (.tmp 8)), none⟩,
    ⟨(some 10), .call (.func i_impl_size_bool) [(.tmp 9)], none⟩,
    ⟨(some 3), .op (.mv (.tmp 10)), none⟩]) (.kill [8, 9, 10]))
  (.seq (.seq (.post (.reg [⟨(some 11), .op (.mv (.tmp 3)), none⟩,
    ⟨(some 12), .call (.func i_impl_within) [(.tmp 11), (.const (Value.int .i64 1)), (.const (Value.int .i64 40))], none⟩,
    ⟨(some 13), .op (.un .not (.tmp 12)), none⟩,
    ⟨(some 14), .op (.mv (.tmp 13)), none⟩,
    ⟨(some 15), .op (.faddr (.tmp 1) 0), some (14, false)⟩,
    ⟨(some 16), .op (.load 1 false (.tmp 15)), some (14, false)⟩,
    ⟨(some 17), .call (.func i_impl_within) [(.tmp 16), (.const (Value.int .i64 1)), (.const (Value.int .i64 80))], some (14, false)⟩,
    ⟨(some 18), .op (.un .not (.tmp 17)), some (14, false)⟩,
    ⟨(some 19), .op (.pick (.tmp 14) (.const (Value.bool true)) (.tmp 18)), none⟩,
    ⟨(some 20), .op (.mv (.tmp 19)), none⟩,
    ⟨(some 21), .op (.load 6 true (.tmp 1)), some (20, false)⟩,
    ⟨(some 22), .op (.faddr (.tmp 1) 1), some (20, false)⟩,
    ⟨(some 23), .op (.load 1 false (.tmp 22)), some (20, false)⟩,
    ⟨(some 24), .call (.func i_impl_Checker_isState) [(.tmp 21), (.tmp 23)], some (20, false)⟩,
    ⟨(some 25), .op (.un .not (.tmp 24)), some (20, false)⟩,
    ⟨(some 26), .op (.pick (.tmp 20) (.const (Value.bool true)) (.tmp 25)), none⟩,
    ⟨(some 27), .op (.mv (.tmp 26)), none⟩,
    ⟨(some 28), .op (.faddr (.tmp 1) 3), some (27, false)⟩,
    ⟨(some 29), .op (.load 1 false (.tmp 28)), some (27, false)⟩,
    ⟨(some 30), .call (.func i_impl_size_L_impl_Push) [(.tmp 29)], some (27, false)⟩,
    ⟨(some 31), .op (.mv (.tmp 3)), some (27, false)⟩,
    ⟨(some 32), .op (.bin .neq (.tmp 30) (.tmp 31)), some (27, false)⟩,
    ⟨(some 33), .op (.pick (.tmp 27) (.const (Value.bool true)) (.tmp 32)), none⟩,
    ⟨(some 34), .op (.mv (.tmp 33)), none⟩,
    ⟨(some 35), .op (.faddr (.tmp 1) 4), some (34, false)⟩,
    ⟨(some 36), .op (.load 1 false (.tmp 35)), some (34, false)⟩,
    ⟨(some 37), .call (.func i_impl_size_L_L_int64) [(.tmp 36)], some (34, false)⟩,
    ⟨(some 38), .op (.mv (.tmp 3)), some (34, false)⟩,
    ⟨(some 39), .op (.bin .neq (.tmp 37) (.tmp 38)), some (34, false)⟩,
    ⟨(some 40), .op (.pick (.tmp 34) (.const (Value.bool true)) (.tmp 39)), none⟩,
    ⟨(some 41), .op (.mv (.tmp 40)), none⟩,
    ⟨(some 42), .op (.faddr (.tmp 1) 5), some (41, false)⟩,
    ⟨(some 43), .op (.load 1 false (.tmp 42)), some (41, false)⟩,
    ⟨(some 44), .call (.func i_impl_size_L_int64) [(.tmp 43)], some (41, false)⟩,
    ⟨(some 45), .op (.mv (.tmp 3)), some (41, false)⟩,
    ⟨(some 46), .op (.bin .neq (.tmp 44) (.tmp 45)), some (41, false)⟩,
    ⟨(some 47), .op (.pick (.tmp 41) (.const (Value.bool true)) (.tmp 46)), none⟩]) (.kill [11, 12, 13, 14, 15, 16, 17, 18, 19, 20, 21, 22, 23, 24, 25, 26, 27, 28, 29, 30, 31, 32, 33, 34, 35, 36, 37, 38, 39, 40, 41, 42, 43, 44, 45, 46]))
  (.cond (.tmp 47) (.ghost (.kill [1, 3, 47]) (.seq (.reg [⟨(some 2), .op (.mv (.const (Value.bool false))), none⟩])
  .ret))
  (.ghost (.kill [47]) .skip)))
  (.seq (.post (.reg [⟨(some 48), .op (.mkfn i_impl_ValidChecker_1 [(.tmp 1)]), none⟩,
    ⟨(some 4), .op (.mv (.tmp 48)), none⟩]) (.kill [48]))
  (.seq (.seq (.post (.reg [⟨(some 49), .op (.mv (.tmp 3)), none⟩,
    ⟨(some 50), .op (.mv (.const (Value.int .i64 0))), none⟩]) (.kill [3]))
  (.post (.block 0 (.ghost .nv lo_impl_ValidChecker_1)) .nv))
  (.ghost (.kill [1, 4, 49, 50]) (.seq (.reg [⟨(some 2), .op (.mv (.const (Value.bool true))), none⟩])
  .ret)))))))
theorem cf_impl_ValidChecker : chkFn Try.prog i_impl_ValidChecker ac_impl_ValidChecker [.tmp 2] 120 = true := by decide +kernel
def fa_impl_ValidChecker : FnA := ⟨ac_impl_ValidChecker, [.tmp 2], 120, false, true, [], .any, none⟩

/-- The checked code of stringslite IndexByte. -/
def ac_internal_stringslite_IndexByte : AC := (.seq (.post (.reg [⟨(some 4), .op (.mv (.const (Value.int .i64 0))), none⟩]) (.kill [4]))
  (.seq (.post (.reg [⟨(some 5), .op (.mv (.tmp 0)), none⟩,
    ⟨(some 6), .op (.mv (.tmp 1)), none⟩,
    ⟨(some 7), .op (.idxb i_internal_bytealg_IndexByteString (.tmp 5) (.tmp 6)), none⟩,
    ⟨(some 4), .op (.mv (.tmp 7)), none⟩]) (.kill [0, 1, 5, 6, 7]))
  .ret))
theorem cf_internal_stringslite_IndexByte : chkFn Try.prog i_internal_stringslite_IndexByte ac_internal_stringslite_IndexByte [.tmp 4] 8 = true := by decide +kernel
def fa_internal_stringslite_IndexByte : FnA := ⟨ac_internal_stringslite_IndexByte, [.tmp 4], 8, false, true, [], .any, none⟩

/-- The checked code of strings IndexByte. -/
def ac_strings_IndexByte : AC := (.seq (.post (.reg [⟨(some 4), .op (.mv (.const (Value.int .i64 0))), none⟩]) (.kill [4]))
  (.seq (.post (.reg [⟨(some 5), .op (.mv (.tmp 0)), none⟩,
    ⟨(some 6), .op (.mv (.tmp 1)), none⟩,
    ⟨(some 7), .call (.func i_internal_stringslite_IndexByte) [(.tmp 5), (.tmp 6)], none⟩,
    ⟨(some 4), .op (.mv (.tmp 7)), none⟩]) (.kill [0, 1, 5, 6, 7]))
  .ret))
theorem cf_strings_IndexByte : chkFn Try.prog i_strings_IndexByte ac_strings_IndexByte [.tmp 4] 8 = true := by decide +kernel
def fa_strings_IndexByte : FnA := ⟨ac_strings_IndexByte, [.tmp 4], 8, false, true, [], .any, none⟩

/-- The checked code of impl ValidWord. -/
def lb_impl_ValidWord_0 : AC := (.seq (.reg [⟨(some 7), .op (.bin .lss (.tmp 6) (.tmp 5)), none⟩])
  (.seq (.cond (.tmp 7) (.ghost (.kill [7]) .skip)
  (.ghost (.kill [5, 6, 7]) (.exit 0)))
  (.seq (.block 1 (.seq (.post (.reg [⟨(some 8), .op (.mv (.tmp 6)), none⟩,
    ⟨(some 3), .op (.mv (.tmp 8)), none⟩]) (.kill [8]))
  (.seq (.post (.reg [⟨(some 9), .op (.mv (.tmp 0)), none⟩,
    ⟨(some 10), .op (.mv (.tmp 3)), none⟩,
    ⟨(some 11), .op (.idxStr (.tmp 9) (.tmp 10)), none⟩,
    ⟨(some 12), .call (.func i_strings_IndexByte) [(.const (Value.string ⟨#[40, 91, 41, 93, 97, 98]⟩)), (.tmp 11)], none⟩,
    ⟨(some 13), .op (.bin .lss (.tmp 12) (.const (Value.int .i64 0))), none⟩]) (.kill [3, 9, 10, 11, 12]))
  (.cond (.tmp 13) (.ghost (.kill [0, 5, 6, 13]) (.seq (.reg [⟨(some 2), .op (.mv (.const (Value.bool false))), none⟩])
  .ret))
  (.ghost (.kill [13]) .skip)))))
  (.post (.reg [⟨(some 14), .op (.bin .add (.tmp 6) (.const (Value.int .i64 1))), none⟩,
    ⟨(some 6), .op (.mv (.tmp 14)), none⟩]) (.kill [14])))))
def lo_impl_ValidWord_0 : AC := (.loop lb_impl_ValidWord_0)
def ac_impl_ValidWord : AC := (.seq (.post (.reg [⟨(some 2), .op (.mv (.const (Value.bool false))), none⟩]) (.kill [2]))
  (.seq (.seq (.post (.reg [⟨(some 4), .op (.mv (.tmp 0)), none⟩,
    ⟨(some 5), .op (.len true (.tmp 4)), none⟩,
    ⟨(some 6), .op (.mv (.const (Value.int .i64 0))), none⟩]) (.kill [4]))
  (.block 0 lo_impl_ValidWord_0))
  (.ghost (.kill [5, 6]) (.seq (.post (.reg [⟨(some 15), .op (.mv (.tmp 0)), none⟩,
    ⟨(some 16), .op (.len true (.tmp 15)), none⟩,
    ⟨(some 17), .op (.bin .leq (.tmp 16) (.const (Value.int .i64 60))), none⟩,
    ⟨(some 2), .op (.mv (.tmp 17)), none⟩]) (.kill [0, 15, 16, 17]))
  .ret))))
theorem cf_impl_ValidWord : chkFn Try.prog i_impl_ValidWord ac_impl_ValidWord [.tmp 2] 18 = true := by decide +kernel
def fa_impl_ValidWord : FnA := ⟨ac_impl_ValidWord, [.tmp 2], 18, false, true, [], .any, none⟩

/-- The checked code of slices Clone   int64 int64 . -/
def ac_slices_Clone_L_int64 : AC := (.seq (.post (.reg [⟨(some 2), .op (.mv (.const (Value.slice none 0 0))), none⟩]) (.kill [2]))
  (.seq (.seq (.post (.reg [⟨(some 3), .op (.mv (.tmp 0)), none⟩,
    ⟨(some 4), .op (.eqnil false false .s (.tmp 3)), none⟩]) (.kill [3]))
  (.cond (.tmp 4) (.ghost (.kill [0, 4]) (.seq (.reg [⟨(some 2), .op (.mv (.const (Value.slice none 0 0))), none⟩])
  .ret))
  (.ghost (.kill [4]) .skip)))
  (.seq (.post (.post (.reg [⟨(some 5), .op (.lits true 1 0 (Value.int .i64 0) []), none⟩,
    ⟨(some 6), .op (.mv (.tmp 0)), none⟩,
    ⟨(some 7), .op (.append (.tmp 5) (.tmp 6) 1 8), none⟩,
    ⟨(some 2), .op (.mv (.tmp 7)), none⟩]) (.kill [0, 5, 6, 7])) .nv)
  .ret)))
theorem cf_slices_Clone_L_int64 : chkFn Try.prog i_slices_Clone_L_int64 ac_slices_Clone_L_int64 [.tmp 2] 8 = true := by decide +kernel
def fa_slices_Clone_L_int64 : FnA := ⟨ac_slices_Clone_L_int64, [.tmp 2], 8, false, false, [], .any, none⟩

/-- The checked code of impl isCall. -/
def ac_impl_isCall : AC := (.seq (.post (.reg [⟨(some 2), .op (.mv (.const (Value.bool false))), none⟩]) (.kill [2]))
  (.seq (.post (.reg [⟨(some 3), .op (.mv (.tmp 0)), none⟩,
    ⟨(some 4), .op (.bin .eql (.tmp 3) (.const (Value.int .u8 40))), none⟩,
    ⟨(some 5), .op (.mv (.tmp 4)), none⟩,
    ⟨(some 6), .op (.mv (.tmp 0)), some (5, false)⟩,
    ⟨(some 7), .op (.bin .eql (.tmp 6) (.const (Value.int .u8 91))), some (5, false)⟩,
    ⟨(some 8), .op (.pick (.tmp 5) (.const (Value.bool true)) (.tmp 7)), none⟩,
    ⟨(some 2), .op (.mv (.tmp 8)), none⟩]) (.kill [0, 3, 4, 5, 6, 7, 8]))
  .ret))
theorem cf_impl_isCall : chkFn Try.prog i_impl_isCall ac_impl_isCall [.tmp 2] 9 = true := by decide +kernel
def fa_impl_isCall : FnA := ⟨ac_impl_isCall, [.tmp 2], 9, false, true, [], .any, none⟩

/-- The checked code of impl isInner. -/
def ac_impl_isInner : AC := (.seq (.post (.reg [⟨(some 2), .op (.mv (.const (Value.bool false))), none⟩]) (.kill [2]))
  (.seq (.post (.reg [⟨(some 3), .op (.mv (.tmp 0)), none⟩,
    ⟨(some 4), .op (.bin .eql (.tmp 3) (.const (Value.int .u8 97))), none⟩,
    ⟨(some 5), .op (.mv (.tmp 4)), none⟩,
    ⟨(some 6), .op (.mv (.tmp 0)), some (5, false)⟩,
    ⟨(some 7), .op (.bin .eql (.tmp 6) (.const (Value.int .u8 98))), some (5, false)⟩,
    ⟨(some 8), .op (.pick (.tmp 5) (.const (Value.bool true)) (.tmp 7)), none⟩,
    ⟨(some 2), .op (.mv (.tmp 8)), none⟩]) (.kill [0, 3, 4, 5, 6, 7, 8]))
  .ret))
theorem cf_impl_isInner : chkFn Try.prog i_impl_isInner ac_impl_isInner [.tmp 2] 9 = true := by decide +kernel
def fa_impl_isInner : FnA := ⟨ac_impl_isInner, [.tmp 2], 9, false, true, [], .any, none⟩

/-- The checked code of impl kindOf. -/
def ac_impl_kindOf : AC := (.seq (.post (.reg [⟨(some 2), .op (.mv (.const (Value.int .i64 0))), none⟩]) (.kill [2]))
  (.seq (.post (.reg [⟨(some 3), .op (.mv (.tmp 0)), none⟩,
    ⟨(some 4), .call (.func i_strings_IndexByte) [(.const (Value.string ⟨#[40, 91, 41, 93, 97, 98]⟩)), (.tmp 3)], none⟩,
    ⟨(some 5), .op (.bin .rem (.tmp 4) (.const (Value.int .i64 2))), none⟩,
    ⟨(some 2), .op (.mv (.tmp 5)), none⟩]) (.kill [0, 3, 4, 5]))
  .ret))
theorem cf_impl_kindOf : chkFn Try.prog i_impl_kindOf ac_impl_kindOf [.tmp 2] 6 = true := by decide +kernel
def fa_impl_kindOf : FnA := ⟨ac_impl_kindOf, [.tmp 2], 6, false, true, [], .any, none⟩

/-- The checked code of impl Checker  step. -/
def ac_impl_Checker_step : AC := (.seq (.post (.reg [⟨(some 4), .op (.box true (.tmp 0)), none⟩,
    ⟨(some 8), .op (.mv (.const (Value.int .i64 0))), none⟩,
    ⟨(some 9), .op (.mv (.const (Value.slice none 0 0))), none⟩]) (.kill [0, 8, 9]))
  (.seq (.post (.reg [⟨(some 14), .op (.mv (.tmp 3)), none⟩,
    ⟨(some 15), .call (.func i_impl_kindOf) [(.tmp 14)], none⟩,
    ⟨(some 10), .op (.mv (.tmp 15)), none⟩]) (.kill [14, 15]))
  (.seq (.block 0 (.seq (.post (.reg [⟨(some 17), .op (.mv (.tmp 3)), none⟩,
    ⟨(some 18), .call (.func i_impl_isCall) [(.tmp 17)], none⟩,
    ⟨(some 16), .op (.mv (.tmp 18)), none⟩]) (.kill [17, 18]))
  (.cond (.tmp 16) (.ghost (.kill [3, 16]) (.seq (.post (.reg [⟨(some 19), .op (.faddr (.tmp 4) 3), none⟩,
    ⟨(some 20), .op (.load 1 false (.tmp 19)), none⟩,
    ⟨(some 21), .op (.mv (.tmp 1)), none⟩,
    ⟨(some 22), .op (.iaddrS (.tmp 20) (.tmp 21) 1), none⟩,
    ⟨(some 23), .op (.load 1 false (.tmp 22)), none⟩,
    ⟨(some 24), .op (.mv (.tmp 10)), none⟩,
    ⟨(some 25), .op (.iaddrS (.tmp 23) (.tmp 24) 2), none⟩,
    ⟨(some 26), .op (.load 2 true (.tmp 25)), none⟩,
    ⟨(some 11), .op (.alloc (Value.agg #[Value.int .i64 0, Value.int .i64 0])), none⟩,
    ⟨none, .op (.store 2 (.tmp 11) (.tmp 26)), none⟩]) (.kill [1, 4, 10, 19, 20, 21, 22, 23, 24, 25, 26]))
  (.seq (.post (.post (.draw [⟨0, ⟨(some 27), .op (.faddr (.tmp 11) 0), none⟩, []⟩,
    ⟨1, ⟨(some 28), .op (.load 1 false (.tmp 27)), none⟩, []⟩,
    ⟨2, ⟨(some 29), .op (.mv (.tmp 2)), none⟩, []⟩,
    ⟨4, ⟨(some 31), .op (.faddr (.tmp 11) 1), none⟩, []⟩,
    ⟨5, ⟨(some 32), .op (.load 1 false (.tmp 31)), none⟩, []⟩,
    ⟨6, ⟨(some 33), .op (.lits true 1 1 (Value.int .i64 0) [(0, (.tmp 32))]), none⟩, []⟩,
    ⟨3, ⟨(some 30), .call (.func i_slices_Clone_L_int64) [(.tmp 29)], none⟩, [1, 5]⟩,
    ⟨7, ⟨(some 34), .op (.append (.tmp 30) (.tmp 33) 1 8), none⟩, [1]⟩,
    ⟨8, ⟨(some 8), .op (.mv (.tmp 28)), none⟩, []⟩,
    ⟨9, ⟨(some 9), .op (.mv (.tmp 34)), none⟩, []⟩]
    [0, 1, 0, 4, 0, 16, 48, 124, 255, 511]) (.kill [2, 11, 27, 28, 29, 30, 31, 32, 33, 34])) .nv)
  .ret)))
  (.ghost (.kill [16]) (.seq (.post (.reg [⟨(some 36), .op (.mv (.tmp 3)), none⟩,
    ⟨(some 37), .call (.func i_impl_isInner) [(.tmp 36)], none⟩,
    ⟨(some 35), .op (.mv (.tmp 37)), none⟩]) (.kill [3, 36, 37]))
  (.cond (.tmp 35) (.ghost (.kill [35]) (.seq (.post (.reg [⟨(some 38), .op (.faddr (.tmp 4) 5), none⟩,
    ⟨(some 39), .op (.load 1 false (.tmp 38)), none⟩,
    ⟨(some 40), .op (.mv (.tmp 1)), none⟩,
    ⟨(some 41), .op (.iaddrS (.tmp 39) (.tmp 40) 1), none⟩,
    ⟨(some 42), .op (.load 1 false (.tmp 41)), none⟩,
    ⟨(some 43), .op (.mv (.tmp 10)), none⟩,
    ⟨(some 44), .op (.iaddrS (.tmp 42) (.tmp 43) 1), none⟩,
    ⟨(some 45), .op (.load 1 false (.tmp 44)), none⟩,
    ⟨(some 46), .op (.mv (.tmp 2)), none⟩,
    ⟨(some 8), .op (.mv (.tmp 45)), none⟩,
    ⟨(some 9), .op (.mv (.tmp 46)), none⟩]) (.kill [1, 2, 4, 10, 38, 39, 40, 41, 42, 43, 44, 45, 46]))
  .ret))
  (.ghost (.kill [35]) .skip)))))))
  (.seq (.post (.reg [⟨(some 47), .op (.faddr (.tmp 4) 0), none⟩,
    ⟨(some 48), .op (.load 1 false (.tmp 47)), none⟩,
    ⟨(some 12), .op (.mv (.tmp 48)), none⟩]) (.kill [47, 48]))
  (.seq (.seq (.post (.reg [⟨(some 49), .op (.mv (.tmp 2)), none⟩,
    ⟨(some 50), .op (.len false (.tmp 49)), none⟩,
    ⟨(some 13), .op (.mv (.tmp 50)), none⟩]) (.kill [49, 50]))
  (.seq (.post (.reg [⟨(some 51), .op (.mv (.tmp 13)), none⟩,
    ⟨(some 52), .op (.bin .gtr (.tmp 51) (.const (Value.int .i64 0))), none⟩]) (.kill [51]))
  (.cond (.tmp 52) (.ghost (.kill [12, 52]) (.post (.post (.draw [⟨0, ⟨(some 53), .op (.mv (.tmp 2)), none⟩, []⟩,
    ⟨1, ⟨(some 54), .op (.mv (.tmp 13)), none⟩, []⟩,
    ⟨2, ⟨(some 55), .op (.bin .sub (.tmp 54) (.const (Value.int .i64 1))), none⟩, []⟩,
    ⟨3, ⟨(some 56), .op (.iaddrS (.tmp 53) (.tmp 55) 1), none⟩, []⟩,
    ⟨4, ⟨(some 57), .op (.load 1 false (.tmp 56)), none⟩, []⟩,
    ⟨5, ⟨(some 58), .op (.mv (.tmp 2)), none⟩, []⟩,
    ⟨6, ⟨(some 59), .op (.mv (.tmp 13)), none⟩, []⟩,
    ⟨7, ⟨(some 60), .op (.bin .sub (.tmp 59) (.const (Value.int .i64 1))), none⟩, []⟩,
    ⟨8, ⟨(some 61), .op (.slcS (.tmp 58) none (some (.tmp 60)) none 1), none⟩, []⟩,
    ⟨9, ⟨(some 12), .op (.mv (.tmp 57)), none⟩, []⟩,
    ⟨10, ⟨(some 2), .op (.mv (.tmp 61)), none⟩, []⟩]
    [0, 0, 2, 7, 15, 0, 0, 64, 224, 31, 1023]) (.kill [13, 53, 54, 55, 56, 57, 58, 59, 60, 61])) .nv))
  (.ghost (.kill [13, 52]) .skip))))
  (.seq (.post (.reg [⟨(some 62), .op (.faddr (.tmp 4) 4), none⟩,
    ⟨(some 63), .op (.load 1 false (.tmp 62)), none⟩,
    ⟨(some 64), .op (.mv (.tmp 1)), none⟩,
    ⟨(some 65), .op (.iaddrS (.tmp 63) (.tmp 64) 1), none⟩,
    ⟨(some 66), .op (.load 1 false (.tmp 65)), none⟩,
    ⟨(some 67), .op (.mv (.tmp 10)), none⟩,
    ⟨(some 68), .op (.iaddrS (.tmp 66) (.tmp 67) 1), none⟩,
    ⟨(some 69), .op (.load 1 false (.tmp 68)), none⟩,
    ⟨(some 70), .op (.mv (.tmp 12)), none⟩,
    ⟨(some 71), .op (.iaddrS (.tmp 69) (.tmp 70) 1), none⟩,
    ⟨(some 72), .op (.load 1 false (.tmp 71)), none⟩,
    ⟨(some 73), .op (.mv (.tmp 2)), none⟩,
    ⟨(some 8), .op (.mv (.tmp 72)), none⟩,
    ⟨(some 9), .op (.mv (.tmp 73)), none⟩]) (.kill [1, 2, 4, 10, 12, 62, 63, 64, 65, 66, 67, 68, 69, 70, 71, 72, 73]))
  .ret))))))
theorem cf_impl_Checker_step : chkFn Try.prog i_impl_Checker_step ac_impl_Checker_step [.tmp 8, .tmp 9] 74 = true := by decide +kernel
def fa_impl_Checker_step : FnA := ⟨ac_impl_Checker_step, [.tmp 8, .tmp 9], 74, false, true, [.any, .any, (.lst 1 .any), .any], (.agg [.any, (.lst 1 .any)]), none⟩

/-- The checked code of impl Checker  run. -/
def lb_impl_Checker_run_0 : AC := (.seq (.reg [⟨(some 18), .op (.bin .lss (.tmp 17) (.tmp 16)), none⟩])
  (.seq (.cond (.tmp 18) (.ghost (.kill [18]) .skip)
  (.ghost (.kill [1, 2, 3, 4, 5, 16, 17, 18]) (.exit 0)))
  (.seq (.block 1 (.seq (.post (.reg [⟨(some 19), .op (.mv (.tmp 17)), none⟩,
    ⟨(some 10), .op (.mv (.tmp 19)), none⟩]) (.kill [19]))
  (.seq (.post (.draw [⟨0, ⟨(some 21), .op (.load 6 true (.tmp 5)), none⟩, []⟩,
    ⟨1, ⟨(some 22), .op (.mv (.tmp 1)), none⟩, []⟩,
    ⟨2, ⟨(some 23), .op (.mv (.tmp 2)), none⟩, []⟩,
    ⟨3, ⟨(some 24), .op (.mv (.tmp 3)), none⟩, []⟩,
    ⟨4, ⟨(some 25), .op (.mv (.tmp 10)), none⟩, []⟩,
    ⟨5, ⟨(some 26), .op (.idxStr (.tmp 24) (.tmp 25)), none⟩, []⟩,
    ⟨6, ⟨(some 27), .call (.func i_impl_Checker_step) [(.tmp 21), (.tmp 22), (.tmp 23), (.tmp 26)], none⟩, []⟩,
    ⟨7, ⟨(some 20), .op (.mv (.tmp 27)), none⟩, []⟩,
    ⟨8, ⟨(some 28), .op (.ext (.tmp 20) 0), none⟩, []⟩,
    ⟨9, ⟨(some 29), .op (.ext (.tmp 20) 1), none⟩, []⟩,
    ⟨10, ⟨(some 1), .op (.mv (.tmp 28)), none⟩, []⟩,
    ⟨11, ⟨(some 2), .op (.mv (.tmp 29)), none⟩, []⟩]
    [0, 0, 0, 0, 0, 24, 63, 127, 255, 255, 511, 2047]) (.kill [10, 20, 21, 22, 23, 24, 25, 26, 27, 28, 29]))
  (.post (.reg [⟨(some 30), .op (.mv (.tmp 4)), none⟩,
    ⟨(some 31), .op (.mv (.tmp 1)), none⟩,
    ⟨(some 32), .op (.mv (.tmp 2)), none⟩,
    ⟨(some 33), .call (.tmp 30) [(.tmp 31), (.tmp 32)], none⟩]) (.kill [30, 31, 32, 33])))))
  (.post (.reg [⟨(some 34), .op (.bin .add (.tmp 17) (.const (Value.int .i64 1))), none⟩,
    ⟨(some 17), .op (.mv (.tmp 34)), none⟩]) (.kill [34])))))
def lo_impl_Checker_run_0 : AC := (.loop lb_impl_Checker_run_0)
def ac_impl_Checker_run : AC := (.seq (.post (.reg [⟨(some 5), .op (.box true (.tmp 0)), none⟩]) (.kill [0]))
  (.seq (.post (.reg [⟨(some 11), .op (.mv (.tmp 4)), none⟩,
    ⟨(some 12), .op (.mv (.tmp 1)), none⟩,
    ⟨(some 13), .op (.mv (.tmp 2)), none⟩,
    ⟨(some 14), .call (.tmp 11) [(.tmp 12), (.tmp 13)], none⟩]) (.kill [11, 12, 13, 14]))
  (.seq (.post (.reg [⟨(some 15), .op (.mv (.tmp 3)), none⟩,
    ⟨(some 16), .op (.len true (.tmp 15)), none⟩,
    ⟨(some 17), .op (.mv (.const (Value.int .i64 0))), none⟩]) (.kill [15]))
  (.block 0 lo_impl_Checker_run_0))))
theorem cf_impl_Checker_run : chkFn Try.prog i_impl_Checker_run ac_impl_Checker_run [] 35 = true := by decide +kernel
def fa_impl_Checker_run : FnA := ⟨ac_impl_Checker_run, [], 35, true, false, [], .any, none⟩

/-- The checked code of impl StacksOf 1. -/
def ac_impl_StacksOf_1 : AC := (.ghost (.kill [0]) (.post (.draw [⟨0, ⟨(some 5), .op (.load 1 false (.tmp 2)), none⟩, []⟩,
    ⟨1, ⟨(some 6), .op (.mv (.tmp 1)), none⟩, []⟩,
    ⟨2, ⟨(some 7), .call (.func i_slices_Clone_L_int64) [(.tmp 6)], none⟩, [0]⟩,
    ⟨3, ⟨(some 8), .op (.lits true 1 1 (Value.slice none 0 0) [(0, (.tmp 7))]), none⟩, []⟩,
    ⟨4, ⟨(some 9), .op (.append (.tmp 5) (.tmp 8) 1 24), none⟩, []⟩,
    ⟨5, ⟨none, .op (.store 1 (.tmp 2) (.tmp 9)), none⟩, []⟩]
    [0, 0, 2, 6, 15, 31]) (.kill [1, 2, 5, 6, 7, 8, 9])))
theorem cf_impl_StacksOf_1 : chkFn Try.prog i_impl_StacksOf_1 ac_impl_StacksOf_1 [] 10 = true := by decide +kernel
def fa_impl_StacksOf_1 : FnA := ⟨ac_impl_StacksOf_1, [], 10, true, false, [], .any, none⟩

/-- The checked code of impl StacksOf. -/
def ac_impl_StacksOf : AC := (.seq (.post (.reg [⟨(some 2), .op (.box true (.tmp 0)), none⟩,
    ⟨(some 4), .op (.mv (.const (Value.slice none 0 0))), none⟩,
    ⟨(some 5), .op (.mv (.const (Value.int .i64 0))), none⟩]) (.kill [0, 4, 5]))
  (.seq (.seq (.post (.reg [⟨(some 7), .op (.load 6 true (.tmp 2)), none⟩,
    ⟨(some 8), .call (.func i_impl_ValidChecker) [(.tmp 7)], none⟩,
    ⟨(some 9), .op (.un .not (.tmp 8)), none⟩,
    ⟨(some 10), .op (.mv (.tmp 9)), none⟩,
    ⟨(some 11), .op (.mv (.tmp 1)), some (10, false)⟩,
    ⟨(some 12), .call (.func i_impl_ValidWord) [(.tmp 11)], some (10, false)⟩,
    ⟨(some 13), .op (.un .not (.tmp 12)), some (10, false)⟩,
    ⟨(some 14), .op (.pick (.tmp 10) (.const (Value.bool true)) (.tmp 13)), none⟩]) (.kill [7, 8, 9, 10, 11, 12, 13]))
  (.cond (.tmp 14) (.ghost (.kill [1, 2, 14]) (.seq (.reg [⟨(some 4), .op (.mv (.const (Value.slice none 0 0))), none⟩,
    ⟨(some 5), .op (.mv (.const (Value.int .i64 1))), none⟩])
  .ret))
  (.ghost (.kill [14]) .skip)))
  (.seq (.post (.reg [⟨(some 15), .op (.lits true 1 0 (Value.slice none 0 0) []), none⟩,
    ⟨(some 6), .op (.alloc (Value.slice none 0 0)), none⟩,
    ⟨none, .op (.store 1 (.tmp 6) (.tmp 15)), none⟩]) (.kill [15]))
  (.seq (.post (.reg [⟨(some 16), .op (.load 6 true (.tmp 2)), none⟩,
    ⟨(some 17), .op (.faddr (.tmp 2) 1), none⟩,
    ⟨(some 18), .op (.load 1 false (.tmp 17)), none⟩,
    ⟨(some 19), .op (.mv (.tmp 1)), none⟩,
    ⟨(some 20), .op (.mkfn i_impl_StacksOf_1 [(.tmp 6)]), none⟩,
    ⟨(some 21), .call (.func i_impl_Checker_run) [(.tmp 16), (.tmp 18), (.const (Value.slice none 0 0)), (.tmp 19), (.tmp 20)], none⟩]) (.kill [1, 2, 16, 17, 18, 19, 20, 21]))
  (.seq (.post (.reg [⟨(some 22), .op (.load 1 false (.tmp 6)), none⟩,
    ⟨(some 4), .op (.mv (.tmp 22)), none⟩,
    ⟨(some 5), .op (.mv (.const (Value.int .i64 0))), none⟩]) (.kill [6, 22]))
  .ret)))))
theorem cf_impl_StacksOf : chkFn Try.prog i_impl_StacksOf ac_impl_StacksOf [.tmp 4, .tmp 5] 23 = true := by decide +kernel
def fa_impl_StacksOf : FnA := ⟨ac_impl_StacksOf, [.tmp 4, .tmp 5], 23, false, false, [(.agg [.any, .any, (.lst 1 .any), (.lst 1 (.lst 2 .any)), (.lst 1 (.lst 1 (.lst 1 .any))), (.lst 1 (.lst 1 .any))]), .any], .any, none⟩

/-- The checked code of laws heldInt64S. -/
def lb_laws_heldInt64S_0 : AC := (.seq (.seq (.post (.reg [⟨(some 6), .op (.mv (.tmp 5)), none⟩,
    ⟨(some 7), .op (.mv (.tmp 0)), none⟩,
    ⟨(some 8), .op (.len false (.tmp 7)), none⟩,
    ⟨(some 9), .op (.bin .lss (.tmp 6) (.tmp 8)), none⟩]) (.kill [6, 7, 8]))
  (.cond (.tmp 9) (.ghost (.kill [9]) .skip)
  (.ghost (.kill [0, 5, 9]) (.exit 0))))
  (.seq (.block 1 (.seq (.seq (.post (.reg [⟨(some 12), .op (.mv (.tmp 0)), none⟩,
    ⟨(some 13), .op (.mv (.tmp 5)), none⟩,
    ⟨(some 14), .op (.iaddrS (.tmp 12) (.tmp 13) 1), none⟩,
    ⟨(some 15), .op (.load 1 false (.tmp 14)), none⟩,
    ⟨(some 16), .op (.mv (.tmp 1)), none⟩,
    ⟨(some 17), .op (.bin .neq (.tmp 15) (.tmp 16)), none⟩]) (.kill [12, 13, 14, 15, 16]))
  (.cond (.tmp 17) (.ghost (.kill [0, 1, 5, 17]) (.seq (.reg [⟨(some 4), .op (.mv (.const (Value.int .i64 (-1)))), none⟩])
  .ret))
  (.ghost (.kill [17]) .skip)))
  (.post (.reg [⟨(some 18), .op (.mv (.tmp 1)), none⟩,
    ⟨(some 19), .op (.bin .add (.tmp 18) (.const (Value.int .i64 1))), none⟩,
    ⟨(some 1), .op (.mv (.tmp 19)), none⟩]) (.kill [18, 19]))))
  (.post (.reg [⟨(some 10), .op (.mv (.tmp 5)), none⟩,
    ⟨(some 11), .op (.bin .add (.tmp 10) (.const (Value.int .i64 1))), none⟩,
    ⟨(some 5), .op (.mv (.tmp 11)), none⟩]) (.kill [10, 11]))))
def lo_laws_heldInt64S_0 : AC := (.loop lb_laws_heldInt64S_0)
def ac_laws_heldInt64S : AC := (.seq (.post (.reg [⟨(some 4), .op (.mv (.const (Value.int .i64 0))), none⟩]) (.kill [4]))
  (.seq (.seq (.reg [⟨(some 5), .op (.mv (.const (Value.int .i64 0))), none⟩])
  (.block 0 lo_laws_heldInt64S_0))
  (.ghost (.kill [0, 5]) (.seq (.post (.reg [⟨(some 20), .op (.mv (.tmp 1)), none⟩,
    ⟨(some 4), .op (.mv (.tmp 20)), none⟩]) (.kill [1, 20]))
  .ret))))
theorem cf_laws_heldInt64S : chkFn Try.prog i_laws_heldInt64S ac_laws_heldInt64S [.tmp 4] 21 = true := by decide +kernel
def fa_laws_heldInt64S : FnA := ⟨ac_laws_heldInt64S, [.tmp 4], 21, false, true, [(.lst 1 .any), .any], .any, none⟩

/-- The checked code of laws heldInt64SS. -/
def lb_laws_heldInt64SS_0 : AC := (.seq (.seq (.post (.reg [⟨(some 6), .op (.mv (.tmp 5)), none⟩,
    ⟨(some 7), .op (.mv (.tmp 0)), none⟩,
    ⟨(some 8), .op (.len false (.tmp 7)), none⟩,
    ⟨(some 9), .op (.bin .lss (.tmp 6) (.tmp 8)), none⟩]) (.kill [6, 7, 8]))
  (.cond (.tmp 9) (.ghost (.kill [9]) .skip)
  (.ghost (.kill [0, 5, 9]) (.exit 0))))
  (.seq (.block 1 (.seq (.post (.reg [⟨(some 12), .op (.mv (.tmp 0)), none⟩,
    ⟨(some 13), .op (.mv (.tmp 5)), none⟩,
    ⟨(some 14), .op (.iaddrS (.tmp 12) (.tmp 13) 1), none⟩,
    ⟨(some 15), .op (.load 1 false (.tmp 14)), none⟩,
    ⟨(some 16), .op (.mv (.tmp 1)), none⟩,
    ⟨(some 17), .call (.func i_laws_heldInt64S) [(.tmp 15), (.tmp 16)], none⟩,
    ⟨(some 1), .op (.mv (.tmp 17)), none⟩]) (.kill [12, 13, 14, 15, 16, 17]))
  (.seq (.post (.reg [⟨(some 18), .op (.mv (.tmp 1)), none⟩,
    ⟨(some 19), .op (.bin .lss (.tmp 18) (.const (Value.int .i64 0))), none⟩]) (.kill [18]))
  (.cond (.tmp 19) (.ghost (.kill [0, 1, 5, 19]) (.seq (.reg [⟨(some 4), .op (.mv (.const (Value.int .i64 (-1)))), none⟩])
  .ret))
  (.ghost (.kill [19]) .skip)))))
  (.post (.reg [⟨(some 10), .op (.mv (.tmp 5)), none⟩,
    ⟨(some 11), .op (.bin .add (.tmp 10) (.const (Value.int .i64 1))), none⟩,
    ⟨(some 5), .op (.mv (.tmp 11)), none⟩]) (.kill [10, 11]))))
def lo_laws_heldInt64SS_0 : AC := (.loop lb_laws_heldInt64SS_0)
def ac_laws_heldInt64SS : AC := (.seq (.post (.reg [⟨(some 4), .op (.mv (.const (Value.int .i64 0))), none⟩]) (.kill [4]))
  (.seq (.seq (.reg [⟨(some 5), .op (.mv (.const (Value.int .i64 0))), none⟩])
  (.block 0 lo_laws_heldInt64SS_0))
  (.ghost (.kill [0, 5]) (.seq (.post (.reg [⟨(some 20), .op (.mv (.tmp 1)), none⟩,
    ⟨(some 4), .op (.mv (.tmp 20)), none⟩]) (.kill [1, 20]))
  .ret))))
theorem cf_laws_heldInt64SS : chkFn Try.prog i_laws_heldInt64SS ac_laws_heldInt64SS [.tmp 4] 21 = true := by decide +kernel
def fa_laws_heldInt64SS : FnA := ⟨ac_laws_heldInt64SS, [.tmp 4], 21, false, true, [(.lst 1 (.lst 1 .any)), .any], .any, none⟩

/-- The checked code of laws FnExactStacksOf. -/
def ac_laws_FnExactStacksOf : AC := (.seq (.post (.reg [⟨(some 2), .op (.box true (.tmp 0)), none⟩,
    ⟨(some 4), .op (.mv (.const (Value.bool false))), none⟩]) (.kill [0, 4]))
  (.seq (.seq (.post (.reg [⟨(some 16), .op (.mv (.tmp 1)), none⟩,
    ⟨(some 17), .op (.len true (.tmp 16)), none⟩,
    ⟨(some 18), .op (.bin .gtr (.tmp 17) (.const (Value.int .i64 1048576))), none⟩]) (.kill [16, 17]))
  (.cond (.tmp 18) (.ghost (.kill [1, 2, 18]) (.seq (.reg [⟨(some 4), .op (.mv (.const (Value.bool true))), none⟩])
  .ret))
  (.ghost (.kill [18]) .skip)))
  (.seq (.reg [⟨(some 5), .op (.mv (.const (Value.int .i64 1048576))), none⟩])
  (.seq (.post (.reg [⟨(some 19), .op (.load 6 true (.tmp 2)), none⟩,
    ⟨(some 20), .op (.mv (.tmp 5)), none⟩,
    ⟨(some 21), .call (.func i_laws_szChecker) [(.tmp 19), (.tmp 20)], none⟩,
    ⟨(some 5), .op (.mv (.tmp 21)), none⟩]) (.kill [19, 20, 21]))
  (.seq (.seq (.post (.reg [⟨(some 22), .op (.mv (.tmp 5)), none⟩,
    ⟨(some 23), .op (.bin .lss (.tmp 22) (.const (Value.int .i64 0))), none⟩]) (.kill [5, 22]))
  (.cond (.tmp 23) (.ghost (.kill [1, 2, 23]) (.seq (.reg [⟨(some 4), .op (.mv (.const (Value.bool true))), none⟩])
  .ret))
  (.ghost (.kill [23]) .skip)))
  (.seq (.post (.reg [⟨(some 25), .op (.load 6 true (.tmp 2)), none⟩,
    ⟨(some 26), .call (.func i_laws_toChecker) [(.tmp 25)] true, none⟩,
    ⟨(some 27), .op (.mv (.tmp 1)), none⟩,
    ⟨(some 28), .call (.func i_spec_StacksOf) [(.tmp 26), (.tmp 27)], none⟩,
    ⟨(some 24), .op (.mv (.tmp 28)), none⟩,
    ⟨(some 29), .op (.ext (.tmp 24) 0), none⟩,
    ⟨(some 30), .op (.ext (.tmp 24) 1), none⟩,
    ⟨(some 6), .op (.mv (.tmp 29)), none⟩,
    ⟨(some 7), .op (.mv (.tmp 30)), none⟩]) (.kill [24, 25, 26, 27, 28, 29, 30]))
  (.seq (.post (.reg [⟨(some 31), .op (.load 6 true (.tmp 2)), none⟩,
    ⟨(some 32), .call (.func i_laws_toChecker) [(.tmp 31)], none⟩,
    ⟨(some 8), .op (.alloc (Value.agg #[Value.int .i64 0, Value.int .i64 0, Value.slice none 0 0, Value.slice none 0 0, Value.slice none 0 0, Value.slice none 0 0])), none⟩,
    ⟨none, .op (.store 6 (.tmp 8) (.tmp 32)), none⟩]) (.kill [31, 32]))
  (.seq (.post (.reg [⟨(some 34), .op (.load 6 true (.tmp 8)), none⟩,
    ⟨(some 35), .op (.mv (.tmp 1)), none⟩,
    ⟨(some 36), .call (.func i_impl_StacksOf) [(.tmp 34), (.tmp 35)], none⟩,
    ⟨(some 33), .op (.mv (.tmp 36)), none⟩,
    ⟨(some 37), .op (.ext (.tmp 33) 0), none⟩,
    ⟨(some 38), .op (.ext (.tmp 33) 1), none⟩,
    ⟨(some 9), .op (.mv (.tmp 37)), none⟩,
    ⟨(some 10), .op (.mv (.tmp 38)), none⟩]) (.kill [33, 34, 35, 36, 37, 38]))
  (.seq (.seq (.post (.reg [⟨(some 39), .op (.mv (.tmp 9)), none⟩,
    ⟨(some 40), .op (.mv (.tmp 6)), none⟩,
    ⟨(some 41), .call (.func i_laws_eqInt64SS) [(.tmp 39), (.tmp 40)], none⟩,
    ⟨(some 42), .op (.un .not (.tmp 41)), none⟩,
    ⟨(some 43), .op (.mv (.tmp 42)), none⟩,
    ⟨(some 44), .op (.mv (.tmp 10)), some (43, false)⟩,
    ⟨(some 45), .op (.mv (.tmp 7)), some (43, false)⟩,
    ⟨(some 46), .op (.bin .neq (.tmp 44) (.tmp 45)), some (43, false)⟩,
    ⟨(some 47), .op (.pick (.tmp 43) (.const (Value.bool true)) (.tmp 46)), none⟩]) (.kill [39, 40, 41, 42, 43, 44, 45, 46]))
  (.cond (.tmp 47) (.ghost (.kill [1, 2, 6, 7, 8, 9, 10, 47]) (.seq (.reg [⟨(some 4), .op (.mv (.const (Value.bool false))), none⟩])
  .ret))
  (.ghost (.kill [47]) .skip)))
  (.seq (.seq (.post (.draw [⟨0, ⟨(some 48), .op (.load 6 true (.tmp 8)), none⟩, []⟩,
    ⟨1, ⟨(some 49), .op (.load 6 true (.tmp 2)), none⟩, []⟩,
    ⟨2, ⟨(some 50), .call (.func i_laws_toChecker) [(.tmp 49)], none⟩, [0]⟩,
    ⟨3, ⟨(some 51), .call (.func i_laws_eqChecker) [(.tmp 48), (.tmp 50)], none⟩, []⟩,
    ⟨4, ⟨(some 52), .op (.un .not (.tmp 51)), none⟩, []⟩]
    [0, 0, 2, 7, 15]) (.kill [48, 49, 50, 51]))
  (.cond (.tmp 52) (.ghost (.kill [1, 2, 6, 7, 8, 9, 10, 52]) (.seq (.reg [⟨(some 4), .op (.mv (.const (Value.bool false))), none⟩])
  .ret))
  (.ghost (.kill [52]) .skip)))
  (.seq (.reg [⟨(some 11), .op (.mv (.const (Value.int .i64 1))), none⟩])
  (.seq (.post (.reg [⟨(some 53), .op (.load 6 true (.tmp 8)), none⟩,
    ⟨(some 54), .op (.mv (.tmp 11)), none⟩,
    ⟨(some 55), .call (.func i_laws_markChecker) [(.tmp 53), (.tmp 54)], none⟩,
    ⟨(some 11), .op (.mv (.tmp 55)), none⟩]) (.kill [8, 53, 54, 55]))
  (.seq (.seq (.post (.reg [⟨(some 56), .op (.mv (.tmp 11)), none⟩,
    ⟨(some 57), .op (.bin .lss (.tmp 56) (.const (Value.int .i64 0))), none⟩,
    ⟨(some 58), .op (.mv (.tmp 57)), none⟩,
    ⟨(some 59), .op (.mv (.tmp 9)), some (58, false)⟩,
    ⟨(some 60), .op (.mv (.tmp 6)), some (58, false)⟩,
    ⟨(some 61), .call (.func i_laws_eqInt64SS) [(.tmp 59), (.tmp 60)], some (58, false)⟩,
    ⟨(some 62), .op (.un .not (.tmp 61)), some (58, false)⟩,
    ⟨(some 63), .op (.pick (.tmp 58) (.const (Value.bool true)) (.tmp 62)), none⟩,
    ⟨(some 64), .op (.mv (.tmp 63)), none⟩,
    ⟨(some 65), .op (.mv (.tmp 10)), some (64, false)⟩,
    ⟨(some 66), .op (.mv (.tmp 7)), some (64, false)⟩,
    ⟨(some 67), .op (.bin .neq (.tmp 65) (.tmp 66)), some (64, false)⟩,
    ⟨(some 68), .op (.pick (.tmp 64) (.const (Value.bool true)) (.tmp 67)), none⟩]) (.kill [10, 11, 56, 57, 58, 59, 60, 61, 62, 63, 64, 65, 66, 67]))
  (.cond (.tmp 68) (.ghost (.kill [1, 2, 6, 7, 9, 68]) (.seq (.reg [⟨(some 4), .op (.mv (.const (Value.bool false))), none⟩])
  .ret))
  (.ghost (.kill [68]) .skip)))
  (.seq (.reg [⟨(some 12), .op (.mv (.const (Value.int .i64 1))), none⟩])
  (.seq (.post (.reg [⟨(some 69), .op (.mv (.tmp 9)), none⟩,
    ⟨(some 70), .op (.mv (.tmp 12)), none⟩,
    ⟨(some 71), .call (.func i_laws_markInt64SS) [(.tmp 69), (.tmp 70)], none⟩,
    ⟨(some 12), .op (.mv (.tmp 71)), none⟩]) (.kill [69, 70, 71]))
  (.seq (.reg [⟨(some 13), .op (.mv (.const (Value.int .i64 1))), none⟩])
  (.seq (.post (.reg [⟨(some 72), .op (.mv (.tmp 9)), none⟩,
    ⟨(some 73), .op (.mv (.tmp 13)), none⟩,
    ⟨(some 74), .call (.func i_laws_heldInt64SS) [(.tmp 72), (.tmp 73)], none⟩,
    ⟨(some 13), .op (.mv (.tmp 74)), none⟩]) (.kill [72, 73, 74]))
  (.seq (.seq (.post (.reg [⟨(some 75), .op (.mv (.tmp 13)), none⟩,
    ⟨(some 76), .op (.bin .lss (.tmp 75) (.const (Value.int .i64 0))), none⟩]) (.kill [75]))
  (.cond (.tmp 76) (.ghost (.kill [1, 2, 6, 7, 9, 12, 13, 76]) (.seq (.reg [⟨(some 4), .op (.mv (.const (Value.bool false))), none⟩])
  .ret))
  (.ghost (.kill [76]) .skip)))
  (.seq (.seq (.post (.reg [⟨(some 77), .op (.mv (.tmp 13)), none⟩,
    ⟨(some 78), .op (.mv (.tmp 12)), none⟩,
    ⟨(some 79), .op (.bin .neq (.tmp 77) (.tmp 78)), none⟩]) (.kill [13, 77, 78]))
  (.cond (.tmp 79) (.ghost (.kill [1, 2, 6, 7, 9, 12, 79]) (.seq (.reg [⟨(some 4), .op (.mv (.const (Value.bool false))), none⟩])
  .ret))
  (.ghost (.kill [79]) .skip)))
  (.seq (.post (.reg [⟨(some 81), .op (.load 6 true (.tmp 2)), none⟩,
    ⟨(some 82), .call (.func i_laws_toChecker) [(.tmp 81)], none⟩,
    ⟨(some 83), .op (.mv (.tmp 1)), none⟩,
    ⟨(some 84), .call (.func i_impl_StacksOf) [(.tmp 82), (.tmp 83)], none⟩,
    ⟨(some 80), .op (.mv (.tmp 84)), none⟩,
    ⟨(some 85), .op (.ext (.tmp 80) 0), none⟩,
    ⟨(some 86), .op (.ext (.tmp 80) 1), none⟩,
    ⟨(some 14), .op (.mv (.tmp 85)), none⟩,
    ⟨(some 15), .op (.mv (.tmp 86)), none⟩]) (.kill [1, 2, 80, 81, 82, 83, 84, 85, 86]))
  (.seq (.seq (.post (.reg [⟨(some 87), .op (.mv (.tmp 14)), none⟩,
    ⟨(some 88), .op (.mv (.tmp 6)), none⟩,
    ⟨(some 89), .call (.func i_laws_eqInt64SS) [(.tmp 87), (.tmp 88)], none⟩,
    ⟨(some 90), .op (.un .not (.tmp 89)), none⟩,
    ⟨(some 91), .op (.mv (.tmp 90)), none⟩,
    ⟨(some 92), .op (.mv (.tmp 15)), some (91, false)⟩,
    ⟨(some 93), .op (.mv (.tmp 7)), some (91, false)⟩,
    ⟨(some 94), .op (.bin .neq (.tmp 92) (.tmp 93)), some (91, false)⟩,
    ⟨(some 95), .op (.pick (.tmp 91) (.const (Value.bool true)) (.tmp 94)), none⟩]) (.kill [6, 7, 14, 15, 87, 88, 89, 90, 91, 92, 93, 94]))
  (.cond (.tmp 95) (.ghost (.kill [9, 12, 95]) (.seq (.reg [⟨(some 4), .op (.mv (.const (Value.bool false))), none⟩])
  .ret))
  (.ghost (.kill [95]) .skip)))
  (.seq (.reg [⟨(some 13), .op (.mv (.const (Value.int .i64 1))), none⟩])
  (.seq (.post (.reg [⟨(some 96), .op (.mv (.tmp 9)), none⟩,
    ⟨(some 97), .op (.mv (.tmp 13)), none⟩,
    ⟨(some 98), .call (.func i_laws_heldInt64SS) [(.tmp 96), (.tmp 97)], none⟩,
    ⟨(some 13), .op (.mv (.tmp 98)), none⟩]) (.kill [9, 96, 97, 98]))
  (.seq (.seq (.post (.reg [⟨(some 99), .op (.mv (.tmp 13)), none⟩,
    ⟨(some 100), .op (.bin .lss (.tmp 99) (.const (Value.int .i64 0))), none⟩]) (.kill [99]))
  (.cond (.tmp 100) (.ghost (.kill [12, 13, 100]) (.seq (.reg [⟨(some 4), .op (.mv (.const (Value.bool false))), none⟩])
  .ret))
  (.ghost (.kill [100]) .skip)))
  (.seq (.seq (.post (.reg [⟨(some 101), .op (.mv (.tmp 13)), none⟩,
    ⟨(some 102), .op (.mv (.tmp 12)), none⟩,
    ⟨(some 103), .op (.bin .neq (.tmp 101) (.tmp 102)), none⟩]) (.kill [12, 13, 101, 102]))
  (.cond (.tmp 103) (.ghost (.kill [103]) (.seq (.reg [⟨(some 4), .op (.mv (.const (Value.bool false))), none⟩])
  .ret))
  (.ghost (.kill [103]) .skip)))
  (.seq (.reg [⟨(some 4), .op (.mv (.const (Value.bool true))), none⟩])
  .ret))))))))))))))))))))))))))
theorem cf_laws_FnExactStacksOf : chkFn Try.prog i_laws_FnExactStacksOf ac_laws_FnExactStacksOf [.tmp 4] 104 = true := by decide +kernel
def fa_laws_FnExactStacksOf : FnA := ⟨ac_laws_FnExactStacksOf, [.tmp 4], 104, false, true, [], .any, none⟩

end Go.Proofs.Ytegjfjckijmgcaa
